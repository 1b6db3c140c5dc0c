/- For all lists of numbers OrderSorts returns true, and its arguments read as they did. Condition: the table of fields is laid as the program's text lays it (the card ties it). -/
import Derived.Test.YtilacabmbjephaaGreatDoorCards
import Derived.Test.YtilacabmbjephaaGreatDoorTie
import Derived.Test.YtilacabmbjephaaGreatDoorCV
import Derived.WalkKit
import Derived.ProofKit
import Derived.OpenShut
import Derived.MakeChecks
import Derived.Deep.DeepHandedRow
namespace Go.Proofs.YtilacabmbjephaaGreatDoor
open Go Go.GX
open Go.ChangeShapes Go.WideShapes Go.ChangeAt Go.RowKit
set_option linter.unusedVariables false

theorem ownK : ownKnob Tryz.prog.godebug = none := by kernel_rfl
theorem laidOutP : laidOutB Tryz.prog = true := by kernel_rfl
theorem cellsOf3 : Tryz.prog.cellsOf 3 = 1 := by kernel_rfl
theorem cellsOf4 : Tryz.prog.cellsOf 4 = 1 := by kernel_rfl
theorem gUsed : Tryz.prog.globalNamed "refuter/tree.used" = some 0 := by kernel_rfl
theorem tUsed : (Tryz.prog.globals[0]?).map (·.type) = some 153 := by kernel_rfl
theorem cells152 : Tryz.prog.cellsOf 152 = 6 := by kernel_rfl
theorem cells153 : Tryz.prog.cellsOf 153 = 30 := by kernel_rfl

/-! ## The table of fields, out of the row's list -/
section
variable {H : Type} {enc : TypeId × Value → H} {P : Program} {w : World} {base : Nat} {sp : Nat → Bool} {held : Bool}
theorem bools_of {n : Nat} {t e : TypeId} {fuel : Nat} {cs : List Value} {d : DataW H} {p : List MemPlace} (bs : List Bool) (ht : P.underlying t = some (.array n e)) (he : P.underlying e = some .bool) (hce : P.cellsOf e = 1) (hct : P.cellsOf t = n)
    (h : DataW.trod enc P w base sp held fuel t cs = some (d, p)) (hd : d = .agg (bs.map fun b => .lit (.bool b))) : cs = bs.map .bool := by
  obtain ⟨xs, m, rfl, hx, hlen, hxl, hel⟩ := DataW.trod_array ht h
  simp only [Prod.mk.injEq] at hx
  obtain ⟨rfl, rfl⟩ := hx
  simp only [DataW.agg.injEq] at hd
  have hbl : bs.length = n := by
    have := congrArg List.length hd
    simp at this
    omega
  apply List.ext_getElem?
  intro i
  by_cases hi : i < n
  · have := hel i hi
    rw [List.getElem?_eq_getElem (by omega)] at this
    obtain ⟨b, hc, hb⟩ := DataW.trod_bool he this
    have h1 : cs[i]? = some (.bool b) := by
      have := congrArg (·[0]?) hc
      simpa [hce, List.getElem?_take, List.getElem?_drop] using this
    have h2 : (xs.map (·.1))[i]? = some (DataW.lit (.bool b) : DataW H) := by
      rw [List.getElem?_map, List.getElem?_eq_getElem (by omega), hb]; rfl
    rw [hd, List.getElem?_map, List.getElem?_eq_getElem (by omega)] at h2
    simp at h2
    rw [h1, List.getElem?_map, List.getElem?_eq_getElem (by omega)]
    simp [h2]
  · rw [List.getElem?_eq_none (by omega), List.getElem?_eq_none (by simp; omega)]
end
def usedRows : List (List Bool) := [[false, false, false, false, false, true], [false, true, false, false, false, false], [false, false, true, false, true, false], [true, false, false, false, true, false], [false, false, false, true, true, false]]
theorem used_at : ∀ j, j < 30 → (((usedRows.getD (j / 6) []).map Value.bool)[j % 6]? : Option Value) = usedCells[j]? := by
  intro j hj
  have h : (usedRows.getD (j / 6) [])[j % 6]? = usedL[j]? := by
    have : ∀ j, j < 30 → (usedRows.getD (j / 6) [])[j % 6]? = usedL[j]? := by decide
    exact this j hj
  unfold usedCells
  rw [List.getElem?_map, h]
  simp
theorem used_of {W : World} (h : laidMetH Tryz.prog Rows.orderSortsRow.laid W) : Used W := by
  rw [MakeChecks.laidMetH_plain _ _ _ (by kernel_rfl)] at h
  obtain ⟨ps, ⟨g0, t0, cs0, f0, p0, q0, hg0, ht0, hv0, hd0, ⟨g1, t1, cs1, f1, p1, q1, hg1, ht1, hv1, hd1, _, _⟩, _⟩, _, _⟩ := h
  obtain rfl := Option.some.inj (gUsed.symm.trans hg1)
  obtain rfl := Option.some.inj (tUsed.symm.trans ht1)
  obtain ⟨xs, m, rfl, hx, hlen, hxl, hel⟩ := DataW.trod_array Tryz.underlying153 hd1
  rw [cells153] at hlen
  have e1 : Rows.laid_refuter_tree_used = (.agg (usedRows.map fun bs => .agg (bs.map fun b => .lit (.bool b))) : DataW Unit) := rfl
  rw [e1] at hx
  simp only [Prod.mk.injEq, DataW.agg.injEq] at hx
  have hrow : ∀ i, i < 5 → (cs1.toList.drop (i * 6)).take 6 = (usedRows.getD i []).map Value.bool := by
    intro i hi
    have h1 := hel i hi
    rw [cells152, List.getElem?_eq_getElem (by omega)] at h1
    refine bools_of _ Tryz.underlying152 Tryz.underlying4 cellsOf4 cells152 (show DataW.trod _ _ _ _ _ _ _ _ _ = some (xs[i].1, xs[i].2) from h1) ?_
    have h2 : (xs.map (·.1))[i]? = some xs[i].1 := by rw [List.getElem?_map, List.getElem?_eq_getElem (by omega)]; rfl
    rw [← hx.1, List.getElem?_map, List.getElem?_eq_getElem (show i < usedRows.length from hi)] at h2
    simp only [Option.map_some, Option.some.injEq] at h2
    rw [← h2]
    simp [List.getD, List.getElem?_eq_getElem (show i < usedRows.length from hi)]
  intro j v hj
  have hj30 : j < 30 := (Array.getElem?_eq_some_iff.1 hj).1
  have h3 := World.var?_cell gUsed hv1 j
  have h4 : cs1[j]? = usedCells[j]? := by
    have h5 := congrArg (fun l : List Value => l[j % 6]?) (hrow (j / 6) (by omega))
    have h6 : ((cs1.toList.drop (j / 6 * 6)).take 6)[j % 6]? = cs1.toList[j]? := by
      rw [List.getElem?_take_of_lt (Nat.mod_lt _ (by decide)), List.getElem?_drop, Nat.mul_comm, Nat.div_add_mod]
    exact (Array.getElem?_toList).symm.trans (h6.symm.trans (h5.trans (used_at j hj30)))
  have e5 : (⟨0, 0, none⟩ : Addr).add j = ⟨0, j, none⟩ := by unfold Addr.add; split <;> simp_all
  rw [e5, h3, h4, hj]

/-! ## The arguments -/
theorem opened {H : Type} {enc : TypeId × Value → H} {W : World} {A : Option Addr} {n c : Nat} {d : DataW H} {p : List MemPlace}
    (h : DataW.Trod enc Tryz.prog W 0 (fun _ => true) true 22 (.slice A n c) d p) : ∃ l, SlR intK No W A n c l := by
  obtain ⟨fuel, hf⟩ := h
  rcases open_ints Tryz.underlying22 Tryz.underlying3 cellsOf3 hf with ⟨hcs, hx⟩ | ⟨a, len, cap, zs, hcs, _, hl, hm, hz, hx, hcell, hwz⟩
  · simp [Value.cells] at hcs
    obtain ⟨rfl, rfl, rfl⟩ := hcs
    exact ⟨[], SlR.nil _ _ _ _ _ (Nat.zero_le _) (fun _ => rfl)⟩
  · simp [Value.cells] at hcs
    obtain ⟨rfl, rfl, rfl⟩ := hcs
    simp only [if_true] at hz
    refine ⟨zs.take n, by simp; omega, hl, hm, by simp, fun i hi => ?_⟩
    have hi' : i < n := by simp at hi; omega
    have hw := hwz zs[i] (List.getElem_mem _)
    refine ⟨a, #[.int .i64 zs[i]], rfl, fun h => h, ⟨by simp, ?_⟩, ?_⟩
    · have hw' : IntKind.i64.min ≤ zs[i] ∧ zs[i] ≤ IntKind.i64.max := by simpa [Lit.wf] using hw
      rw [List.getElem_take]
      exact hw'
    · intro j v hj
      have : j < 1 := (Array.getElem?_eq_some_iff.1 hj).1
      obtain rfl : j = 0 := by omega
      simp at hj
      subst hj
      have := hcell i (by omega)
      simpa [intK, add_add, List.getD, List.getElem?_eq_getElem (show i < zs.length by omega)] using this

set_option maxRecDepth 100000 in
theorem sorts_contract (H : Type) (enc : TypeId × Value → H) (W : World) (base : Nat) (args : Array Value) (ds gs : List (DataW H)) (before : List MemPlace)
    (hval : ∀ (j : Nat) t v, Tryz.f3.params[j]? = some t → args[j]? = some v → Value.okWide Tryz.prog W .any base t v)
    (hW : DataW.Whole enc Tryz.prog Tryz.f3.params.toList Rows.orderSortsSpec.vars false W args.toList ds gs before) (hL : laidMetH Tryz.prog Rows.orderSortsRow.laid W) :
    Calls Tryz.prog 3 args W fun e W' => ∃ v, e = .returned v ∧ Rows.orderSortsSpec.post enc Tryz.prog Tryz.f3 false true false false W args v W' := by
  have hW' := hW
  obtain ⟨p, q, hA0, hV, rfl, hfz, hnd⟩ := hW
  have hA : DataW.TrodAll enc Tryz.prog W 0 (fun _ => true) true Tryz.f3.params.toList args.toList ds p := hA0
  rw [Tryz.params3] at hA hval
  obtain ⟨v0, vs0, d0, ds0, p0, q0, hargs, rfl, rfl, h0, r0⟩ := trodAll_cons hA
  obtain ⟨v1, vs1, d1, ds1, p1, q1, rfl, rfl, rfl, h1, r1⟩ := trodAll_cons r0
  obtain ⟨v2, vs2, d2, ds2, p2, q2, rfl, rfl, rfl, h2, r2⟩ := trodAll_cons r1
  obtain ⟨rfl, rfl, rfl⟩ := trodAll_nil r2
  obtain rfl : args = #[v0, v1, v2] := by cases args; simp_all
  obtain ⟨rfl, rfl⟩ := trodVars_none hV
  obtain ⟨a0, len0, cap0, rfl⟩ := okWide_slice Tryz.underlying22 (hval 0 22 v0 rfl rfl)
  obtain ⟨a1, len1, cap1, rfl⟩ := okWide_slice Tryz.underlying22 (hval 1 22 v1 rfl rfl)
  obtain ⟨a2, len2, cap2, rfl⟩ := okWide_slice Tryz.underlying22 (hval 2 22 v2 rfl rfl)
  clear hA0
  simp only [List.append_nil] at hW'
  have hlt : ∀ x ∈ p0 ++ (p1 ++ p2), x.block < W.heap.size := fun x hx => by simpa using hW'.lt x hx
  obtain ⟨l0, hl0⟩ := opened h0
  obtain ⟨l1, hl1⟩ := opened h1
  obtain ⟨l2, hl2⟩ := opened h2
  refine (sorts_walk l0 l1 l2 W hl0 hl1 hl2 (used_of hL)).mono fun e W' he => ?_
  match e, he with
  | .returned v, he => ?_
  obtain ⟨hE, rfl⟩ := he
  have hb : Below W.heap.size W W' := hE.below
  have g0 := Below.trod laidOutP (by kernel_rfl) (of_decide_eq_true (by kernel_rfl)) h0 hb (fun x hx => hlt x (by simp [hx]))
  have g1 := Below.trod laidOutP (by kernel_rfl) (of_decide_eq_true (by kernel_rfl)) h1 hb (fun x hx => hlt x (by simp [hx]))
  have g2 := Below.trod laidOutP (by kernel_rfl) (of_decide_eq_true (by kernel_rfl)) h2 hb (fun x hx => hlt x (by simp [hx]))
  exact ⟨_, rfl, _, _, _, [], _, [], hW', trodAll_mk1 (shut_bool Tryz.underlying4 _), trodAll_mk3 g0 g1 g2, rfl, hb.frame _, fun h => by cases h⟩

/-! ## The row and the card -/
def rangeCells : Array Value := ([128, 191, 160, 191, 128, 159, 144, 191, 128, 143, 0, 0, 0, 0, 0, 0, 0, 0, 0, 0, 0, 0, 0, 0, 0, 0, 0, 0, 0, 0, 0, 0].map fun z : Int => Value.int .u8 z).toArray
def firstCells : Array Value := (Pinned.utf8FirstZ.map fun z : Nat => Value.int .u8 (z : Int)).toArray
def putCells (cs : Array Value) : Obj → Obj
  | .cells _ t frozen => .cells cs t frozen
  | o => o
/-- A world for the witness: the tables lie in it as they are laid. -/
noncomputable def laidWorld (os : Os) : World :=
  let w0 := World.holding Tryz.prog os ⟨#[], #[], []⟩
  { w0 with heap := ((w0.heap.modify 0 (putCells usedCells)).modify 2 (putCells firstCells)).modify 3 (putCells rangeCells) }
set_option maxRecDepth 100000 in
theorem laid_met (os : Os) (args : Array Value) : laidMet Tryz.prog Rows.orderSortsRow.laid ((laidWorld os).forCall (fun _ _ => 0) ⟨#[], args, []⟩).memory :=
  laidMet_of_run' 8 (by kernel_rfl) (by kernel_rfl)
theorem reads (os : Os) {H : Type} (enc : TypeId × Value → H) : ∃ places, DataW.whole enc Tryz.prog ((laidWorld os).forCall (fun _ _ => 0) ⟨#[], #[.slice none 0 0, .slice none 0 0, .slice none 0 0], []⟩).memory Tryz.f3.params.toList Rows.orderSortsSpec.vars false #[Value.slice none 0 0, .slice none 0 0, .slice none 0 0].toList 8 = some ([.nil, .nil, .nil], [], places) :=
  ⟨[], by kernel_rfl⟩

set_option maxRecDepth 100000 in
theorem sorts_lifted (os : Os) (started : os.Started) (H : Type) (enc : TypeId × Value → H) (F : Stop.Interp) :
    ReturnsInHanded {} Tryz.checked os 3 .any ((OpenSpec.ofChange Rows.orderSortsSpec).preRow enc Tryz.prog Tryz.f3 Rows.orderSortsRow.domain false Rows.orderSortsRow.laid) (((OpenSpec.ofChange Rows.orderSortsSpec).at F).post enc Tryz.prog Tryz.f3 false true false false) := by
  obtain ⟨places, hx⟩ := reads os enc
  refine returnsInHanded_of_row (C := Tryz.checked) (s := OpenSpec.ofChange Rows.orderSortsSpec) ownK started (by kernel_rfl) Tryz.func3
    (witness_row_at (enc := enc) (C := Tryz.checked) false (laidWorld os) #[.slice none 0 0, .slice none 0 0, .slice none 0 0] rfl (by kernel_rfl) (by kernel_rfl) (by kernel_rfl)
      (OpenSpec.preRow_of_cond 8 hx (by kernel_rfl) (fun k hk => by cases hk) (by kernel_rfl) (laid_met os _))) ?_
  intro W base args ds gs before hval hW _ _ _ hL _ _
  exact sorts_contract H enc W base args ds gs before hval hW hL

theorem orderSorts_said : Rows.OrderSortsSaid :=
  OpenClaim.holds_of_cond 3 Tryz.f3 rfl rfl rfl rfl rfl rfl rfl ⟨rfl, rfl, rfl, rfl, rfl⟩ rfl rfl rfl rfl rfl (by kernel_rfl) Tryz.func3 (by kernel_rfl)
    (of_decide_eq_true (by kernel_rfl)) (by unfold Func.isWrapper; first | (rw [if_pos (by decide +kernel)]; kernel_rfl) | (rw [if_neg (by decide +kernel)]; exact ⟨rfl, rfl⟩))
    (fun os started H enc _ F => by rw [OpenClaim.pre_eq_preRow]; exact sorts_lifted os started H enc F)

/-- No parameter wants a stand-in; the program's looks are on. -/
theorem sorts_plain (f : FuncId) (fn : Func) (hf : Tryz.pinned.checked.prog.funcNamed "refuter/refuterlaw21.OrderSorts" = some f) (hfn : Tryz.pinned.checked.prog.funcs[f]? = some fn) :
    true = Tryz.pinned.checked.prog.looks [] ∧ ∀ (j : Nat) t, fn.params[j]? = some t → Tryz.pinned.checked.prog.wantsStandIn t = false := by
  obtain rfl : f = 3 := Option.some.inj ((show Tryz.prog.funcNamed "refuter/refuterlaw21.OrderSorts" = some 3 by kernel_rfl).symm.trans hf) |>.symm
  obtain rfl : fn = Tryz.f3 := (Option.some.inj (Tryz.func3.symm.trans hfn)).symm
  refine ⟨by kernel_rfl, fun j t ht => ?_⟩
  rw [Tryz.params3] at ht
  obtain rfl : t = 22 := by simpa using Array.mem_of_getElem? ht
  exact (show Tryz.prog.wantsStandIn 22 = false by kernel_rfl)

theorem orderSorts_card : Rows.OrderSortsCardSaid :=
  Claim7.holds_tied_plain_at .later [] _ _ _ _ orderSorts_said (fun _ h => by cases h) (by kernel_rfl) (fun _ h => by cases h) orderSorts_row_tie rfl ⟨rfl, rfl⟩ (by kernel_rfl) rfl sorts_plain (by kernel_rfl)
#print axioms orderSorts_card
end Go.Proofs.YtilacabmbjephaaGreatDoor
