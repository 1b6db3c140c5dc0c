/- Contracts: the path that numbers lead to (Fit). -/
import Derived.Test.YtilacabmbjephaaGreatDoorCI
import Derived.Test.YtilacabmbjephaaGreatDoorCS
namespace Go.Proofs.YtilacabmbjephaaGreatDoor
open Go Go.GX
set_option linter.unusedVariables false
set_option linter.unusedSimpArgs false

/-- A choice out of numbers. -/
def clamp (raw : List Int) (i : Nat) (opts : Int) : Int :=
  if i < raw.length then (if (if opts - 1 < raw.getD i 0 then opts - 1 else raw.getD i 0) > 0 then (if opts - 1 < raw.getD i 0 then opts - 1 else raw.getD i 0) else 0) else 0
def rangeB (x : Nod) : Bool := !decide (x.kind = 1) || (intB (x.hi - x.lo) && intB (x.hi - x.lo + 1))
def chFit (T : List Nod) (raw : List Int) (i node : Nat) : Option (Except Stop Int) := match T[node]? with
  | none => none
  | some x => if rangeB x = true then some (.ok (clamp raw i (optsP x))) else none
theorem rangeB_ok {x : Nod} (h : rangeB x = true) : x.kind = 1 → intOk (x.hi - x.lo) ∧ intOk (x.hi - x.lo + 1) := by
  intro hk
  simp only [rangeB, hk, decide_true, Bool.not_true, Bool.false_or, Bool.and_eq_true] at h
  exact ⟨intB_ok h.1, intB_ok h.2⟩

/-- The blocks of a call of Fit: the boxes of the reader's pointer, of the numbers, of the tree, of the path. -/
structure FitB where
  rb : Nat
  wb : Nat
  tb : Nat
  ob : Nat
  RA : Option Addr
  rc : Nat
  raw : List Int
def FitJ (D : Rd) (F : FitB) : Mem := fun outs BC w => ∃ OA oc, BC = (fun k => k = F.ob ∨ own OA k) ∧
  w.cell? ⟨F.rb, 0, none⟩ = some (.pointer (some ⟨D.g, 0, none⟩)) ∧ w.cell? ⟨F.wb, 0, none⟩ = some (.slice F.RA F.raw.length F.rc) ∧ w.cell? ⟨F.tb, 0, none⟩ = some (.slice D.TA D.nodes.length D.tc) ∧
  w.cell? ⟨F.ob, 0, none⟩ = some (.slice OA outs.length oc) ∧ w.frozen? ⟨F.ob, 0, none⟩ = false ∧ SlR intK D.X w F.RA F.raw.length F.rc F.raw ∧
  OwnR intK 3 D.b1 No w OA outs.length oc outs
structure FitD (D : Rd) (F : FitB) : Prop where
  rb : ¬ D.X F.rb
  wb : ¬ D.X F.wb
  tb : ¬ D.X F.tb
  ob : D.X F.ob
  ob1 : F.ob < D.b1
  g : F.ob ≠ D.g
  X1 : ∀ k, D.b1 ≤ k → D.X k
  cf : D.cf = 48
  cap : D.ccap = #[.pointer (some ⟨F.rb, 0, none⟩), .pointer (some ⟨F.wb, 0, none⟩), .pointer (some ⟨F.tb, 0, none⟩), .pointer (some ⟨F.ob, 0, none⟩)]
section
variable {D : Rd} {F : FitB}
theorem own_weakX {α : Type} {E : Kd α} {e : TypeId} {b : Nat} {X Y : Nat → Prop} {w : World} {A : Option Addr} {n c : Nat} {ds : List α} (hE : ∀ {X X' : Nat → Prop} {w w' : World} {cs : Array Value} {d : α}, E.R X w cs d → E.R X' w' cs d)
    (h : OwnR E e b X w A n c ds) : OwnR E e b Y w A n c ds := by
  obtain ⟨css, hr, ha⟩ := h.ex
  exact ⟨h.len, css, hr, ha.mono fun cs d hR => hE hR⟩
theorem own_extX {α : Type} {E : Kd α} {e : TypeId} {b : Nat} {X Y : Nat → Prop} {w w' : World} {A : Option Addr} {n c : Nat} {ds : List α} (hE : ∀ {X X' : Nat → Prop} {w w' : World} {cs : Array Value} {d : α}, E.R X w cs d → E.R X' w' cs d)
    (h : OwnR E e b X w A n c ds) (hx : Ext Y w w') (hA : ∀ k, own A k → ¬ Y k) : OwnR E e b X w' A n c ds :=
  own_weakX hE ((own_weakX hE h (Y := Y)).ext hx (fun _ _ h => h) hA)
theorem intK_any {X X' : Nat → Prop} {w w' : World} {cs : Array Value} {d : Int} (h : intK.R X w cs d) : intK.R X' w' cs d := h
theorem fitM (hF : FitD D F) : MemOk D (FitJ D F) := by
  rintro outs BC w w' Y ⟨OA, oc, rfl, h1, h2, h3, h4, h5, h6, h7⟩ hb hE hY
  have hob := cell_lt h4
  have nX : ∀ {k}, k < w.heap.size → ¬ D.X k → ¬ Y k := fun hk hx hy => hx (hY _ hk hy).1
  have nob : ¬ Y F.ob := fun hy => (hY _ hob hy).2 (.inl rfl)
  refine ⟨OA, oc, rfl, hE.cell h1 (nX (cell_lt h1) hF.rb), hE.cell h2 (nX (cell_lt h2) hF.wb), hE.cell h3 (nX (cell_lt h3) hF.tb), hE.cell h4 nob, (hE.frozen hob nob).trans h5,
    h6.ext (hE.mono (Y := D.X) fun k hk hy => (hY k hk hy).1) (Upd.same _ _), own_extX intK_any h7 hE fun k hk hy => (hY k (h7.lt k hk).2 hy).2 (.inr hk)⟩
theorem clamp_ok {raw : List Int} {i : Nat} {o : Int} (h : ∀ x ∈ raw, intOk x) (ho : intOk (o - 1)) : intOk (clamp raw i o) := by
  have z : intOk 0 := by constructor <;> decide
  unfold clamp
  split
  · rename_i hi
    have hr : intOk (raw.getD i 0) := by
      simp only [List.getD_eq_getElem?_getD, List.getElem?_eq_getElem hi, Option.getD_some]
      exact h _ (List.getElem_mem hi)
    have hm : intOk (if o - 1 < raw.getD i 0 then o - 1 else raw.getD i 0) := by
      split
      · exact ho
      · exact hr
    generalize (if o - 1 < raw.getD i 0 then o - 1 else raw.getD i 0) = m at hm
    split
    · exact hm
    · exact z
  · exact z
theorem optsP_ok {X : Nat → Prop} {w : World} {cs : Array Value} {x : Nod} (h : NodeR X w cs x) (hr : rangeB x = true) : intOk (optsP x - 1) := by
  unfold optsP
  split
  · rename_i hk
    have := (rangeB_ok hr hk).1
    rwa [show x.hi - x.lo + 1 - 1 = x.hi - x.lo by omega]
  · obtain ⟨⟨A1, c1, A2, c2, A3, c3, A4, c4, A5, c5, hcs, h1, h2, h3, h4, h5⟩, _⟩ := h
    have a := h4.cap
    have b := h4.max
    rw [maxLen_eq] at b
    constructor <;> omega
theorem fitCh (hF : FitD D F) (hraw : ∀ x ∈ F.raw, intOk x) : ChOk D (FitJ D F) (chFit D.nodes F.raw) := by
  refine ⟨by rw [hF.cf]; kernel_rfl, fun st w SA sc BC node r hC hn hlt hr => ?_⟩
  unfold chFit at hr
  have hx : D.nodes[node]? = some D.nodes[node] := List.getElem?_eq_getElem hn
  rw [hx] at hr
  simp only [] at hr
  split at hr
  case isFalse => cases hr
  rename_i hrb
  simp only [Option.some.injEq] at hr
  subst hr
  obtain ⟨a, cs, hTA, hcsz, hR, hcells, hna⟩ := hC.node hx
  have hC0 := hC
  obtain ⟨OA, oc, rfl, h1, h2, h3, h4, h5, h6, h7⟩ := hC.cj
  rw [hF.cf, hF.cap]
  show Calls Tryz.prog 48 #[.int .i64 (node : Nat), .pointer (some ⟨F.rb, 0, none⟩), .pointer (some ⟨F.wb, 0, none⟩), .pointer (some ⟨F.tb, 0, none⟩), .pointer (some ⟨F.ob, 0, none⟩)] w _
  have hco := clamp_ok (i := st.outs.length) hraw (optsP_ok hR hrb)
  -- the rest, behind the choice
  have rest : ∀ w1, Ext No w w1 → m48_K1 (Ret
      (fun v w' => ∃ c BC', Except.ok (clamp F.raw st.outs.length (optsP D.nodes[node])) = (Except.ok c : Except Stop Int) ∧ v = .int .i64 c ∧ Upd (fun k => k = F.ob ∨ own OA k) BC' w ∧ (∀ k, BC' k → k < w'.heap.size) ∧ Ext (fun k => k = F.ob ∨ own OA k) w w' ∧ FitJ D F (st.outs ++ [c]) BC' w')
      (fun chn w' => ∃ nd er, Except.ok (clamp F.raw st.outs.length (optsP D.nodes[node])) = (Except.error (nd, er) : Except Stop Int) ∧ chn = [{ v := .iface 76 (.agg #[.int .i64 nd, .int .i64 er]), recovered := false }] ∧ Ext (fun k => k = F.ob ∨ own OA k) w w'))
      ⟨F.ob, 0, none⟩ (clamp F.raw st.outs.length (optsP D.nodes[node])) w1 := by
    intro w1 hE1
    unfold m48_K1
    refine ⟨_, hE1.cell h4 (fun h => h), _, _, _, rfl, by intro v hv; simp at hv; subst hv; rfl, ?_⟩
    have hob := cell_lt h4
    have hob1 : F.ob < w1.heap.size := Nat.lt_of_lt_of_le hob hE1.size
    have hno : ¬ own OA F.ob := fun h => by have := (h7.lt _ h).1; have := hF.ob1; omega
    refine (h7.ext0 hE1).push' elInt (v := .int .i64 (clamp F.raw st.outs.length (optsP D.nodes[node]))) (x := clamp F.raw st.outs.length (optsP D.nodes[node])) rfl ⟨rfl, hco⟩ (Nat.le_trans hC0.b1 hE1.size) (by unfold most at hlt; simp [maxLen]; omega) (by unfold most at hlt; omega) fun A2 c2 w2 hE2 hO2 hf2 => ?_
    have e4 := hE2.cell (hE1.cell h4 (fun h => h)) hno
    have f4 : w2.frozen? ⟨F.ob, 0, none⟩ = false := (hE2.frozen hob1 hno).trans ((hE1.frozen hob (fun h => h)).trans h5)
    refine ⟨_, _, _, rfl, ⟨_, e4⟩, f4, ?_⟩
    have hE3 : Ext (fun k => k = F.ob) w2 (w2.setCell ⟨F.ob, 0, none⟩ (.slice A2 (st.outs.length + 1) c2)) := (Ext.refl _ _).setCell _ fun _ => rfl
    have hE : Ext (fun k => k = F.ob ∨ own OA k) w (w2.setCell ⟨F.ob, 0, none⟩ (.slice A2 (st.outs.length + 1) c2)) :=
      (hE1.no.trans (hE2.mono fun k _ h => .inr h)).setCell _ fun _ => .inl rfl
    have hno2 : ¬ own A2 F.ob := fun h => by have := (hO2.lt _ h).1; have := hF.ob1; omega
    have hl : st.outs.length + 1 = (st.outs ++ [clamp F.raw st.outs.length (optsP D.nodes[node])]).length := by simp
    have hX : ∀ k, (fun k => k = F.ob ∨ own OA k) k → D.X k := hC0.bX
    have keep : ∀ {p : Addr} {v : Value}, w.cell? p = some v → ¬ D.X p.block → (w2.setCell ⟨F.ob, 0, none⟩ (.slice A2 (st.outs.length + 1) c2)).cell? p = some v := fun h hn => hE.cell h fun h => hn (hX _ h)
    refine ⟨_, fun k => k = F.ob ∨ own A2 k, rfl, rfl, ?_, ?_, hE, A2, c2, rfl, keep h1 hF.rb, keep h2 hF.wb, keep h3 hF.tb, ?_, by rw [World.frozen?_setCell]; exact f4, ?_, ?_⟩
    · rintro k (h | h)
      · exact .inl (.inl h)
      · exact (hf2 k h).imp .inr fun h => Nat.le_trans hE1.size h
    · rintro k (rfl | h)
      · exact Nat.lt_of_lt_of_le hob hE.size
      · have := (hO2.lt k h).2
        simpa [World.setCell] using this
    · rw [World.cell?_setCell_same' _ _ _ (by rw [e4]; rfl), ← hl]
    · exact h6.ext (hE.mono (Y := D.X) fun k _ hk => hX k hk) (Upd.same _ _)
    · rw [← hl]
      exact own_extX intK_any hO2 hE3 fun k hk hy => by
        have hy' : k = F.ob := hy
        rw [hy'] at hk
        exact hno2 hk
  apply c48
  unfold m48
  have hd : Ext No w w.drew := (Ext.refl No w).drew
  refine ⟨fun w' => Ext No w w', hd, _, fun w' h => h.cell h1 (fun h => h), _, rfl, _, rfl, _, fun w' h => by rw [addr0]; exact h.cell hC.c2 (fun h => h), _, rfl, _, fun w' h => h.cell h2 (fun h => h), _, _, _, rfl, ?_⟩
  by_cases hi : st.outs.length < F.raw.length
  · rw [if_pos (by simp; omega)]
    obtain ⟨p, hp, _, _⟩ := h6.int st.outs.length hi
    have hraw' : ∀ w', Ext No w w' → w'.cell? (p.add (st.outs.length * 1)) = some (.int .i64 (F.raw.getD st.outs.length 0)) := fun w' h => by
      obtain ⟨p', hp', hpc, _⟩ := (h6.ext h.no (Upd.same _ _)).int st.outs.length hi
      rw [hp] at hp'
      cases hp'
      exact hpc
    refine ⟨fun w' => Ext No w w', hd.drew, _, fun w' h => h.cell h2 (fun h => h), _, _, _, rfl, _, fun w' h => h.cell h1 (fun h => h), _, rfl, _, rfl, _, fun w' h => by rw [addr0]; exact h.cell hC.c2 (fun h => h), _, rfl,
      p, hp, by omega, by omega, _, fun w' h => by rw [Int.toNat_natCast]; exact hraw' w' h, _, rfl, _, fun w' h => h.cell h3 (fun h => h), _, _, _, rfl, a, hTA, by omega, by omega, cs, hcsz, fun w' h => by rw [Int.toNat_natCast]; exact h.cells hcells (fun h => h), ?_⟩
    refine Fin.use (options_ok cs D.nodes[node] _ (NodeR.ext hR hd.drew.no (Upd.same _ _)) (rangeB_ok hrb)) fun v w1 hE1 hv => ⟨_, hv, hd.drew.trans hE1, ?_⟩
    rw [wrap_id (optsP_ok hR hrb)]
    have hc : (if (if optsP D.nodes[node] - 1 < F.raw.getD st.outs.length 0 then optsP D.nodes[node] - 1 else F.raw.getD st.outs.length 0) > 0 then (if optsP D.nodes[node] - 1 < F.raw.getD st.outs.length 0 then optsP D.nodes[node] - 1 else F.raw.getD st.outs.length 0) else 0) = clamp F.raw st.outs.length (optsP D.nodes[node]) := by
      unfold clamp; rw [if_pos hi]
    rw [hc]
    exact rest w1 (hd.drew.trans hE1)
  · rw [if_neg (by simp; omega)]
    have hc : (0 : Int) = clamp F.raw st.outs.length (optsP D.nodes[node]) := by unfold clamp; rw [if_neg hi]
    have := rest w.drew hd
    rw [← hc] at this ⊢
    exact this

/-- What Fit returns: its path and its error, for a tree whose error is e. -/
def fitP (t : List Nod) (e : Int) (raw : List Int) (f : Nat) : Option (List Int × Int) :=
  if e ≠ 0 then some ([], e)
  else if t.length = 0 then some ([], 10)
  else match readP t (chFit t raw) f (t.length - 1) ⟨[], []⟩ with
    | some (.ok (_, st)) => some (st.outs, 0)
    | _ => none
theorem setCell_row {w : World} {g o : Nat} {cs : Array Value} {t : TypeId} {v : Value} (h : w.heap[g]? = some (.cells cs t)) : (w.setCell ⟨g, o, none⟩ v).heap[g]? = some (.cells (cs.setIfInBounds o v) t) := by
  simp [World.setCell, Array.getElem?_modify, h]
theorem row_cell {w : World} {g : Nat} {cs : Array Value} {t : TypeId} (h : w.heap[g]? = some (.cells cs t)) (o : Nat) (v : Value) (hv : cs[o]? = some v) : w.cell? ⟨g, o, none⟩ = some v := by
  rw [cell_of_row _ g o cs t (0, 0) h]; exact hv
theorem row_free {w : World} {g : Nat} {cs : Array Value} {t : TypeId} (h : w.heap[g]? = some (.cells cs t)) (o : Nat) : w.frozen? ⟨g, o, none⟩ = false := by
  simp [World.frozen?, h]
theorem build70 (A : Option Addr) (n c : Nat) (w : World) : (Instr.build 70 #[(0, .agg #[.slice A n c])]).run Tryz.prog w = .ok (.agg #[.slice A n c, .nilFunc, .int .i64 0, .slice none 0 0]) w := by kernel_rfl

theorem fit_ok {X : Nat → Prop} (cs : Array Value) (t : List Nod) (RA : Option Addr) (rn rc : Nat) (raw : List Int) (w : World) (e : Int) (f : Nat) (out : List Int) (e' : Int)
    (ht : TreeR X w cs t) (hr : SlR intK X w RA rn rc raw) (hX : ∀ k, X k → k < w.heap.size) (hraw : ∀ x ∈ raw, intOk x)
    (hval : ∀ w' cs' X', Ext No w w' → TreeR X' w' cs' t → Calls Tryz.prog 47 #[.agg cs'] w' (Fin w' fun v _ => v = .int .i64 e)) (hp : fitP t e raw f = some (out, e')) :
    Calls Tryz.prog 21 #[.agg cs, .slice RA rn rc] w (Fin w fun v w' => ∃ A n c, v = .tuple #[.slice A n c, .int .i64 e'] ∧ SlR intK (Old w) w' A n c out) := by
  apply c21
  unfold m21
  have ht0 := ht
  obtain ⟨TA, tc, rfl, hs⟩ := ht
  have hrl := hr.len
  subst hrl
  have hE1 : Ext No w (w.alloc (.cells #[.slice TA t.length tc] 40)) := (Ext.refl No w).alloc _
  have b1 : (w.alloc (.cells #[.slice TA t.length tc] 40)).heap[w.heap.size]? = some (.cells #[.slice TA t.length tc] 40) := heap_alloc_new w _
  have s1 : (w.alloc (.cells #[.slice TA t.length tc] 40)).heap.size = w.heap.size + 1 := by simp
  generalize w.alloc (.cells #[.slice TA t.length tc] 40) = w1 at hE1 b1 s1
  have hE2 : Ext No w1 (w1.alloc (.cells #[.slice RA raw.length rc] 22)) := (Ext.refl No w1).alloc _
  have b2 : (w1.alloc (.cells #[.slice RA raw.length rc] 22)).heap[w1.heap.size]? = some (.cells #[.slice RA raw.length rc] 22) := heap_alloc_new w1 _
  have s2 : (w1.alloc (.cells #[.slice RA raw.length rc] 22)).heap.size = w1.heap.size + 1 := by simp
  generalize w1.alloc (.cells #[.slice RA raw.length rc] 22) = w2 at hE2 b2 s2
  have b1' := (hE2.block _ (by omega) (fun h => h)).trans b1
  have hw2 := hE1.trans hE2
  refine ⟨_, rfl, row_cells b1', Fin.use (hval w2 _ X hw2 (ht0.ext hw2.no (Upd.same _ _))) fun v w3 hE3 hv => ⟨_, hv, ?_⟩⟩
  have hw3 := hw2.trans hE3
  unfold fitP at hp
  by_cases he : e = 0
  · subst he
    rw [if_neg (by simp)] at hp
    rw [if_neg (by simp)]
    have b1'' := (hE3.block _ (by omega) (fun h => h)).trans b1'
    have b2'' := (hE3.block _ (by omega) (fun h => h)).trans b2
    refine ⟨_, row_cells b1'' 0 _ rfl, _, _, _, rfl, ?_⟩
    by_cases h0 : t.length = 0
    · rw [if_pos h0] at hp
      rw [if_pos (by simp [h0])]
      simp only [Option.some.injEq, Prod.mk.injEq] at hp
      obtain ⟨rfl, rfl⟩ := hp
      exact Fin.ret hw3 ⟨_, _, _, rfl, SlR.nil _ _ _ _ _ (by simp) fun _ => rfl⟩
    · rw [if_neg h0] at hp
      have hne : t ≠ [] := fun h => h0 (by rw [h]; rfl)
      rw [if_neg (by simpa using hne)]
      split at hp
      case h_2 => cases hp
      rename_i vl st hrd
      simp only [Option.some.injEq, Prod.mk.injEq] at hp
      obtain ⟨rfl, rfl⟩ := hp
      have z3 := Nat.le_trans (Nat.le_of_eq s2.symm) hE3.size
      -- the box of the path
      have hE4 : Ext No w3 (w3.alloc (.cells #[.slice none 0 0] 22)) := (Ext.refl No w3).alloc _
      have b4 : (w3.alloc (.cells #[.slice none 0 0] 22)).heap[w3.heap.size]? = some (.cells #[.slice none 0 0] 22) := heap_alloc_new w3 _
      have s4 : (w3.alloc (.cells #[.slice none 0 0] 22)).heap.size = w3.heap.size + 1 := by simp
      generalize w3.alloc (.cells #[.slice none 0 0] 22) = w4 at hE4 b4 s4
      have b1d := (hE4.block _ (by omega) (fun h => h)).trans b1''
      have b2d := (hE4.block _ (by omega) (fun h => h)).trans b2''
      refine ⟨_, rfl, row_cells b1d, _, _, build70 _ _ _ w4, _, rfl, ?_⟩
      -- the reader, and the box of its pointer
      have hE5 : Ext No w4 (w4.alloc (.cells #[.slice TA t.length tc, .nilFunc, .int .i64 0, .slice none 0 0] 70)) := (Ext.refl No w4).alloc _
      have b5 : (w4.alloc (.cells #[.slice TA t.length tc, .nilFunc, .int .i64 0, .slice none 0 0] 70)).heap[w4.heap.size]? = some (.cells #[.slice TA t.length tc, .nilFunc, .int .i64 0, .slice none 0 0] 70) := heap_alloc_new w4 _
      have s5 : (w4.alloc (.cells #[.slice TA t.length tc, .nilFunc, .int .i64 0, .slice none 0 0] 70)).heap.size = w4.heap.size + 1 := by simp
      generalize w4.alloc (.cells #[.slice TA t.length tc, .nilFunc, .int .i64 0, .slice none 0 0] 70) = w5 at hE5 b5 s5
      have hE6 : Ext No w5 (w5.alloc (.cells #[.pointer none] 66)) := (Ext.refl No w5).alloc _
      have b6 : (w5.alloc (.cells #[.pointer none] 66)).heap[w5.heap.size]? = some (.cells #[.pointer none] 66) := heap_alloc_new w5 _
      have s6 : (w5.alloc (.cells #[.pointer none] 66)).heap.size = w5.heap.size + 1 := by simp
      generalize w5.alloc (.cells #[.pointer none] 66) = w6 at hE6 b6 s6
      have b6r : w6.heap[w4.heap.size]? = some (.cells #[.slice TA t.length tc, .nilFunc, .int .i64 0, .slice none 0 0] 70) := (hE6.block _ (by omega) (fun h => h)).trans b5
      refine ⟨⟨_, row_cell b6 0 _ rfl⟩, row_free b6 0, ?_⟩
      have hE7 : Ext (fun k => k = w5.heap.size) w6 (w6.setCell ⟨w5.heap.size, 0, none⟩ (.pointer (some ⟨w4.heap.size, 0, none⟩))) := (Ext.refl _ _).setCell _ fun _ => rfl
      have b7 := setCell_row (o := 0) (v := .pointer (some ⟨w4.heap.size, 0, none⟩)) b6
      have b7r := (hE7.block w4.heap.size (by omega) (show ¬ (w4.heap.size = w5.heap.size) by omega)).trans b6r
      have hE48 : Ext No w4 (w6.setCell ⟨w5.heap.size, 0, none⟩ (.pointer (some ⟨w4.heap.size, 0, none⟩))) := (hE5.trans hE6).setCell _ fun h => by simp at h; omega
      have s7 : (w6.setCell ⟨w5.heap.size, 0, none⟩ (.pointer (some ⟨w4.heap.size, 0, none⟩))).heap.size = w6.heap.size := by simp [World.setCell]
      generalize w6.setCell ⟨w5.heap.size, 0, none⟩ (.pointer (some ⟨w4.heap.size, 0, none⟩)) = w7 at hE7 b7 b7r hE48 s7
      refine ⟨_, row_cell b7 0 _ rfl, _, rfl, _, rfl, ⟨_, by rw [addr0]; exact row_cell b7r 1 _ rfl⟩, by rw [addr0]; exact row_free b7r 1, ?_⟩
      rw [addr0]
      generalize hcap : (#[.pointer (some ⟨w5.heap.size, 0, none⟩), .pointer (some ⟨w1.heap.size, 0, none⟩), .pointer (some ⟨w.heap.size, 0, none⟩), .pointer (some ⟨w3.heap.size, 0, none⟩)] : Array Value) = cap
      have hE8 : Ext (fun k => k = w4.heap.size) w7 (w7.setCell ⟨w4.heap.size, 1, none⟩ (.func (.func 48) #[] cap)) := (Ext.refl _ _).setCell _ fun _ => rfl
      have b8r := setCell_row (o := 1) (v := .func (.func 48) #[] cap) b7r
      have b8 := (hE8.block w5.heap.size (by omega) (show ¬ (w5.heap.size = w4.heap.size) by omega)).trans b7
      have hE49 : Ext No w4 (w7.setCell ⟨w4.heap.size, 1, none⟩ (.func (.func 48) #[] cap)) := hE48.setCell _ fun h => by simp at h
      have s8 : (w7.setCell ⟨w4.heap.size, 1, none⟩ (.func (.func 48) #[] cap)).heap.size = w7.heap.size := by simp [World.setCell]
      generalize w7.setCell ⟨w4.heap.size, 1, none⟩ (.func (.func 48) #[] cap) = w8 at hE8 b8r b8 hE49 s8
      refine ⟨_, row_cell b8 0 _ rfl, _, rfl, ?_⟩
      have hw8 := (hw3.trans hE4).trans hE49
      have b1e := (hE49.block _ (by omega) (fun h => h)).trans b1d
      have b2e := (hE49.block _ (by omega) (fun h => h)).trans b2d
      have b4e := (hE49.block _ (by omega) (fun h => h)).trans b4
      have hF : FitD ⟨w4.heap.size, TA, tc, t, 48, cap, fun k => w8.heap.size ≤ k ∨ k = w4.heap.size ∨ k = w3.heap.size, w8.heap.size⟩ ⟨w5.heap.size, w1.heap.size, w.heap.size, w3.heap.size, RA, rc, raw⟩ := by
        refine ⟨?_, ?_, ?_, .inr (.inr rfl), ?_, ?_, fun k h => .inl h, rfl, hcap.symm⟩
        · rintro (h | h | h) <;> simp only [] at h <;> omega
        · rintro (h | h | h) <;> simp only [] at h <;> omega
        · rintro (h | h | h) <;> simp only [] at h <;> omega
        · show w3.heap.size < w8.heap.size
          omega
        · show w3.heap.size ≠ w4.heap.size
          omega
      have hXup : Upd X (fun k => w8.heap.size ≤ k ∨ k = w4.heap.size ∨ k = w3.heap.size) w := by
        rintro k (h | h | h)
        · exact .inr (by omega)
        · exact .inr (by omega)
        · exact .inr (by omega)
      have hC : Cfg ⟨w4.heap.size, TA, tc, t, 48, cap, fun k => w8.heap.size ≤ k ∨ k = w4.heap.size ∨ k = w3.heap.size, w8.heap.size⟩ (FitJ ⟨w4.heap.size, TA, tc, t, 48, cap, fun k => w8.heap.size ≤ k ∨ k = w4.heap.size ∨ k = w3.heap.size, w8.heap.size⟩ ⟨w5.heap.size, w1.heap.size, w.heap.size, w3.heap.size, RA, rc, raw⟩) ⟨[], []⟩ w8 none 0 (fun k => k = w3.heap.size ∨ own none k) := by
        refine ⟨row_cell b8r 0 _ rfl, row_cell b8r 1 _ rfl, row_cell b8r 2 _ rfl, row_cell b8r 3 _ rfl, fun j => row_free b8r j, OwnR.nil _ _ _ _ _, ?_, hs.ext hw8.no hXup, .inr (.inl rfl), ?_, ?_, ?_, fun k h => .inl h, ?_, fun k h => (own_none k h).elim, Nat.le_refl _⟩
        · exact ⟨none, 0, rfl, row_cell b8 0 _ rfl, row_cell b2e 0 _ rfl, row_cell b1e 0 _ rfl, row_cell b4e 0 _ rfl, row_free b4e 0, hr.ext hw8.no hXup, OwnR.nil _ _ _ _ _⟩
        · rintro k (h | h)
          · exact .inr (.inr h)
          · exact (own_none k h).elim
        · rintro k (h | h)
          · show k < w8.heap.size
            omega
          · exact (own_none k h).elim
        · show w4.heap.size < w8.heap.size
          omega
        · rintro (h | h)
          · simp only [] at h
            omega
          · exact own_none _ h
      refine (run_ok (fitM hF) (fitCh hF hraw) hC (by show 0 < t.length; omega) hrd).mono fun e w9 hQ => ?_
      cases e with
      | outgrown => exact hQ
      | panicked chn => exact hQ
      | returned v =>
        obtain ⟨res, SA', sc', BC', rfl, hV, hC9, hU9, hE9⟩ := hQ
        obtain ⟨OA, oc, _, _, _, _, h4, _, _, h7⟩ := hC9.cj
        refine ⟨_, _, rfl, _, h4, _, _, _, rfl, Fin.ret ?_ ⟨OA, _, oc, rfl, ?_⟩⟩
        · refine hw8.trans' hE9 fun k hk h => ?_
          rcases hC.blkX k h with h | h | h <;> omega
        · refine (own_weakX intK_any h7 (Y := Old w)).sl' (fun k hk => .inl hk) fun k hk ho => ?_
          have h1 := (h7.lt k hk).1
          have h2 : k < w.heap.size := ho
          simp only [] at h1
          omega
  · rw [if_pos (by simpa using he)] at hp
    rw [if_pos (by simpa using he)]
    simp only [Option.some.injEq, Prod.mk.injEq] at hp
    obtain ⟨rfl, rfl⟩ := hp
    exact Fin.ret hw3 ⟨_, _, _, rfl, SlR.nil _ _ _ _ _ (by simp) fun _ => rfl⟩
end
end Go.Proofs.YtilacabmbjephaaGreatDoor
