/- Contracts: reading a path (walk), its spans. -/
import Derived.Test.YtilacabmbjephaaGreatDoorCK
namespace Go.Proofs.YtilacabmbjephaaGreatDoor
open Go Go.GX
set_option linter.unusedVariables false
set_option linter.unusedSimpArgs false

def chWalk (T : List Nod) (path : List Int) (i node : Nat) : Option (Except Stop Int) := match T[node]? with
  | none => none
  | some x => if rangeB x = true then
      (if i = path.length then some (.error ((node : Nat), 0))
       else if i < path.length then (if path.getD i 0 < 0 ∨ path.getD i 0 ≥ optsP x then some (.error (-1, 11)) else some (.ok (path.getD i 0)))
       else none)
    else none

/-- The blocks of a call of walk: the boxes of the reader's pointer, of the path, of the tree. -/
structure WalkB where
  rb : Nat
  pb : Nat
  tb : Nat
  PA : Option Addr
  pc : Nat
  path : List Int
def WalkJ (D : Rd) (F : WalkB) : Mem := fun _ BC w => BC = No ∧
  w.cell? ⟨F.rb, 0, none⟩ = some (.pointer (some ⟨D.g, 0, none⟩)) ∧ w.cell? ⟨F.pb, 0, none⟩ = some (.slice F.PA F.path.length F.pc) ∧ w.cell? ⟨F.tb, 0, none⟩ = some (.slice D.TA D.nodes.length D.tc) ∧
  SlR intK D.X w F.PA F.path.length F.pc F.path
structure WalkD (D : Rd) (F : WalkB) : Prop where
  rb : ¬ D.X F.rb
  pb : ¬ D.X F.pb
  tb : ¬ D.X F.tb
  cf : D.cf = 79
  cap : D.ccap = #[.pointer (some ⟨F.rb, 0, none⟩), .pointer (some ⟨F.pb, 0, none⟩), .pointer (some ⟨F.tb, 0, none⟩)]
theorem build76 (a b : Int) (w : World) : (Instr.build 76 #[(0, .int .i64 a), (1, .int .i64 b)]).run Tryz.prog w = .ok (.agg #[.int .i64 a, .int .i64 b]) w := by kernel_rfl
theorem build450 (w : World) : (Instr.build 45 #[]).run Tryz.prog w = .ok (.agg zero4) w := by kernel_rfl
section
variable {D : Rd} {F : WalkB}
theorem walkM (hF : WalkD D F) : MemOk D (WalkJ D F) := by
  rintro outs BC w w' Y ⟨rfl, h1, h2, h3, h6⟩ hb hE hY
  have nX : ∀ {k}, k < w.heap.size → ¬ D.X k → ¬ Y k := fun hk hx hy => hx (hY _ hk hy).1
  exact ⟨rfl, hE.cell h1 (nX (cell_lt h1) hF.rb), hE.cell h2 (nX (cell_lt h2) hF.pb), hE.cell h3 (nX (cell_lt h3) hF.tb), h6.ext (hE.mono (Y := D.X) fun k hk hy => (hY k hk hy).1) (Upd.same _ _)⟩
theorem walkCh (hF : WalkD D F) : ChOk D (WalkJ D F) (chWalk D.nodes F.path) := by
  refine ⟨by rw [hF.cf]; kernel_rfl, fun st w SA sc BC node r hC hn hlt hr => ?_⟩
  unfold chWalk at hr
  have hx : D.nodes[node]? = some D.nodes[node] := List.getElem?_eq_getElem hn
  rw [hx] at hr
  simp only [] at hr
  split at hr
  case isFalse => cases hr
  rename_i hrb
  obtain ⟨a, cs, hTA, hcsz, hR, hcells, hna⟩ := hC.node hx
  obtain ⟨rfl, h1, h2, h3, h6⟩ := hC.cj
  rw [hF.cf, hF.cap]
  show Calls Tryz.prog 79 #[.int .i64 (node : Nat), .pointer (some ⟨F.rb, 0, none⟩), .pointer (some ⟨F.pb, 0, none⟩), .pointer (some ⟨F.tb, 0, none⟩)] w _
  apply c79
  unfold m79
  have hd : Ext No w w.drew := (Ext.refl No w).drew
  have L1 : ∀ w', Ext No w w' → w'.cell? ⟨F.rb, 0, none⟩ = some (.pointer (some ⟨D.g, 0, none⟩)) := fun w' h => h.cell h1 (fun h => h)
  have L2 : ∀ w', Ext No w w' → w'.cell? ⟨F.pb, 0, none⟩ = some (.slice F.PA F.path.length F.pc) := fun w' h => h.cell h2 (fun h => h)
  have L3 : ∀ w', Ext No w w' → w'.cell? ⟨F.tb, 0, none⟩ = some (.slice D.TA D.nodes.length D.tc) := fun w' h => h.cell h3 (fun h => h)
  have L4 : ∀ w', Ext No w w' → w'.cell? ((⟨D.g, 0, none⟩ : Addr).add 2) = some (.int .i64 (st.outs.length : Nat)) := fun w' h => by rw [addr0]; exact h.cell hC.c2 (fun h => h)
  refine ⟨fun w' => Ext No w w', hd, _, L1, _, rfl, _, rfl, _, L4, _, rfl, _, L2, _, _, _, rfl, ?_⟩
  by_cases hi : st.outs.length = F.path.length
  · rw [if_pos hi] at hr
    simp only [Option.some.injEq] at hr
    subst hr
    rw [if_pos (by simp; omega)]
    exact ⟨_, _, build76 _ _ _, _, rfl, _, _, rfl, rfl, hd.no⟩
  · rw [if_neg hi] at hr
    rw [if_neg (by simp; omega)]
    split at hr
    case isFalse => cases hr
    rename_i hi2
    obtain ⟨p, hp, _, _⟩ := h6.int st.outs.length hi2
    have L5 : ∀ w', Ext No w w' → w'.cell? (p.add (st.outs.length * 1)) = some (.int .i64 (F.path.getD st.outs.length 0)) := fun w' h => by
      obtain ⟨p', hp', hpc, _⟩ := (h6.ext h.no (Upd.same _ _)).int st.outs.length hi2
      rw [hp] at hp'
      cases hp'
      exact hpc
    have hd2 : Ext No w w.drew.drew := hd.drew
    have K1 : ∀ (w1 : World) (c : Int), Ext No w w1 → c = F.path.getD st.outs.length 0 → r = .ok c → m79_K1 (Ret
      (fun v w' => ∃ c BC', r = .ok c ∧ v = .int .i64 c ∧ Upd No BC' w ∧ (∀ k, BC' k → k < w'.heap.size) ∧ Ext No w w' ∧ WalkJ D F (st.outs ++ [c]) BC' w')
      (fun chn w' => ∃ nd er, r = .error (nd, er) ∧ chn = [{ v := .iface 76 (.agg #[.int .i64 nd, .int .i64 er]), recovered := false }] ∧ Ext No w w')) ⟨F.rb, 0, none⟩ ⟨F.pb, 0, none⟩ w1 := by
      rintro w1 c hE1 rfl rfl
      unfold m79_K1
      refine ⟨fun w' => Ext No w w', hE1.drew, _, L2, _, _, _, rfl, _, L1, _, rfl, _, rfl, _, L4, _, rfl, p, hp, by omega, by omega, _, fun w' h => by rw [Int.toNat_natCast]; exact L5 w' h, _, rfl, ?_⟩
      exact ⟨_, No, rfl, rfl, Upd.same _ _, fun k h => h.elim, hE1.drew, walkM hF _ _ _ _ _ hC.cj hC.b1 hE1.drew fun k _ h => h.elim⟩
    have K2 : ∀ (w1 : World) (b : Bool), Ext No w w1 → (b = true → r = .error (-1, 11)) → (b = false → r = .ok (F.path.getD st.outs.length 0)) → m79_K2 (Ret
      (fun v w' => ∃ c BC', r = .ok c ∧ v = .int .i64 c ∧ Upd No BC' w ∧ (∀ k, BC' k → k < w'.heap.size) ∧ Ext No w w' ∧ WalkJ D F (st.outs ++ [c]) BC' w')
      (fun chn w' => ∃ nd er, r = .error (nd, er) ∧ chn = [{ v := .iface 76 (.agg #[.int .i64 nd, .int .i64 er]), recovered := false }] ∧ Ext No w w')) ⟨F.rb, 0, none⟩ ⟨F.pb, 0, none⟩ b w1 := by
      intro w1 b hE1 ht hf
      unfold m79_K2
      cases b with
      | true =>
        rw [if_pos rfl]
        exact ⟨_, _, build76 _ _ _, _, rfl, _, _, ht rfl, rfl, hE1⟩
      | false =>
        rw [if_neg (by simp)]
        exact K1 w1 _ hE1 rfl (hf rfl)
    refine ⟨fun w' => Ext No w w', hd2, _, L2, _, _, _, rfl, _, L1, _, rfl, _, rfl, _, L4, _, rfl, p, hp, by omega, by omega, _, fun w' h => by rw [Int.toNat_natCast]; exact L5 w' h, _, rfl, ?_⟩
    by_cases hneg : F.path.getD st.outs.length 0 < 0
    · rw [if_pos (by simpa using hneg)]
      rw [if_pos (.inl hneg)] at hr
      simp only [Option.some.injEq] at hr
      exact K2 _ _ hd2 (fun _ => hr.symm) (fun h => by cases h)
    · rw [if_neg (by simpa using hneg)]
      refine ⟨_, L2, _, _, _, rfl, _, L1, _, rfl, _, rfl, _, L4, _, rfl, p, hp, by omega, by omega, _, fun w' h => by rw [Int.toNat_natCast]; exact L5 w' h, _, rfl, _, fun w' h => L3 w' h, _, _, _, rfl, a, hTA, by omega, by omega, cs, hcsz, fun w' h => by rw [Int.toNat_natCast]; exact h.cells hcells (fun h => h), ?_⟩
      refine Fin.use (options_ok cs D.nodes[node] _ (NodeR.ext hR hd2.no (Upd.same _ _)) (rangeB_ok hrb)) fun v w1 hE1 hv => ⟨_, hv, hd2.trans hE1, ?_⟩
      refine K2 _ _ (hd2.trans hE1) (fun hb => ?_) fun hb => ?_
      · rw [decide_eq_true_eq] at hb
        rw [if_pos (.inr hb)] at hr
        simpa using hr.symm
      · rw [decide_eq_false_iff_not] at hb
        rw [if_neg (by omega)] at hr
        simpa using hr.symm
end

/-! ## Errors come of the chooser -/
theorem seqP_err {rd : Nat → St → Option (Except Stop (Val × St))} {Q : Stop → Prop} (h : ∀ n st e, rd n st = some (.error e) → Q e) : ∀ (ks : List Int) (b : Nat) (vs : List Val) (st : St) (e : Stop), seqP rd b ks vs st = some (.error e) → Q e
  | [], _, _, _, _, he => by simp [seqP] at he
  | k :: ks, b, vs, st, e, he => by
    unfold seqP at he
    split at he
    · split at he
      · split at he
        · exact seqP_err h ks b _ _ e he
        · cases he
      · rename_i e2 h2
        simp only [Option.some.injEq, Except.error.injEq] at he
        subst he
        exact h _ _ _ h2
      · cases he
    · cases he
theorem chooseP_err {ch : Nat → Nat → Option (Except Stop Int)} {node : Nat} {st : St} {e : Stop} (h : chooseP ch node st = some (.error e)) : ∃ i, ch i node = some (.error e) := by
  unfold chooseP at h
  split at h
  · split at h
    · cases h
    · rename_i e2 h2
      simp only [Option.some.injEq, Except.error.injEq] at h
      subst h
      exact ⟨_, h2⟩
    · cases h
  · cases h
theorem readP_err {T : List Nod} {ch : Nat → Nat → Option (Except Stop Int)} : ∀ (f node : Nat) (st : St) (e : Stop), readP T ch f node st = some (.error e) → ∃ i n, ch i n = some (.error e)
  | 0, _, _, _, h => by simp [readP] at h
  | f + 1, node, st, e, h => by
    unfold readP at h
    split at h
    · cases h
    · split at h
      · split at h
        · split at h <;> cases h
        · rename_i e2 h2
          simp only [Option.some.injEq, Except.error.injEq] at h
          subst h
          obtain ⟨i, hi⟩ := chooseP_err h2
          exact ⟨i, _, hi⟩
        · cases h
      · split at h
        · split at h
          · split at h
            · exact readP_err f _ _ e h
            · cases h
          · rename_i e2 h2
            simp only [Option.some.injEq, Except.error.injEq] at h
            subst h
            obtain ⟨i, hi⟩ := chooseP_err h2
            exact ⟨i, _, hi⟩
          · cases h
        · split at h
          · split at h
            · split at h
              · cases h
              · rename_i e2 h2
                simp only [Option.some.injEq, Except.error.injEq] at h
                subst h
                exact seqP_err (Q := fun e => ∃ i n, ch i n = some (.error e)) (fun n st e he => readP_err f n st e he) _ _ _ _ _ h2
              · cases h
            · cases h
          · split at h
            · cases h
            · cases h
theorem chWalk_err {T : List Nod} {path : List Int} {i n : Nat} {e : Stop} (h : chWalk T path i n = some (.error e)) : e = ((n : Int), 0) ∨ e = (-1, 11) := by
  unfold chWalk at h
  split at h
  · cases h
  · split at h
    · split at h
      · simp only [Option.some.injEq, Except.error.injEq] at h; exact .inl h.symm
      · split at h
        · split at h
          · simp only [Option.some.injEq, Except.error.injEq] at h; exact .inr h.symm
          · cases h
        · cases h
    · cases h

/-- What walk returns: value and state, if all could be read, and where and why it stopped. -/
def walkP (t : List Nod) (e : Int) (path : List Int) (f : Nat) : Option (Option (Val × St) × Stop) :=
  if e ≠ 0 then some (none, (-1, e))
  else if t.length = 0 then some (none, (-1, 11))
  else match readP t (chWalk t path) f (t.length - 1) ⟨[], []⟩ with
    | some (.ok (vl, st)) => some (some (vl, st), (-1, if st.outs.length < path.length then 11 else 0))
    | some (.error s) => some (none, s)
    | none => none

theorem walk_fin {R : Ending → World → Prop} {w : World} {gv gs gr hv hs : Nat} {pr : Option Addr} {rv rs z z2 : Array Value} (hr : w.cell? ⟨gr, 0, none⟩ = some (.pointer pr))
    (bv : w.heap[hv]? = some (.cells rv 45)) (bs : w.heap[hs]? = some (.cells rs 76)) (cv : w.heap[gv]? = some (.cells z 45)) (cs : w.heap[gs]? = some (.cells z2 76)) (s1 : z.size = 4) (s2 : z2.size = 2) (s3 : rv.size = 4) (s4 : rs.size = 2)
    (o1 : ∀ v ∈ rv.toList, v.oneCell' = true) (o2 : ∀ v ∈ rs.toList, v.oneCell' = true) (n1 : gr ≠ gv) (n2 : hv ≠ gv) (n3 : hs ≠ gv) (n4 : gs ≠ gv)
    (hk : ∀ w', Ext (fun k => k = gv ∨ k = gs) w w' → R (.returned (.tuple #[.pointer pr, .agg rv, .agg rs])) w') :
    m52_K1 R ⟨gv, 0, none⟩ ⟨gs, 0, none⟩ ⟨gr, 0, none⟩ ⟨hv, 0, none⟩ ⟨hs, 0, none⟩ w := by
  unfold m52_K1
  have hd : Ext No w w.drew := (Ext.refl No w).drew
  refine ⟨fun w' => w'.cell? ⟨gr, 0, none⟩ = some (.pointer pr) ∧ CellsAt w' ⟨hv, 0, none⟩ rv ∧ CellsAt w' ⟨hs, 0, none⟩ rs, ⟨hr, row_cells (w := w) bv, row_cells (w := w) bs⟩, _, fun w' h => h.1, _, rfl, rv, s3, fun w' h => h.2.1, rs, s4, fun w' h => h.2.2, s3, ?_⟩
  refine store_box (w := w.drew) cv (by rw [s1, s3]) o1 ?_
  have hE1 := setRow_ext w.drew gv rv
  have c2 : (w.drew.setRow gv rv).heap[gs]? = some (.cells z2 76) := (hE1.block _ (Array.getElem?_eq_some_iff.1 cs).1 n4).trans cs
  refine ⟨⟨hE1.cell hr n1, hE1.cells (row_cells (w := w.drew) bv) n2, hE1.cells (row_cells (w := w.drew) bs) n3⟩, s4, ?_⟩
  refine store_box c2 (by rw [s2, s4]) o2 ⟨fun _ => True, trivial, rv, s3, ?_, rs, s4, row_cells (setRow_new c2), hk _ ?_⟩
  · exact (setRow_ext _ gs rs).cells (row_cells (setRow_new (w := w.drew) cv)) (Ne.symm n4)
  · exact (hd.no.trans (hE1.mono fun k _ h => .inl h)).trans ((setRow_ext _ gs rs).mono fun k _ h => .inr h)
end Go.Proofs.YtilacabmbjephaaGreatDoor
