/- Contracts: a tree without names and values that is valid. -/
import Derived.Test.YtilacabmbjephaaGreatDoorCM
namespace Go.Proofs.YtilacabmbjephaaGreatDoor
open Go Go.GX
set_option linter.unusedVariables false

theorem elFct : ElT Tryz.prog fctK 94 100 48 := .of (by kernel_rfl)

/-- What is known of the nodes when the first i have been seen. -/
def fctsAt (t : List Nod) : Nat → List Fct
  | 0 => List.replicate t.length fct0
  | i + 1 => match t[i]? with
    | some x => (fctsAt t i).set i (measureP x (fctsAt t i))
    | none => fctsAt t i
theorem fctsAt_len (t : List Nod) : ∀ i, (fctsAt t i).length = t.length
  | 0 => by simp [fctsAt]
  | i + 1 => by
    unfold fctsAt
    split
    · simp [fctsAt_len t i]
    · exact fctsAt_len t i
theorem fctsAt_zero (t : List Nod) : ∀ i k, i ≤ k → (fctsAt t i).getD k fct0 = fct0
  | 0, k, _ => by
    simp only [fctsAt, List.getD_eq_getElem?_getD]
    by_cases h : k < t.length
    · simp [h]
    · rw [List.getElem?_eq_none (by simp; omega)]
      rfl
  | i + 1, k, h => by
    unfold fctsAt
    split
    · rw [getD_set_other _ _ _ _ (by omega)]
      exact fctsAt_zero t i k (by omega)
    · exact fctsAt_zero t i k (by omega)
theorem fctsAt_stays (t : List Nod) : ∀ i k, k < i → (fctsAt t i).getD k fct0 = (fctsAt t (k + 1)).getD k fct0
  | 0, k, h => by omega
  | i + 1, k, h => by
    by_cases hk : k = i
    · subst hk; rfl
    · rw [← fctsAt_stays t i k (by omega)]
      conv => lhs; unfold fctsAt
      split
      · rw [getD_set_other _ _ _ _ (fun e => hk e.symm)]
      · rfl
/-- A node without names and values that is well. -/
def okNod (t : List Nod) (i : Nat) : Bool :=
  match t[i]? with
  | some x => (x.kind == 1 || x.kind == 2 || x.kind == 3) && (noS x.name && (formedP i x && (inRangeB x && (decide (0 ≤ ((fctsAt t (i + 1)).getD i fct0).length) && (decide (((fctsAt t (i + 1)).getD i fct0).length ≤ 256) && (decide (0 ≤ ((fctsAt t (i + 1)).getD i fct0).size) && decide (((fctsAt t (i + 1)).getD i fct0).size ≤ 1024)))))))
  | none => false
def okTree (t : List Nod) : Bool := decide (t.length ≤ 4096) && (List.range t.length).all (okNod t)

theorem formedP_kids {i : Int} {x : Nod} (h : formedP i x = true) : ∀ k ∈ x.kids, 0 ≤ k ∧ k < i := by
  unfold formedP at h
  simp only [Bool.and_eq_true] at h
  have h2 := h.2.2.1
  simp only [Bool.not_eq_true', List.any_eq_false, Bool.or_eq_true, decide_eq_true_eq] at h2
  intro k hk
  have := h2 k hk
  omega
theorem formedP_len {i : Int} {x : Nod} (h : formedP i x = true) (hk : x.kind = 2 ∨ x.kind = 3) : x.kids.length ≤ 256 := by
  unfold formedP at h
  simp only [Bool.and_eq_true] at h
  have h3 := h.2.2.2
  rcases hk with hk | hk
  · rw [if_pos hk] at h3
    simp only [Bool.and_eq_true, decide_eq_true_eq] at h3
    exact h3.2.1
  · rw [if_neg (by omega), if_pos hk] at h3
    simpa using h3
theorem formedP_field {i : Int} {x : Nod} (h : formedP i x = true) (k : Nat) (hk : k < 6) : badField x k = false := by
  unfold formedP at h
  simp only [Bool.and_eq_true] at h
  have h2 := h.2.1
  simp only [Bool.not_eq_true', List.any_eq_false] at h2
  exact Bool.eq_false_iff.2 (h2 k (by simpa using hk))

set_option maxHeartbeats 1000000 in
theorem valid_ok {X : Nat → Prop} (cs : Array Value) (t : List Nod) (w : World) (ht : TreeR X w cs t) (hU : Used w) (hok : okTree t = true) :
    Calls Tryz.prog 47 #[.agg cs] w (Fin w fun v _ => v = .int .i64 0) := by
  apply c47
  unfold m47
  simp only [okTree, Bool.and_eq_true, decide_eq_true_eq, List.all_eq_true, List.mem_range] at hok
  obtain ⟨hlen, hnod⟩ := hok
  obtain ⟨T, tc, rfl, hs⟩ := ht
  have hE1 : Ext No w (w.alloc (.cells #[.slice T t.length tc] 40)) := (Ext.refl No w).alloc _
  refine ⟨_, by rw [box_cell]; rfl, _, _, _, rfl, ?_⟩
  rw [if_neg (by simp; omega)]
  refine ⟨_, by rw [box_cell]; rfl, _, _, _, rfl, ?_⟩
  have bT : ∀ Y w', Ext Y (w.alloc (.cells #[.slice T t.length tc] 40)) w' → ¬ Y w.heap.size → w'.cell? ((⟨w.heap.size, 0, none⟩ : Addr).add 0) = some (.slice T t.length tc) := fun Y w' h hY => by
    rw [h.box hY 0]
    rfl
  generalize hW1 : w.alloc (.cells #[.slice T t.length tc] 40) = w1 at hE1 bT
  have hsz : w.heap.size < w1.heap.size := by rw [← hW1]; simp
  refine OwnR.make (X := No) elFct t.length w1 w1.heap.size (Nat.le_refl _) (by simp [maxLen]; omega) (by omega) (.agg #[.int .i64 0, .int .i64 0, .slice none 0 0, .bool false, .bool false]) (by kernel_rfl) fct0
    (fun w' X' => ⟨none, 0, 0, rfl, by constructor <;> decide, by constructor <;> decide, SlR.nil _ _ _ _ _ (by simp) (fun _ => rfl)⟩) fun w2 hE2 hO2 => ⟨_, _, _, rfl, _, bT _ _ hE2 (fun h => h), _, _, _, rfl, ?_⟩
  have hown : ∀ k, own (some (⟨w1.heap.size, 0, none⟩ : Addr)) k → k = w1.heap.size := fun k hk => by obtain ⟨a, ha, rfl⟩ := hk; cases ha; rfl
  refine ⟨((0 : Int), ()), rfl, fun m s w' => ∃ i : Nat, s = ((i : Int), ()) ∧ i ≤ t.length ∧ m = t.length - i ∧ Ext No w1 w' ∧ OwnR fctK 100 w1.heap.size No w' (some ⟨w1.heap.size, 0, none⟩) t.length t.length (fctsAt t i), ⟨t.length, 0, rfl, by omega, by omega, hE2, hO2⟩, ?_⟩
  rintro m s w3 ⟨i, rfl, hi, rfl, hE3, hO3⟩ _r
  simp only [m47_B0]
  by_cases hlt : i < t.length
  · rw [if_pos (by simp; omega)]
    have hn := hnod i hlt
    simp only [okNod, List.getElem?_eq_getElem hlt, Bool.and_eq_true, Bool.or_eq_true, beq_iff_eq, decide_eq_true_eq] at hn
    obtain ⟨hkind, hname, hform, hrange, b1, b2, b3, b4⟩ := hn
    have hkind' : (t[i]).kind = 1 ∨ (t[i]).kind = 2 ∨ (t[i]).kind = 3 := by omega
    obtain ⟨p, ncs, hT, hR, hc⟩ := (hs.ext (hE1.trans hE3).no (Upd.same _ _)).get i hlt
    have hnsz := nodeK.len hR
    refine ⟨p, hT, by omega, by omega, ncs, hnsz, by rw [Int.toNat_natCast]; exact hc, hnsz, ?_⟩
    refine box_store _ _ _ _ (by rw [hnsz]; rfl) (nodeK.one hR) ?_
    have hE4 : Ext No w3 (w3.alloc (.cells ncs 74)) := (Ext.refl No w3).alloc _
    have hR4 : NodeR X (w3.alloc (.cells ncs 74)) ncs t[i] := NodeR.ext hR hE4.no (Upd.same _ _)
    have bX : ∀ Y w', Ext Y (w3.alloc (.cells ncs 74)) w' → ¬ Y w3.heap.size → ∀ j v, ncs[j]? = some v → w'.cell? ((⟨w3.heap.size, 0, none⟩ : Addr).add j) = some v := fun Y w' h hY j v hj => by
      rw [h.box hY j]
      exact hj
    have bC : CellsAt (w3.alloc (.cells ncs 74)) ⟨w3.heap.size, 0, none⟩ ncs := box_cells _ _ _
    have hsz3 : w1.heap.size < w3.heap.size := (hO3.lt _ ⟨_, rfl, rfl⟩).2
    generalize hW4 : w3.alloc (.cells ncs 74) = w4 at hE4 hR4 bX bC
    have hnew : ¬ own (some (⟨w1.heap.size, 0, none⟩ : Addr)) w3.heap.size := fun ho => by have := hown _ ho; omega
    have hw4 := (hE1.trans hE3).trans hE4
    have hx := hR4
    obtain ⟨⟨A1, c1, A2, c2, A3, c3, A4, c4, A5, c5, hcs, h1, h2, h3, h4, h5⟩, _⟩ := hx
    have e0 : ncs[0]? = some (.int .i64 (t[i]).kind) := by rw [hcs]; rfl
    have e6 : ncs[6]? = some (.slice A3 (t[i]).values.length c3) := by rw [hcs]; rfl
    refine ⟨ncs, hnsz, bC, Fin.use (formed_ok (i : Int) ncs t[i] w4 (by constructor <;> omega) hR4 (hU.ext hw4) (by omega) (fun _ => hname)) fun v w5 hE5 hv => ⟨_, hv, ?_⟩⟩
    rw [hform, if_neg (by simp)]
    refine ⟨_, bX _ _ hE5 (fun h => h) 6 _ e6, _, _, _, rfl, _, bX _ _ hE5 (fun h => h) 0 _ e0, _, rfl, ?_⟩
    rw [if_neg (by simp; omega)]
    have hval : (t[i]).values.length = 0 := by
      have := formedP_field hform 3 (by omega)
      simp only [badField, thereL] at this
      have hu : usedL.getD ((t[i]).kind.toNat * 6 + 3) false = false := by
        rcases hkind' with h | h | h <;> rw [h] <;> rfl
      rw [hu] at this
      simp at this
      simp [this]
    simp only [m47_K3]
    refine ⟨((0 : Int), ()), rfl, fun m s w' => s = ((0 : Int), ()) ∧ w' = w5, ⟨0, rfl, rfl⟩, ?_⟩
    rintro m s w' ⟨rfl, rfl⟩ _r
    simp only [m47_B2]
    rw [if_neg (by simp [hval])]
    simp only [m47_K4]
    have hE5' := hE4.trans hE5
    refine ⟨ncs, hnsz, hE5.cells bC (fun h => h), Fin.use (inRange_ok ncs t[i] _ (NodeR.ext hR4 hE5.no (Upd.same _ _))) fun v w6 hE6 hv => ⟨_, hv, ?_⟩⟩
    rw [hrange, if_neg (by simp)]
    have hE6' := hE5'.trans hE6
    have hT6 : Ext No w w6 := (hE1.trans hE3).trans hE6'
    have hbox : CellsAt w6 ⟨w.heap.size, 0, none⟩ #[.slice T t.length tc] := by
      intro j v hj
      cases j with
      | zero => exact (bT _ _ (hE3.trans hE6') (fun h => h)).trans hj
      | succ j => simp at hj
    have hO6 := hO3.ext0 hE6'
    refine ⟨_, rfl, hbox, use (measure_ok #[.slice T t.length tc] t i hlt rfl ⟨T, tc, rfl, hs.ext hT6.no ?_⟩ hO6 hkind' (formedP_kids hform) ?_ (fctsAt_zero t i i (Nat.le_refl _)) ?_) fun v w7 hv => ?_⟩
    · rintro k (hk | hk)
      · exact hk.elim
      · have := hown k hk
        exact .inr (by omega)
    · rcases hkind' with h | h
      · have := formedP_field hform 4 (by omega)
        simp only [badField, thereL] at this
        have hu : usedL.getD ((t[i]).kind.toNat * 6 + 4) false = false := by rw [h]; rfl
        rw [hu] at this
        simp at this
        simp [this]
      · exact formedP_len hform h
    · intro k hk
      have hn2 := hnod k (by omega)
      simp only [okNod, List.getElem?_eq_getElem (by omega : k < t.length), Bool.and_eq_true, decide_eq_true_eq] at hn2
      rw [fctsAt_stays t i k hk]
      exact ⟨⟨hn2.2.2.2.2.1, hn2.2.2.2.2.2.1⟩, hn2.2.2.2.2.2.2⟩
    obtain ⟨hE7, hO7⟩ := hv
    have hf : (fctsAt t i).set i (measureP t[i] (fctsAt t i)) = fctsAt t (i + 1) := by
      conv => rhs; unfold fctsAt
      rw [List.getElem?_eq_getElem hlt]
    rw [hf] at hO7
    have hE7' : Ext No w1 w7 := (hE3.trans hE6').own hO6 hE7
    obtain ⟨a', V, vn, vc, hA', f0, f1, _⟩ := fctAt hO7 i hlt
    obtain rfl : a' = ⟨w1.heap.size, 0, none⟩ := by simpa using hA'.symm
    have hk7 : w7.cell? ((⟨w3.heap.size, 0, none⟩ : Addr).add 0) = some (.int .i64 (t[i]).kind) := bX _ _ ((hE5.trans hE6).no.trans hE7) hnew 0 _ e0
    refine ⟨_, rfl, by omega, by omega, _, by rw [Int.toNat_natCast]; exact f0, _, rfl, ?_⟩
    rw [if_neg (by rw [decide_eq_true_eq]; omega)]
    refine ⟨_, rfl, by omega, by omega, _, by rw [Int.toNat_natCast]; exact f1, _, rfl, ?_⟩
    simp only [m47_K5]
    rw [if_neg (by rw [decide_eq_true_eq]; omega)]
    refine ⟨_, hk7, _, rfl, ?_⟩
    rw [if_pos (by simp; omega)]
    simp only [m47_K2]
    exact ⟨(((i + 1 : Nat) : Int), ()), by rw [wrap_id ⟨by omega, by omega⟩]; rfl, t.length - (i + 1), by omega, i + 1, rfl, by omega, rfl, hE7', hO7⟩
  · rw [if_neg (by simp; omega)]
    simp only [m47_K1]
    exact Fin.ret (hE1.trans hE3) rfl
end Go.Proofs.YtilacabmbjephaaGreatDoor
