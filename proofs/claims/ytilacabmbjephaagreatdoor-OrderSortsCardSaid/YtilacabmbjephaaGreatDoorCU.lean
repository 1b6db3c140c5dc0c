/- Contracts: sorting, by the program and by the reference; numbers for choices. -/
import Derived.Test.YtilacabmbjephaaGreatDoorCT
namespace Go.Proofs.YtilacabmbjephaaGreatDoor
open Go Go.GX
set_option linter.unusedVariables false

theorem own_new {w : World} {k : Nat} (h : own (some ⟨w.heap.size, 0, none⟩) k) : k = w.heap.size := by
  obtain ⟨a, ha, rfl⟩ := h
  cases ha
  rfl
section
variable {b : Nat} {X : Nat → Prop} {A : Option Addr} {n c : Nat} {w : World}
theorem clone_ok (ds : List (List Int)) (hs : SlR (sliceK intK) X w A n c ds) (hn : n ≤ 1099511627776) :
    Calls Tryz.prog 34 #[.slice A n c] w (Fin w fun v w' => ∃ A' c', v = .slice A' n c' ∧ OwnR (sliceK intK) 22 w.heap.size X w' A' n c' ds) := by
  apply c34
  unfold m34
  refine nilTest hs elPath.ht ⟨_, rfl, ?_⟩
  cases A with
  | none =>
    rw [if_pos (by simp)]
    have hc := hs.nilc rfl
    have hcap := hs.cap
    obtain rfl : n = 0 := by omega
    have : ds = [] := List.eq_nil_of_length_eq_zero hs.len
    subst this
    exact Fin.ret (Ext.refl _ _) ⟨none, 0, rfl, OwnR.nil _ _ _ _ _⟩
  | some a =>
    rw [if_neg (by simp)]
    refine ⟨by intro v hv; simp at hv, ?_⟩
    have hE : Ext No w (w.alloc (.cells (flat []) 22)) := (Ext.refl No w).alloc _
    have hO := OwnR.empty (sliceK intK) 22 w.heap.size X w (Nat.le_refl _)
    refine hO.many elPath (es := ds) (hs.ext hE.no ?_) hE.size (by simp [maxLen]; omega) (by omega) fun A' c' w' hE2 hO2 => ⟨A', _, c', rfl, Fin.ret (hE.own hO hE2) ⟨A', c', ?_⟩⟩
    · rintro k (hk | hk)
      · exact .inl hk
      · exact .inr (Nat.le_of_eq (own_new hk).symm)
    · simp only [Nat.zero_add, List.nil_append] at hO2 ⊢
      exact ⟨trivial, hO2⟩

theorem sort_ok (ds : List (List Int)) (hs : SlR (sliceK intK) X w A n c ds) (hX : ∀ k, X k → k < w.heap.size) (hn : n ≤ 12) :
    Calls Tryz.prog 16 #[.slice A n c] w (Fin w fun v w' => ∃ A' k c', v = .slice A' k c' ∧ SlR (sliceK intK) X w' A' k c' (sortL ds)) := by
  apply c16
  unfold m16
  refine Fin.use (clone_ok ds hs (by omega)) fun v w1 hE1 hv => ?_
  obtain ⟨A', c', rfl, hO1⟩ := hv
  refine ⟨_, _, _, rfl, use (sortFunc_ok hn ds w1 hO1) fun v2 w2 hv2 => ?_⟩
  obtain ⟨hE2, ds', hp, hsrt, hO2⟩ := hv2
  refine use (compact_ok ds' w2 hO2) fun v3 w3 hv3 => ?_
  obtain ⟨hE3, k, rfl, hO3⟩ := hv3
  refine ⟨_, _, _, rfl, Fin.ret ((hE1.own hO1 hE2).own hO2 hE3) ⟨A', k, c', rfl, ?_⟩⟩
  rw [ddp_sorted hp hsrt] at hO3
  exact hO3.sl hX

theorem putL_split (l : List (List Int)) (x : List Int) (k : Nat) (hk : k < l.length) (h : pathCmp (l.getD k []) x < 0) (hp : putL l x = l.take k ++ putL (l.drop k) x) :
    putL l x = l.take (k + 1) ++ putL (l.drop (k + 1)) x := by
  have : l.getD k [] = l[k] := by simp [hk]
  rw [hp, take_snoc l [] k hk, List.drop_eq_getElem_cons hk]
  rw [this] at h ⊢
  simp only [putL, h, if_true, List.append_assoc, List.cons_append, List.nil_append]

theorem put_ok (l : List (List Int)) (x : List Int) {B : Option Addr} {m d : Nat} (hl : SlR (sliceK intK) X w A n c l) (hx : SlR intK X w B m d x) (hX : ∀ k, X k → k < w.heap.size) (hn : n ≤ 1099511627776) :
    Calls Tryz.prog 38 #[.slice A n c, .slice B m d] w (Fin w fun v w' => ∃ A' k c', v = .slice A' k c' ∧ SlR (sliceK intK) X w' A' k c' (putL l x)) := by
  apply c38
  unfold m38
  have hlen := hl.len
  have hcap := hl.cap
  have hmax := hl.max
  rw [maxLen_eq] at hmax
  refine ⟨((0 : Int), ()), rfl, fun t s w' => ∃ k : Nat, s = ((k : Int), ()) ∧ k ≤ n ∧ t = n - k ∧ Ext No w w' ∧ putL l x = l.take k ++ putL (l.drop k) x, ⟨n, 0, rfl, by omega, by omega, Ext.refl _ _, rfl⟩, ?_⟩
  rintro t s w' ⟨k, rfl, hk, rfl, hE, hp⟩ _r
  have hl' := hl.ext hE.no (Upd.same _ _)
  have hx' := hx.ext hE.no (Upd.same _ _)
  -- the end, if l is not what is returned
  have build : ∀ w', Ext No w w' → putL l x = l.take k ++ x :: l.drop k → m38_K3 (Fin w fun v w' => ∃ A' k c', v = .slice A' k c' ∧ SlR (sliceK intK) X w' A' k c' (putL l x)) A n c B m d (k : Int) false w' := by
    intro w1 hE1 hput
    simp only [m38_K3]
    rw [if_neg (by simp)]
    have hX1 : ∀ A', (∀ j, own A' j → w.heap.size ≤ j) → Upd X (Or' X (own A')) w := by
      rintro A' h j (hj | hj)
      · exact .inl hj
      · exact .inr (h j hj)
    refine ⟨by omega, by omega, ?_⟩
    have hO := OwnR.nil (sliceK intK) 22 w.heap.size X w1
    have hs1 := (hl.ext hE1.no (hX1 none (fun j hj => absurd hj (own_none j)))).sub 0 k (by omega) hk
    simp only [Int.toNat_natCast]
    refine hO.many elPath hs1 hE1.size (by simp [maxLen]; omega) (by omega) fun A2 c2 w2 hE2 hO2 => ⟨_, _, _, rfl, by intro v hv; simp at hv; subst hv; rfl, ?_⟩
    have hE2' := hE1.own hO hE2
    refine hO2.push elPath (x := x) rfl ⟨_, _, _, rfl, hx.ext hE2'.no (hX1 A2 fun j hj => (hO2.lt j hj).1)⟩ hE2'.size (by simp [maxLen]; omega) (by omega) fun A3 c3 w3 hE3 hO3 => ⟨_, _, _, rfl, by omega, by omega, ?_⟩
    have hE3' := hE2'.own hO2 hE3
    have hs3 := (hl.ext hE3'.no (hX1 A3 fun j hj => (hO3.lt j hj).1)).sub k n (by omega) (Nat.le_refl _)
    refine hO3.many elPath hs3 hE3'.size (by simp [maxLen]; omega) (by omega) fun A4 c4 w4 hE4 hO4 => ⟨_, _, _, rfl, Fin.ret (hE3'.own hO3 hE4) ⟨_, _, _, rfl, ?_⟩⟩
    have := hO4.sl hX
    rw [hput]
    rw [List.take_of_length_le (by omega : l.length ≤ n)] at this
    simpa using this
  simp only [m38_B0]
  by_cases hlt : k < n
  · rw [if_pos (by simp; omega)]
    obtain ⟨p, A1, n1, c1, hpp, hpc, hs1⟩ := hl'.slice k hlt
    refine ⟨p, hpp, by omega, by omega, _, hpc, _, _, _, rfl, Fin.use (refCompare_ok X X A1 B n1 c1 m d _ _ _ hs1 hx') fun v w2 hE2 hv => ⟨_, hv, ?_⟩⟩
    have hE' := hE.trans hE2
    simp only [m38_K2]
    by_cases hneg : pathCmp (l.getD k []) x < 0
    · rw [if_pos (by simpa using hneg)]
      exact ⟨(((k + 1 : Nat) : Int), ()), by rw [wrap_id ⟨by omega, by omega⟩]; rfl, n - (k + 1), by omega, k + 1, rfl, by omega, rfl, hE', putL_split l x k (by omega) hneg hp⟩
    · rw [if_neg (by simpa using hneg)]
      simp only [m38_K1]
      rw [if_pos (by simp; omega)]
      obtain ⟨p, A1, n1, c1, hpp, hpc, hs1⟩ := (hl.ext hE'.no (Upd.same _ _)).slice k hlt
      refine ⟨p, hpp, by omega, by omega, _, hpc, _, _, _, rfl, Fin.use (refCompare_ok X X A1 B n1 c1 m d _ _ _ hs1 (hx.ext hE'.no (Upd.same _ _))) fun v w3 hE3 hv => ⟨_, hv, ?_⟩⟩
      have hE3' := hE'.trans hE3
      have hkl : k < l.length := by omega
      have hg : l.getD k [] = l[k] := by simp [hkl]
      by_cases h0 : pathCmp (l.getD k []) x = 0
      · rw [h0]
        simp only [m38_K3]
        rw [if_pos (by simp)]
        refine Fin.ret hE3' ⟨A, n, c, rfl, ?_⟩
        have : putL l x = l := by
          rw [hp, List.drop_eq_getElem_cons hkl]
          rw [hg] at h0 hneg
          simp only [putL]
          rw [if_neg hneg, if_pos h0, ← List.drop_eq_getElem_cons hkl, List.take_append_drop]
        rw [this]
        exact hl.ext hE3'.no (Upd.same _ _)
      · have hb : ((pathCmp (l.getD k []) x : Int) == 0) = false := by simpa using h0
        rw [hb]
        refine build _ hE3' ?_
        rw [hp, List.drop_eq_getElem_cons hkl]
        rw [hg] at h0 hneg
        simp only [putL, hneg, if_false, h0]
  · rw [if_neg (by simp; omega)]
    simp only [m38_K2]
    rw [if_neg (by simp)]
    simp only [m38_K1]
    rw [if_neg (by simp; omega)]
    refine build _ hE ?_
    rw [hp, List.drop_of_length_le (by omega)]
    rfl

theorem refSort_ok (l : List (List Int)) (hl : SlR (sliceK intK) X w A n c l) (hX : ∀ k, X k → k < w.heap.size) (hn : n ≤ 1099511627776) :
    Calls Tryz.prog 17 #[.slice A n c] w (Fin w fun v w' => ∃ A' k c', v = .slice A' k c' ∧ SlR (sliceK intK) X w' A' k c' (sortL l)) := by
  apply c17
  unfold m17
  have hlen := hl.len
  have hcap := hl.cap
  have hmax := hl.max
  rw [maxLen_eq] at hmax
  refine ⟨(((none : Option Addr), 0, 0), (0 : Int), ()), rfl, fun t s w' => ∃ (i : Nat) (A' : Option Addr) (k c' : Nat), s = ((A', k, c'), (i : Int), ()) ∧ i ≤ n ∧ t = n - i ∧ Ext No w w' ∧ k ≤ i ∧ SlR (sliceK intK) X w' A' k c' (sortL (l.take i)),
    ⟨n, 0, none, 0, 0, rfl, by omega, by omega, Ext.refl _ _, by omega, SlR.nil _ _ _ _ _ (by simp) (fun _ => rfl)⟩, ?_⟩
  rintro t s w' ⟨i, A', k, c', rfl, hi, rfl, hE, hk, hs⟩ _r
  simp only [m17_B0]
  by_cases hlt : i < n
  · rw [if_pos (by simp; omega)]
    obtain ⟨p, A1, n1, c1, hp, hpc, hs1⟩ := (hl.ext hE.no (Upd.same _ _)).slice i hlt
    have hkl := hs.len
    refine ⟨p, hp, by omega, by omega, _, hpc, _, _, _, rfl, Fin.use (put_ok _ _ hs hs1 (fun k hk => Nat.lt_of_lt_of_le (hX k hk) hE.size) (by omega)) fun v w2 hE2 hv => ?_⟩
    obtain ⟨A2, k2, c2, rfl, hs2⟩ := hv
    have hcat : sortL (l.take (i + 1)) = putL (sortL (l.take i)) (l.getD i []) := by
      rw [take_snoc l [] i (by omega)]
      simp [sortL]
    have hk2 := hs2.len
    have hpl := putL_len (sortL (l.take i)) (l.getD i [])
    refine ⟨_, _, _, rfl, ((A2, k2, c2), ((i + 1 : Nat) : Int), ()), by rw [wrap_id ⟨by omega, by omega⟩]; rfl, n - (i + 1), by omega, i + 1, A2, k2, c2, rfl, by omega, rfl, hE.trans hE2, by omega, ?_⟩
    rw [hcat]
    exact hs2
  · rw [if_neg (by simp; omega)]
    simp only [m17_K1]
    refine Fin.ret hE ⟨_, _, _, rfl, ?_⟩
    rwa [List.take_of_length_le (by omega)] at hs

def rawL (l : List Int) (n : Nat) : List Int := (List.range n).map fun (i : Nat) => pick l (i : Int) 9 - (pick l ((i : Int) + 1) 20).tdiv 19
theorem raw_ok (l : List Int) (hl : SlR intK X w A n c l) (hX : ∀ k, X k → k < w.heap.size) (m : Nat) (hm : m ≤ 1000000) :
    Calls Tryz.prog 11 #[.slice A n c, .int .i64 m] w (Fin w fun v w' => ∃ A' k c', v = .slice A' k c' ∧ SlR intK X w' A' k c' (rawL l m)) := by
  apply c11
  unfold m11
  have hints : ∀ x ∈ l, intOk x := by
    intro x hx
    obtain ⟨i, hi, rfl⟩ := List.getElem_of_mem hx
    obtain ⟨a, cs, _, hR, _⟩ := hl.get i (by rw [← hl.len]; exact hi)
    exact hR.2
  refine ⟨(((none : Option Addr), 0, 0), (0 : Int), ()), rfl, fun t s w' => ∃ (i : Nat) (A' : Option Addr) (c' : Nat), s = ((A', i, c'), (i : Int), ()) ∧ i ≤ m ∧ t = m - i ∧ Ext No w w' ∧ OwnR intK 3 w.heap.size X w' A' i c' (rawL l i),
    ⟨m, 0, none, 0, rfl, by omega, by omega, Ext.refl _ _, OwnR.nil _ _ _ _ _⟩, ?_⟩
  rintro t s w' ⟨i, A', c', rfl, hi, rfl, hE, hO⟩ _r
  simp only [m11_B0]
  by_cases hlt : i < m
  · rw [if_pos (by simp; omega)]
    refine Fin.use (pick_ok X A n c l i 9 w' (hl.ext hE.no (Upd.same _ _)) (by omega)) fun v w1 hE1 hv => ⟨_, hv, ?_⟩
    have hE1' := hE.trans hE1
    rw [wrap_id (n := (i : Int) + 1) ⟨by omega, by omega⟩]
    refine Fin.use (pick_ok X A n c l (i + 1) 20 w1 (hl.ext hE1'.no (Upd.same _ _)) (by omega)) fun v w2 hE2 hv => ⟨_, hv, by omega, by intro v hv; simp at hv; subst hv; rfl, ?_⟩
    have hE2' := hE1'.trans hE2
    have b1 := pick_bd (l := l) (i := (i : Int)) (most := 9) hints (by omega)
    have b2 := pick_bd (l := l) (i := (i : Int) + 1) (most := 20) hints (by omega)
    have hd : (pick l (↑i + 1) 20).tdiv 19 = pick l (↑i + 1) 20 / 19 := Int.tdiv_eq_ediv_of_nonneg b2.1
    have hd0 : 0 ≤ pick l (↑i + 1) 20 / 19 := Int.ediv_nonneg b2.1 (by omega)
    have hd1 : pick l (↑i + 1) 20 / 19 ≤ 1 := by omega
    rw [hd]
    rw [wrap_id (n := pick l (↑i + 1) 20 / 19) ⟨by omega, by omega⟩, wrap_id (n := pick l (↑i) 9 - pick l (↑i + 1) 20 / 19) ⟨by omega, by omega⟩]
    have hO2 := (hO.ext0 hE1).ext0 hE2
    refine hO2.push elInt rfl ⟨rfl, by constructor <;> omega⟩ hE2'.size (by simp [maxLen]; omega) (by omega) fun A3 c3 w3 hE3 hO3 => ⟨_, _, _, rfl, ((A3, i + 1, c3), ((i + 1 : Nat) : Int), ()), rfl, m - (i + 1), by omega, i + 1, A3, c3, rfl, by omega, rfl, hE2'.own hO2 hE3, ?_⟩
    have : rawL l (i + 1) = rawL l i ++ [pick l i 9 - pick l (↑i + 1) 20 / 19] := by
      unfold rawL
      rw [List.range_succ, List.map_append]
      simp [hd]
    rw [this]
    exact hO3
  · rw [if_neg (by simp; omega)]
    simp only [m11_K1]
    obtain rfl : i = m := by omega
    exact Fin.ret hE ⟨_, _, _, rfl, hO.sl hX⟩
end
end Go.Proofs.YtilacabmbjephaaGreatDoor
