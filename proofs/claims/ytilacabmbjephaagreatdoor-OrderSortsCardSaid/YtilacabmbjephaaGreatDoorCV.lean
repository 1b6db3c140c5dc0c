/- The walk of OrderSorts. -/
import Derived.Test.YtilacabmbjephaaGreatDoorCU
import Derived.Test.YtilacabmbjephaaGreatDoorDH
namespace Go.Proofs.YtilacabmbjephaaGreatDoor
open Go Go.GX
set_option linter.unusedVariables false

theorem litRow {α : Type} {E : Kd α} {X : Nat → Prop} {w : World} {css : List (Array Value)} {ds : List α} {C : Array Value} (te : TypeId) (k : Nat) (hC : C.toList = cat css) (hall : All2 (E.R X w) css ds) (hX : ∀ k, X k → k < w.heap.size) (hk : k = ds.length) (hm : k ≤ maxLen) :
    SlR E X (w.alloc (.cells C te)) (some ⟨w.heap.size, 0, none⟩) k k ds := by
  subst hk
  have hl := hall.len
  refine ⟨rfl, Nat.le_refl _, hm, by simp, fun i hi => ⟨_, css[i]'(by omega), rfl, fun hx => Nat.lt_irrefl _ (hX _ hx), E.ext (hall.get i (by omega) hi) ((Ext.refl X w).alloc _) (Upd.same _ _), ?_⟩⟩
  intro j v hj
  have hj' : j < (css[i]'(by omega)).size := (Array.getElem?_eq_some_iff.1 hj).1
  rw [OwnR.cssz hall _ (List.getElem_mem _)] at hj'
  rw [add_add]
  have hadd : (⟨w.heap.size, 0, none⟩ : Addr).add (i * E.sz + j) = ⟨w.heap.size, i * E.sz + j, none⟩ := by unfold Addr.add; split <;> simp_all
  rw [hadd, cell_of_row _ w.heap.size _ C te (0, 0) (heap_alloc_new w _)]
  have := cat_get (OwnR.cssz hall) i j (by omega) hj'
  rw [← hC] at this
  simpa [hj] using this

def rawsL (l : List Int) (n i : Nat) : List (List Int) := (List.range i).map fun j => rawL (l.drop (min n (2 * j))) (pick l (j : Int) 4).toNat

theorem sorts_walk {A B D : Option Addr} {n c n2 d2 n3 d3 : Nat} (l a b : List Int) (w : World)
    (hl : SlR intK No w A n c l) (ha : SlR intK No w B n2 d2 a) (hb : SlR intK No w D n3 d3 b) (hU : Used w) :
    Calls Tryz.prog 3 #[.slice A n c, .slice B n2 d2, .slice D n3 d3] w (Fin w fun v _ => v = .bool true) := by
  apply c3
  unfold m3
  have hlen := hl.len
  have hcap := hl.cap
  have hmax := hl.max
  rw [maxLen_eq] at hmax
  have hints : ∀ x ∈ l, intOk x := by
    intro x hx
    obtain ⟨i, hi, rfl⟩ := List.getElem_of_mem hx
    obtain ⟨a, cs, _, hR, _⟩ := hl.get i (by rw [← hl.len]; exact hi)
    exact hR.2
  have up : ∀ A' : Option Addr, (∀ k, own A' k → w.heap.size ≤ k) → Upd No (Or' No (own A')) w := by
    rintro A' h k (hk | hk)
    · exact hk.elim
    · exact .inr (h k hk)
  refine ⟨(((none : Option Addr), 0, 0), (0 : Int), ()), rfl, fun t s w' => ∃ (i : Nat) (A' : Option Addr) (c' : Nat), s = ((A', i, c'), (i : Int), ()) ∧ i ≤ 6 ∧ t = 6 - i ∧ Ext No w w' ∧ OwnR (sliceK intK) 22 w.heap.size No w' A' i c' (rawsL l n i),
    ⟨6, 0, none, 0, rfl, by omega, by omega, Ext.refl _ _, OwnR.nil _ _ _ _ _⟩, ?_⟩
  rintro t s w0 ⟨i, A', c', rfl, hi, rfl, hE, hO⟩ _r
  simp only [m3_B0]
  by_cases hlt : i < 6
  · rw [if_pos (by simp; omega)]
    have h2i : IntKind.i64.wrap (2 * (i : Int)) = 2 * (i : Int) := wrap_id ⟨by omega, by omega⟩
    rw [h2i]
    have hmin : (if (2 * (i : Int)) < (n : Int) then (2 * (i : Int)) else (n : Int)) = ((min n (2 * i) : Nat) : Int) := by
      by_cases h : 2 * i < n
      · rw [if_pos (by omega), Nat.min_eq_right (by omega)]; omega
      · rw [if_neg (by omega), Nat.min_eq_left (by omega)]
    rw [hmin]
    have hd : Ext No w0 w0.drew := (Ext.refl No w0).drew
    have hEd := hE.trans hd
    have hml : min n (2 * i) ≤ n := Nat.min_le_left _ _
    refine ⟨fun _ => True, trivial, by omega, by omega, Fin.use (pick_ok No A n c l i 4 _ (hl.ext hEd (Upd.same _ _)) (by omega)) fun v w1 hE1 hv => ⟨_, hv, trivial, ?_⟩⟩
    have b1 := pick_bd (l := l) (i := (i : Int)) (most := 4) hints (by omega)
    obtain ⟨m, hm⟩ : ∃ m : Nat, pick l (i : Int) 4 = (m : Int) := ⟨_, (Int.toNat_of_nonneg b1.1).symm⟩
    rw [hm]
    have hE1' := hEd.trans hE1
    have hO1 := (hO.ext0 hd).ext0 hE1
    have hsub := (hl.ext hE1'.no (up A' fun k hk => (hO.lt k hk).1)).sub (min n (2 * i)) n hml (Nat.le_refl _)
    simp only [Int.toNat_natCast]
    refine Fin.use (raw_ok _ hsub (fun k hk => ?_) m (by omega)) fun v w2 hE2 hv => ?_
    · rcases hk with hk | hk
      · exact hk.elim
      · exact (hO1.lt k hk).2
    obtain ⟨A2, k2, c2', rfl, hs2⟩ := hv
    have hE2' := hE1'.trans hE2
    have hO2 := hO1.ext0 hE2
    refine ⟨_, _, _, rfl, trivial, by intro v hv; simp at hv; subst hv; rfl, trivial, ?_⟩
    refine hO2.push elPath rfl ⟨_, _, _, rfl, hs2⟩ hE2'.size (by simp [maxLen]; omega) (by omega) fun A3 c3 w3 hE3 hO3 => ⟨_, _, _, rfl, trivial, ((A3, i + 1, c3), ((i + 1 : Nat) : Int), ()), by rw [wrap_id ⟨by omega, by omega⟩]; rfl, 6 - (i + 1), by omega, i + 1, A3, c3, rfl, by omega, rfl, hE2'.own hO2 hE3, ?_⟩
    have : rawsL l n (i + 1) = rawsL l n i ++ [rawL ((l.take n).drop (min n (2 * i))) m] := by
      unfold rawsL
      rw [List.range_succ, List.map_append, List.take_of_length_le (by omega)]
      simp [hm]
    rw [this]
    exact hO3
  · rw [if_neg (by simp; omega)]
    obtain rfl : i = 6 := by omega
    simp only [m3_K1]
    refine ⟨by intro v hv; simp at hv; rcases hv with rfl | rfl | rfl <;> rfl, ?_⟩
    have hlit := litRow (E := sliceK intK) (X := Or' No (own A')) (w := w0) (css := [#[.slice B n2 d2], #[.slice D n3 d3], #[.slice B n2 d2]]) (ds := [a, b, a])
      (C := flat [.slice B n2 d2, .slice D n3 d3, .slice B n2 d2]) 22 3 rfl
      ⟨⟨_, _, _, rfl, ha.ext hE (up A' fun k hk => (hO.lt k hk).1)⟩, ⟨_, _, _, rfl, hb.ext hE (up A' fun k hk => (hO.lt k hk).1)⟩, ⟨_, _, _, rfl, ha.ext hE (up A' fun k hk => (hO.lt k hk).1)⟩, trivial⟩
      (by rintro k (hk | hk)
          · exact hk.elim
          · exact (hO.lt k hk).2) rfl (by simp [maxLen])
    have hEa : Ext No w0 (w0.alloc (.cells (flat [.slice B n2 d2, .slice D n3 d3, .slice B n2 d2]) 22)) := (Ext.refl No w0).alloc _
    refine (hO.ext0 hEa).many elPath hlit (hE.trans hEa).size (by simp [maxLen]) (by omega) fun A1 c1 w1 hE1 hO1 => ⟨_, _, _, rfl, by intro v hv; simp at hv, ?_⟩
    have hE1' := (hE.trans hEa).own (hO.ext0 hEa) hE1
    generalize hmany : rawsL l n 6 ++ [a, b, a] = many at hO1
    have hml : many.length = 9 := hO1.len
    have hEb : Ext No w1 (w1.alloc (.cells (flat []) 22)) := (Ext.refl No w1).alloc _
    have hOe := OwnR.empty (sliceK intK) 22 w1.heap.size No w1 (Nat.le_refl _)
    have hs1 : SlR (sliceK intK) No w1 A1 (6 + 3) c1 many := hO1.sl0
    refine hOe.many elPath (hs1.ext hEb ?_) hEb.size (by simp [maxLen]) (by omega) fun A2 c2 w2 hE2 hO2 => ⟨_, _, _, rfl, ?_⟩
    · rintro k (hk | hk)
      · exact hk.elim
      · exact .inr (Nat.le_of_eq (own_new hk).symm)
    have hE12 : Ext No w1 w2 := hEb.own hOe hE2
    have hE2' := hE1'.trans hE12
    have hm2 : SlR (sliceK intK) No w2 A1 9 c1 many := hs1.ext hE12 (Upd.same _ _)
    have hc2 : SlR (sliceK intK) No w2 A2 9 c2 many := by
      have := hO2.sl0
      simpa using this
    refine ⟨((0 : Int), ()), rfl, fun t s w' => ∃ i : Nat, s = ((i : Int), ()) ∧ i ≤ 9 ∧ t = 9 - i ∧ Ext No w2 w', ⟨9, 0, rfl, by omega, by omega, Ext.refl _ _⟩, ?_⟩
    rintro t s w3 ⟨i, rfl, hi, rfl, hE3⟩ _r
    simp only [m3_B2]
    by_cases hlt : i < 9
    · rw [if_pos (by simp; omega)]
      refine ⟨((0 : Int), ()), rfl, fun t s w' => ∃ k : Nat, s = ((k : Int), ()) ∧ k ≤ 9 ∧ t = 9 - k ∧ Ext No w2 w', ⟨9, 0, rfl, by omega, by omega, hE3⟩, ?_⟩
      rintro t s w4 ⟨k, rfl, hk, rfl, hE4⟩ _r
      simp only [m3_B4]
      by_cases hlt2 : k < 9
      · rw [if_pos (by simp; omega)]
        have hd : Ext No w4 w4.drew := (Ext.refl No w4).drew
        obtain ⟨p, A3, n3, c3, hp, hpc, hs3⟩ := (hm2.ext hE4 (Upd.same _ _)).slice i hlt
        obtain ⟨q, A4, n4, c4, hq, hqc, hs4⟩ := (hm2.ext hE4 (Upd.same _ _)).slice k hlt2
        refine ⟨fun w5 => Ext No w4.drew w5, Ext.refl _ _, p, hp, by omega, by omega, _, fun w5 h5 => h5.cell hpc (fun h => h), _, _, _, rfl, q, hq, by omega, by omega, _, fun w5 h5 => h5.cell hqc (fun h => h), _, _, _, rfl,
          p, hp, by omega, by omega, _, fun w5 h5 => h5.cell hpc (fun h => h), _, _, _, rfl, q, hq, by omega, by omega, _, fun w5 h5 => h5.cell hqc (fun h => h), _, _, _, rfl,
          Fin.use (compare_ok No No A3 A4 _ _ _ _ _ _ _ (hs3.ext hd (Upd.same _ _)) (hs4.ext hd (Upd.same _ _))) fun v w5 hE5 hv => ⟨_, hv, hE5, ?_⟩⟩
        refine Fin.use (refCompare_ok No No A3 A4 _ _ _ _ _ _ _ (hs3.ext (hd.trans hE5) (Upd.same _ _)) (hs4.ext (hd.trans hE5) (Upd.same _ _))) fun v w6 hE6 hv => ⟨_, hv, hE5.trans hE6, ?_⟩
        rw [if_neg (by simp)]
        exact ⟨(((k + 1 : Nat) : Int), ()), by rw [wrap_id ⟨by omega, by omega⟩]; rfl, 9 - (k + 1), by omega, k + 1, rfl, by omega, rfl, ((hE4.trans hd).trans hE5).trans hE6⟩
      · rw [if_neg (by simp; omega)]
        simp only [m3_K3]
        exact ⟨(((i + 1 : Nat) : Int), ()), by rw [wrap_id ⟨by omega, by omega⟩]; rfl, 9 - (i + 1), by omega, i + 1, rfl, by omega, rfl, hE4⟩
    · rw [if_neg (by simp; omega)]
      simp only [m3_K2]
      refine Fin.use (sort_ok many (hm2.ext hE3 (Upd.same _ _)) (fun k hk => hk.elim) (by omega)) fun v w4 hE4 hv => ?_
      obtain ⟨A3, k3, c3, rfl, hs3⟩ := hv
      have hE4' := hE3.trans hE4
      refine ⟨_, _, _, rfl, Fin.use (refSort_ok many (hm2.ext hE4' (Upd.same _ _)) (fun k hk => hk.elim) (by omega)) fun v w5 hE5 hv => ?_⟩
      obtain ⟨A4, k4, c4, rfl, hs4⟩ := hv
      have hE5' := hE4'.trans hE5
      refine ⟨_, _, _, rfl, Fin.use (same_ok No No _ _ _ _ _ _ _ _ _ (hs3.ext hE5 (Upd.same _ _)) hs4) fun v w6 hE6 hv => ⟨_, hv, ?_⟩⟩
      have hE6' := hE5'.trans hE6
      rw [if_pos (by simp)]
      refine Fin.use (same_ok No No _ _ _ _ _ _ _ _ _ (hm2.ext hE6' (Upd.same _ _)) (hc2.ext hE6' (Upd.same _ _))) fun v w7 hE7 hv => ⟨_, hv, ?_⟩
      rw [if_pos (by simp)]
      exact Fin.use (lives_ok _ (hU.ext (hE2'.trans (hE6'.trans hE7)))) fun v w8 hE8 hv => ⟨_, hv, Fin.ret ((hE2'.trans (hE6'.trans hE7)).trans hE8) rfl⟩
end Go.Proofs.YtilacabmbjephaaGreatDoor
