/- Contracts: the lists of numbers that a path leads to (the iterators of package order). -/
import Derived.Test.YtilacabmbjephaaGreatDoorCO
namespace Go.Proofs.YtilacabmbjephaaGreatDoor
open Go Go.GX
set_option linter.unusedVariables false
set_option linter.unusedSimpArgs false

theorem litSl {α : Type} {E : Kd α} {X : Nat → Prop} {w : World} {css : List (Array Value)} {ds : List α} {C : Array Value} (te : TypeId) (k : Nat) (hC : C.toList = cat css) (hall : All2 (E.R X w) css ds) (hX : ∀ k, X k → k < w.heap.size) (hk : k = ds.length) (hm : k ≤ maxLen) :
    SlR E X (w.alloc (.cells C te)) (some ⟨w.heap.size, 0, none⟩) k k ds := by
  subst hk
  have hl := hall.len
  refine ⟨rfl, Nat.le_refl _, hm, by simp, fun i hi => ⟨_, css[i]'(by omega), rfl, fun hx => Nat.lt_irrefl _ (hX _ hx), E.ext (hall.get i (by omega) hi) ((Ext.refl X w).alloc _) (Upd.same _ _), ?_⟩⟩
  intro j v hj
  have hj' : j < (css[i]'(by omega)).size := (Array.getElem?_eq_some_iff.1 hj).1
  rw [OwnR.cssz hall _ (List.getElem_mem _)] at hj'
  rw [add_add]
  have hadd : (⟨w.heap.size, 0, none⟩ : Addr).add (i * E.sz + j) = ⟨w.heap.size, i * E.sz + j, none⟩ := by unfold Addr.add; split <;> simp_all
  rw [hadd, cell_of_row _ w.heap.size _ C te (0, 0) (heap_alloc_new w _)]
  have := cat_get (OwnR.cssz hall) i j (by omega) hj'
  rw [← hC] at this
  simpa [hj] using this
/-- A row of slices of integers that is written out. -/
theorem litSlices {X : Nat → Prop} {w : World} (vs : List Value) (ds : List (List Int)) (h : All2 (fun v d => ∃ A n c, v = Value.slice A n c ∧ SlR intK X w A n c d) vs ds) (hX : ∀ k, X k → k < w.heap.size) (hm : vs.length ≤ maxLen) :
    SlR (sliceK intK) X (w.alloc (.cells (flat vs) 22)) (some ⟨w.heap.size, 0, none⟩) vs.length vs.length ds := by
  have hl := h.len
  refine litSl (css := vs.map fun v => #[v]) 22 vs.length ?_ ?_ hX hl hm
  · clear hl hm
    induction vs generalizing ds with
    | nil => rfl
    | cons v vs ih =>
      cases ds with
      | nil => exact h.elim
      | cons d ds =>
        obtain ⟨⟨A, n, c, rfl, _⟩, h2⟩ := h
        have := ih ds h2
        simp only [flat, List.flatMap_cons, Value.cells] at this ⊢
        simp only [List.map_cons, cat_cons]
        rw [← this]
  · clear hl hm
    induction vs generalizing ds with
    | nil => cases ds <;> first | trivial | exact h.elim
    | cons v vs ih =>
      cases ds with
      | nil => exact h.elim
      | cons d ds =>
        obtain ⟨⟨A, n, c, rfl, hs⟩, h2⟩ := h
        exact ⟨⟨A, n, c, rfl, hs⟩, ih ds h2⟩
theorem sizedSlices {X : Nat → Prop} {w : World} {vs : List Value} {ds : List (List Int)} (h : All2 (fun v d => ∃ A n c, v = Value.slice A n c ∧ SlR intK X w A n c d) vs ds) : Sized 1 vs := by
  induction vs generalizing ds with
  | nil => intro v hv; cases hv
  | cons v vs ih =>
    cases ds with
    | nil => exact h.elim
    | cons d ds =>
      obtain ⟨⟨A, n, c, rfl, hs⟩, h2⟩ := h
      intro u hu
      rcases List.mem_cons.1 hu with rfl | hu
      · rfl
      · exact ih h2 u hu

def withP (p : List Int) (i : Nat) (c : Int) : List Int := p.take i ++ ([c] ++ p.drop (i + 1))
theorem with_ok {X : Nat → Prop} {A : Option Addr} {n c : Nat} (p : List Int) (i : Nat) (v : Int) (w : World) (hp : SlR intK X w A n c p) (hX : ∀ k, X k → k < w.heap.size) (hi : i < n) (hn : n ≤ small) (hv : intOk v) :
    Calls Tryz.prog 132 #[.slice A n c, .int .i64 (i : Nat), .int .i64 v] w (Fin w fun r w' => ∃ A' c', r = .slice A' (withP p i v).length c' ∧ SlR intK (Old w) w' A' (withP p i v).length c' (withP p i v)) := by
  apply c132
  unfold m132
  have hs : n ≤ 1099511627776 := hn
  have hlen := hp.len
  have hcap := hp.cap
  have hd : Ext No w w.drew := (Ext.refl No w).drew
  have hw1 : IntKind.i64.wrap ((i : Int) + 1) = ((i + 1 : Nat) : Int) := by rw [wrap_id ⟨by omega, by omega⟩]; rfl
  rw [hw1]
  refine ⟨fun _ => True, trivial, by omega, by omega, by omega, by omega, by intro u hu; simp at hu; subst hu; rfl, trivial, ?_⟩
  have hE1 : Ext No w.drew (w.drew.alloc (.cells (flat [.int .i64 v]) 3)) := (Ext.refl No _).alloc _
  have hl1 : SlR intK X (w.drew.alloc (.cells (flat [.int .i64 v]) 3)) (some ⟨w.drew.heap.size, 0, none⟩) 1 1 [v] :=
    litSl (css := [#[.int .i64 v]]) 3 1 rfl ⟨⟨rfl, hv⟩, trivial⟩ hX rfl (by simp [maxLen])
  have hp1 := hp.ext (hd.trans hE1).no (Upd.same _ _)
  have z1 : (w.drew.alloc (.cells (flat [.int .i64 v]) 3)).heap.size = w.drew.heap.size + 1 := by simp
  generalize w.drew.alloc (.cells (flat [.int .i64 v]) 3) = w1 at hE1 hl1 hp1 z1
  have hall : All2 (fun v d => ∃ A n c, v = Value.slice A n c ∧ SlR intK X w1 A n c d)
      [.slice (sliceAddr A 0 c 1) ((i : Int).toNat - 0) (c - 0), .slice (some ⟨w.drew.heap.size, 0, none⟩) 1 1, .slice (sliceAddr A ((i + 1 : Nat) : Int).toNat c 1) (n - ((i + 1 : Nat) : Int).toNat) (c - ((i + 1 : Nat) : Int).toNat)]
      [(p.take i).drop 0, [v], (p.take n).drop (i + 1)] := by
    rw [Int.toNat_natCast, Int.toNat_natCast]
    exact ⟨⟨_, _, _, rfl, hp1.sub 0 i (by omega) (by omega)⟩, ⟨_, _, _, rfl, hl1⟩, ⟨_, _, _, rfl, hp1.sub (i + 1) n (by omega) (Nat.le_refl _)⟩, trivial⟩
  have hX1 : ∀ k, X k → k < w1.heap.size := fun k hk => Nat.lt_of_lt_of_le (hX k hk) (hd.trans hE1).size
  have hrow := litSlices _ _ hall hX1 (by simp [maxLen])
  have hfl : ([(p.take i).drop 0, [v], (p.take n).drop (i + 1)] : List (List Int)).flatten = withP p i v := by
    simp [withP, List.take_of_length_le (Nat.le_of_eq hlen)]
  have hfll : (withP p i v).length ≤ small := by
    simp only [withP, List.length_append, List.length_take, List.length_drop, List.length_cons, List.length_nil]
    unfold small
    omega
  have hE2 : Ext No w1 (w1.alloc (.cells (flat [.slice (sliceAddr A 0 c 1) ((i : Int).toNat - 0) (c - 0), .slice (some ⟨w.drew.heap.size, 0, none⟩) 1 1, .slice (sliceAddr A ((i + 1 : Nat) : Int).toNat c 1) (n - ((i + 1 : Nat) : Int).toNat) (c - ((i + 1 : Nat) : Int).toNat)]) 22)) := (Ext.refl No _).alloc _
  refine ⟨sizedSlices hall, trivial, ?_⟩
  refine Fin.use (joined_ok _ _ hrow (by unfold small; simp) (by rw [hfl]; exact hfll)) fun r w3 hE3 hr => ?_
  obtain ⟨A', c', rfl, hs'⟩ := hr
  rw [hfl] at hs'
  refine ⟨_, _, _, rfl, trivial, Fin.ret (((hd.trans hE1).trans hE2).trans hE3) ⟨A', c', by rw [hfl], hs'.mono fun k hk => ?_⟩⟩
  exact Nat.lt_of_lt_of_le hk ((hd.trans hE1).trans hE2).size
end Go.Proofs.YtilacabmbjephaaGreatDoor
