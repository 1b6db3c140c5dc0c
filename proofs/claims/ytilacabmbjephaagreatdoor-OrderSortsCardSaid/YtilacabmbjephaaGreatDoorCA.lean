/- Contracts: the references' integers. -/
import Derived.Test.YtilacabmbjephaaGreatDoorMA
import Derived.Test.YtilacabmbjephaaGreatDoorGxN
namespace Go.Proofs.YtilacabmbjephaaGreatDoor
open Go Go.GX
set_option linter.unusedVariables false

def around (n most : Int) : Int := (if n < 0 then -(n + 1) else n).tmod most
theorem around_bd {n most : Int} (hn : intOk n) (h1 : 1 ≤ most) : 0 ≤ around n most ∧ around n most < most := by
  unfold intOk at hn
  unfold around
  split
  · rw [Int.tmod_eq_emod_of_nonneg (by omega)]
    exact ⟨Int.emod_nonneg _ (by omega), Int.emod_lt_of_pos _ (by omega)⟩
  · rw [Int.tmod_eq_emod_of_nonneg (by omega)]
    exact ⟨Int.emod_nonneg _ (by omega), Int.emod_lt_of_pos _ (by omega)⟩
theorem around_ok (n most : Int) (w : World) (hn : intOk n) (h1 : 1 ≤ most) : Calls Tryz.prog 29 #[.int .i64 n, .int .i64 most] w (Fin w fun v _ => v = .int .i64 (around n most)) := by
  apply c29
  unfold m29
  unfold intOk at hn
  by_cases h : n < 0
  · simp only [h, decide_true, if_true, m29_K1]
    refine ⟨by omega, Fin.ret (Ext.refl _ _) ?_⟩
    rw [wrap_id (n := n + 1) ⟨by omega, by omega⟩, wrap_id ⟨by omega, by omega⟩]
    simp [around, h]
  · simp only [h, decide_false, Bool.false_eq_true, if_false, m29_K1]
    exact ⟨by omega, Fin.ret (Ext.refl _ _) (by simp [around, h])⟩

def pick (l : List Int) (i most : Int) : Int := if i < 0 ∨ i ≥ l.length then 0 else around (l.getD i.toNat 0) most
theorem pick_bd {l : List Int} {i most : Int} (hl : ∀ x ∈ l, intOk x) (h1 : 1 ≤ most) : 0 ≤ pick l i most ∧ pick l i most < most := by
  unfold pick
  split
  · omega
  · rename_i h
    refine around_bd ?_ h1
    have hi : i.toNat < l.length := by omega
    simp only [List.getD_eq_getElem?_getD, List.getElem?_eq_getElem hi, Option.getD_some]
    exact hl _ (List.getElem_mem hi)
theorem pick_ok (X : Nat → Prop) (A : Option Addr) (n c : Nat) (l : List Int) (i most : Int) (w : World) (hl : SlR intK X w A n c l) (h1 : 1 ≤ most) :
    Calls Tryz.prog 12 #[.slice A n c, .int .i64 i, .int .i64 most] w (Fin w fun v _ => v = .int .i64 (pick l i most)) := by
  apply c12
  unfold m12
  have hlen := hl.len
  by_cases h : i < 0
  · simp only [h, decide_true, if_true, m12_K1]
    exact Fin.ret (Ext.refl _ _) (by simp [pick, h])
  · simp only [h, decide_false, Bool.false_eq_true, if_false, m12_K1]
    by_cases h2 : i ≥ (n : Int)
    · simp only [h2, decide_true, if_true]
      exact Fin.ret (Ext.refl _ _) (by simp [pick, h, hlen, h2])
    · simp only [h2, decide_false, Bool.false_eq_true, if_false]
      obtain ⟨a, hA, hc, hok⟩ := hl.int i.toNat (by omega)
      refine ⟨a, hA, by omega, by omega, _, hc, _, rfl, Fin.use (around_ok _ _ _ hok h1) fun v w' hE hv => ⟨_, hv, Fin.ret hE ?_⟩⟩
      simp [pick, h, hlen, h2]

/-- Two lists of integers that are read. -/
theorem sameInts_ok (X Y : Nat → Prop) (A B : Option Addr) (n c m d : Nat) (a b : List Int) (w : World) (ha : SlR intK X w A n c a) (hb : SlR intK Y w B m d b) :
    Calls Tryz.prog 33 #[.slice A n c, .slice B m d] w (Fin w fun v _ => v = .bool (decide (a = b))) := by
  apply c33
  unfold m33
  have hla := ha.len
  have hlb := hb.len
  have hcap := ha.cap
  have hmax := ha.max
  rw [maxLen_eq] at hmax
  by_cases hnm : n = m
  · subst hnm
    rw [if_neg (by simp)]
    refine ⟨((0 : Int), ()), rfl, fun k s w' => ∃ i : Nat, s = ((i : Int), ()) ∧ i ≤ n ∧ k = n - i ∧ Ext No w w' ∧ a.take i = b.take i, ⟨n, 0, rfl, by omega, by omega, Ext.refl _ _, rfl⟩, ?_⟩
    rintro k s w' ⟨i, rfl, hi, rfl, hE, ht⟩ _r
    simp only [m33_B0]
    by_cases hlt : i < n
    · rw [if_pos (by simp; omega)]
      obtain ⟨p, hp, hpc, hpo⟩ := (ha.ext hE.no (Upd.same _ _)).int i hlt
      obtain ⟨q, hq, hqc, hqo⟩ := (hb.ext hE.no (Upd.same _ _)).int i hlt
      refine ⟨fun w2 => Ext No w'.drew w2, Ext.refl _ _, p, hp, by omega, by omega, _, fun w2 h2 => h2.cell hpc (fun h => h), _, rfl, q, hq, by omega, by omega, _, fun w2 h2 => h2.cell hqc (fun h => h), _, rfl, ?_⟩
      by_cases he : a.getD i 0 = b.getD i 0
      · rw [if_neg (by simpa using he)]
        refine ⟨(((i + 1 : Nat) : Int), ()), by rw [wrap_id ⟨by omega, by omega⟩]; rfl, n - (i + 1), by omega, i + 1, rfl, by omega, rfl, hE.drew, ?_⟩
        have h1 : i < a.length := by omega
        have h2 : i < b.length := by omega
        rw [List.take_succ_eq_append_getElem h1, List.take_succ_eq_append_getElem h2, ht]
        simp [h1, h2] at he
        rw [he]
      · rw [if_pos (by simpa using he)]
        refine Fin.ret hE.drew ?_
        congr 1
        symm
        simp only [decide_eq_false_iff_not]
        rintro rfl
        exact he rfl
    · rw [if_neg (by simp; omega)]
      refine Fin.ret hE ?_
      obtain rfl : i = n := by omega
      rw [List.take_of_length_le (by omega), List.take_of_length_le (by omega)] at ht
      simp [ht]
  · rw [if_pos (by simp; omega)]
    refine Fin.ret (Ext.refl _ _) ?_
    congr 1
    symm
    simp only [decide_eq_false_iff_not]
    rintro rfl
    omega
end Go.Proofs.YtilacabmbjephaaGreatDoor
