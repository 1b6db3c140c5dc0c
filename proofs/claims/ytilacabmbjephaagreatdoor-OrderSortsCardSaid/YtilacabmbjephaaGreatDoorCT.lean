/- Contracts: paths in order, each once, by the program and by the reference; numbers for choices. -/
import Derived.Test.YtilacabmbjephaaGreatDoorCS
namespace Go.Proofs.YtilacabmbjephaaGreatDoor
open Go Go.GX
set_option linter.unusedVariables false

theorem take_snoc {α : Type} (l : List α) (d : α) (i : Nat) (h : i < l.length) : l.take (i + 1) = l.take i ++ [l.getD i d] := by
  rw [List.take_succ_eq_append_getElem h]
  simp [h]
theorem ddp_take (l : List (List Int)) (j : Nat) (h : j + 1 < l.length) :
    ddp (l.take (j + 2)) = if l.getD j [] = l.getD (j + 1) [] then ddp (l.take (j + 1)) else ddp (l.take (j + 1)) ++ [l.getD (j + 1) []] := by
  rw [take_snoc l [] (j + 1) h, take_snoc l [] j (by omega)]
  exact ddp_step _ _ _

theorem equal_ok (X Y : Nat → Prop) (A B : Option Addr) (n c m d : Nat) (a b : List Int) (w : World) (ha : SlR intK X w A n c a) (hb : SlR intK Y w B m d b) :
    Calls Tryz.prog 37 #[.slice A n c, .slice B m d] w (Fin w fun v _ => v = .bool (decide (a = b))) := by
  apply c37
  unfold m37
  have hla := ha.len
  have hlb := hb.len
  have hcap := ha.cap
  have hmax := ha.max
  rw [maxLen_eq] at hmax
  by_cases hnm : n = m
  · subst hnm
    rw [if_neg (by simp)]
    refine ⟨((0 : Int), ()), rfl, fun k s w' => ∃ i : Nat, s = ((i : Int), ()) ∧ i ≤ n ∧ k = n - i ∧ Ext No w w' ∧ a.take i = b.take i, ⟨n, 0, rfl, by omega, by omega, Ext.refl _ _, rfl⟩, ?_⟩
    rintro k s w' ⟨i, rfl, hi, rfl, hE, ht⟩ _r
    simp only [m37_B0]
    by_cases hlt : i < n
    · rw [if_pos (by simp; omega)]
      obtain ⟨p, hp, hpc, hpo⟩ := (ha.ext hE.no (Upd.same _ _)).int i hlt
      obtain ⟨q, hq, hqc, hqo⟩ := (hb.ext hE.no (Upd.same _ _)).int i hlt
      refine ⟨fun w2 => Ext No w'.drew w2, Ext.refl _ _, p, hp, by omega, by omega, _, fun w2 h2 => h2.cell hpc (fun h => h), _, rfl, q, hq, by omega, by omega, _, fun w2 h2 => h2.cell hqc (fun h => h), _, rfl, ?_⟩
      by_cases he : a.getD i 0 = b.getD i 0
      · rw [if_neg (by simpa using he)]
        refine ⟨(((i + 1 : Nat) : Int), ()), by rw [wrap_id ⟨by omega, by omega⟩]; rfl, n - (i + 1), by omega, i + 1, rfl, by omega, rfl, hE.drew, ?_⟩
        rw [take_snoc a 0 i (by omega), take_snoc b 0 i (by omega), ht, he]
      · rw [if_pos (by simpa using he)]
        refine Fin.ret hE.drew ?_
        congr 1
        symm
        simp only [decide_eq_false_iff_not]
        rintro rfl
        exact he rfl
    · rw [if_neg (by simp; omega)]
      simp only [m37_K1]
      refine Fin.ret hE ?_
      obtain rfl : i = n := by omega
      rw [List.take_of_length_le (by omega), List.take_of_length_le (by omega)] at ht
      simp [ht]
  · rw [if_pos (by simp; omega)]
    refine Fin.ret (Ext.refl _ _) ?_
    congr 1
    symm
    simp only [decide_eq_false_iff_not]
    rintro rfl
    omega

section
variable {b : Nat} {X : Nat → Prop} {A : Option Addr} {n c : Nat}
theorem sliceAddr_zero (A : Option Addr) (c sz : Nat) : sliceAddr A 0 c sz = A := by
  unfold sliceAddr
  split
  · rfl
  · cases A with
    | none => rfl
    | some a => simp [add_zero]

theorem compact_ok (ds : List (List Int)) (w : World) (h : OwnR (sliceK intK) 22 b X w A n c ds) :
    Calls Tryz.prog 36 #[.slice A n c, .func (.func 37) #[] #[]] w (Ret (fun v w' => Ext (own A) w w' ∧ ∃ k, v = .slice A k c ∧ OwnR (sliceK intK) 22 b X w' A k c (ddp ds)) (fun _ _ => False)) := by
  apply c36
  unfold m36
  have hlen := h.len
  have hcap := h.cap_le
  have hmax := hcap.2.1
  rw [maxLen_eq] at hmax
  by_cases h2 : n < 2
  · rw [if_pos (by simp; omega)]
    refine ⟨Ext.refl _ _, n, rfl, ?_⟩
    have : ddp ds = ds := by
      match ds, hlen with
      | [], _ => rfl
      | [a], _ => rfl
      | a :: b :: l, hl => simp at hl; omega
    rwa [this]
  · rw [if_neg (by simp; omega)]
    refine ⟨((1 : Int), ()), rfl, fun k s w' => ∃ i : Nat, s = ((i : Int), ()) ∧ 1 ≤ i ∧ i ≤ n ∧ k = n - i ∧ Ext No w w' ∧ ddp (ds.take i) = ds.take i, ⟨n - 1, 1, rfl, by omega, by omega, rfl, Ext.refl _ _, ?_⟩, ?_⟩
    · match ds, hlen with
      | [], _ => rfl
      | a :: l, _ => rfl
    rintro k s w' ⟨i, rfl, hi1, hi, rfl, hE, ht⟩ _r
    simp only [m36_B0]
    obtain ⟨j, rfl⟩ : ∃ j, i = j + 1 := ⟨i - 1, by omega⟩
    by_cases hlt : j + 1 < n
    · rw [if_pos (by simp; omega)]
      have hO := h.ext0 hE
      have hd : Ext No w' w'.drew := (Ext.refl No w').drew
      obtain ⟨p, A1, n1, c1, hp, hpc, hs1⟩ := hO.slice (j + 1) hlt
      obtain ⟨q, A2, n2, c2, hq, hqc, hs2⟩ := hO.slice j (by omega)
      obtain rfl : p = q := by rw [hp] at hq; simpa using hq
      have hw1 : IntKind.i64.wrap (((j + 1 : Nat) : Int) - 1) = (j : Int) := by rw [wrap_id ⟨by omega, by omega⟩]; omega
      rw [hw1]
      refine ⟨fun w3 => Ext No w'.drew w3, Ext.refl _ _, p, hp, by omega, by omega, _, fun w3 h3 => h3.cell hpc (fun h => h), _, _, _, rfl, p, hp, by omega, by omega, _, fun w3 h3 => h3.cell hqc (fun h => h), _, _, _, rfl, rfl,
        Fin.use (equal_ok _ _ A1 A2 n1 c1 n2 c2 _ _ _ (hs1.ext hd.no (Upd.same _ _)) (hs2.ext hd.no (Upd.same _ _))) fun v w3 hE3 hv => ⟨_, hv, hE3, ?_⟩⟩
      have hE' := (hE.trans hd).trans hE3
      by_cases he : ds.getD (j + 1) [] = ds.getD j []
      · rw [if_pos (by simpa using he)]
        have hne : c ≠ j + 1 := by omega
        have hsa : sliceAddr A ((((j + 1 : Nat) : Int)).toNat) c 1 = some (p.add ((j + 1) * 1)) := by
          rw [hp]
          simp only [sliceAddr, Int.toNat_natCast, hne, if_false, Option.map_some]
        refine ⟨by omega, by omega, (((j + 1 : Nat) : Int), (1 : Int), ()), rfl,
          fun m s w4 => ∃ (k k2 : Nat) (d : List (List Int)), s = ((k : Int), (k2 : Int), ()) ∧ m = n - (j + 1) - k2 ∧ 1 ≤ k2 ∧ k2 ≤ n - (j + 1) ∧ k ≤ j + k2 ∧ Ext (own A) w w4 ∧ OwnR (sliceK intK) 22 b X w4 A n c d ∧ d.take k = ddp (ds.take (j + 1 + k2)) ∧ d.drop (j + k2) = ds.drop (j + k2),
          ⟨n - (j + 1) - 1, j + 1, 1, ds, rfl, rfl, by omega, by omega, by omega, hE'.no, h.ext0 hE', ?_, rfl⟩, ?_⟩
        · rw [ddp_take ds j (by omega), if_pos he.symm]
          exact ht.symm
        rintro m s w4 ⟨k, k2, d, rfl, rfl, hk1, hk2, hkk, hE4, hO4, htk, hdr⟩ _r
        simp only [m36_B2]
        have hdl := hO4.len
        have hget : ∀ t, j + k2 ≤ t → d.getD t [] = ds.getD t [] := by
          intro t ht
          have := congrArg (fun l => l.getD (t - (j + k2)) []) hdr
          simp only [List.getD_eq_getElem?_getD, List.getElem?_drop] at this
          rw [show j + k2 + (t - (j + k2)) = t by omega] at this
          simpa [List.getD_eq_getElem?_getD] using this
        by_cases hlt2 : k2 < n - (j + 1)
        · rw [if_pos (by simp; omega)]
          have hd4 : Ext No w4 w4.drew := (Ext.refl No w4).drew
          obtain ⟨p', A1, n1, c1, hp', hpc, hs1⟩ := hO4.slice (j + 1 + k2) (by omega)
          obtain ⟨q', A2, n2, c2, hq', hqc, hs2⟩ := hO4.slice (j + k2) (by omega)
          obtain rfl : p = p' := by rw [hp] at hp'; simpa using hp'
          obtain rfl : p = q' := by rw [hp] at hq'; simpa using hq'
          rw [hget _ (by omega)] at hs1 hs2
          have hw2 : IntKind.i64.wrap ((k2 : Int) - 1) = ((k2 - 1 : Nat) : Int) := by rw [wrap_id ⟨by omega, by omega⟩]; omega
          have ha1 : (p.add ((j + 1) * 1)).add (((k2 : Int)).toNat * 1) = p.add ((j + 1 + k2) * 1) := by rw [add_add]; congr 1; omega
          have ha2 : (p.add ((j + 1) * 1)).add ((((k2 - 1 : Nat) : Int)).toNat * 1) = p.add ((j + k2) * 1) := by rw [add_add]; congr 1; omega
          rw [hw2, hsa]
          refine ⟨fun w5 => Ext No w4.drew w5, Ext.refl _ _, _, rfl, by omega, by omega, _, fun w5 h5 => ?_, _, _, _, rfl, _, rfl, by omega, by omega, _, fun w5 h5 => ?_, _, _, _, rfl, rfl,
            Fin.use (equal_ok _ _ A1 A2 n1 c1 n2 c2 _ _ _ (hs1.ext hd4.no (Upd.same _ _)) (hs2.ext hd4.no (Upd.same _ _))) fun v w5 hE5 hv => ⟨_, hv, hE5, ?_⟩⟩
          · rw [ha1]; exact h5.cell hpc (fun h => h)
          · rw [ha2]; exact h5.cell hqc (fun h => h)
          have hE5' := (hE4.then hd4).then hE5
          have hO5 := (hO4.ext0 hd4).ext0 hE5
          have hstep := ddp_take ds (j + k2) (by omega)
          rw [show j + k2 + 1 = j + 1 + k2 by omega, show j + k2 + 2 = j + 1 + (k2 + 1) by omega] at hstep
          have hdr' : d.drop (j + (k2 + 1)) = ds.drop (j + (k2 + 1)) := by
            have := congrArg (List.drop 1) hdr
            simpa [List.drop_drop, Nat.add_assoc, Nat.add_comm 1] using this
          by_cases he2 : ds.getD (j + 1 + k2) [] = ds.getD (j + k2) []
          · rw [if_neg (by simpa using he2)]
            simp only [m36_K3]
            refine ⟨((k : Int), ((k2 + 1 : Nat) : Int), ()), by rw [wrap_id (n := (k2 : Int) + 1) ⟨by omega, by omega⟩]; rfl, n - (j + 1) - (k2 + 1), by omega, k, k2 + 1, d, rfl, rfl, by omega, by omega, by omega, hE5', hO5, ?_, hdr'⟩
            rw [hstep, if_pos he2.symm, htk]
          · rw [if_pos (by simpa using he2)]
            have hcl : w5.cell? (p.add ((j + 1 + k2) * 1)) = some (.slice A1 n1 c1) := (hd4.trans hE5).cell hpc (fun h => h)
            obtain ⟨p', A3, n3, c3, hp', hpc3, _⟩ := hO5.slice k (by omega)
            obtain rfl : p = p' := by rw [hp] at hp'; simpa using hp'
            obtain ⟨hO6, hE6⟩ := hO5.setSlice k (by omega) (hs1.ext (hd4.trans hE5).no (Upd.same _ _)) p hp
            refine ⟨_, rfl, by omega, by omega, _, by rw [ha1]; exact hcl, _, _, _, rfl, p, hp, by omega, by omega, ⟨_, hpc3⟩, hO5.free _ p hp, ?_⟩
            simp only [m36_K3]
            refine ⟨(((k + 1 : Nat) : Int), ((k2 + 1 : Nat) : Int), ()), by rw [wrap_id (n := (k2 : Int) + 1) ⟨by omega, by omega⟩, wrap_id (n := (k : Int) + 1) ⟨by omega, by omega⟩]; rfl, n - (j + 1) - (k2 + 1), by omega, k + 1, k2 + 1, _, rfl, rfl, by omega, by omega, by omega, hE5'.trans hE6, hO6, ?_, ?_⟩
            · rw [hstep, if_neg (fun h => he2 h.symm), ← htk, take_snoc _ [] k (by simp; omega)]
              congr 1
              · rw [List.take_set_of_le (Nat.le_refl _)]
              · simp [show k < d.length by omega]
            · rw [List.drop_set_of_lt (by omega)]
              exact hdr'
        · rw [if_neg (by simp; omega)]
          simp only [m36_K2]
          have hk : k ≤ n := by omega
          refine ⟨by omega, by omega, hO4.clear elPath k hk fun w5 hE5 hO5 => ⟨by omega, by omega, hE4.trans hE5, k, ?_, ?_⟩⟩
          · rw [sliceAddr_zero]; simp
          · have : ds.take (j + 1 + k2) = ds := List.take_of_length_le (by omega)
            rw [this] at htk
            rwa [htk] at hO5
      · rw [if_neg (by simpa using he)]
        refine ⟨(((j + 1 + 1 : Nat) : Int), ()), by rw [wrap_id ⟨by omega, by omega⟩]; rfl, n - (j + 1 + 1), by omega, j + 1 + 1, rfl, by omega, by omega, rfl, hE', ?_⟩
        rw [ddp_take ds j (by omega), if_neg (fun h => he h.symm), ht, ← take_snoc ds [] (j + 1) (by omega)]
    · rw [if_neg (by simp; omega)]
      simp only [m36_K1]
      refine ⟨hE.no, n, rfl, ?_⟩
      rw [List.take_of_length_le (by omega)] at ht
      rw [ht]
      exact h.ext0 hE
end
end Go.Proofs.YtilacabmbjephaaGreatDoor
