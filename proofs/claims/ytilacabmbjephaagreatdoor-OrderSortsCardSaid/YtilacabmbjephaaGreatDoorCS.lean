/- Contracts: sorting paths (at most twelve), each once; the reference's sorting. -/
import Derived.Test.YtilacabmbjephaaGreatDoorMC
import Derived.Test.YtilacabmbjephaaGreatDoorPA
import Derived.Test.YtilacabmbjephaaGreatDoorSh
namespace Go.Proofs.YtilacabmbjephaaGreatDoor
open Go Go.GX
set_option linter.unusedVariables false

theorem elInt : ElT Tryz.prog intK 22 3 8 := .of (by kernel_rfl)
theorem elPath : ElT Tryz.prog (sliceK intK) 23 22 24 := .of (by kernel_rfl)

theorem toList_getD (d : Array (List Int)) (i : Nat) : d.toList.getD i [] = d[i]! := by
  simp [List.getD_eq_getElem?_getD, Array.getElem!_eq_getD]
  rfl

section
variable {b : Nat} {X : Nat → Prop} {A : Option Addr} {n c : Nat} {w0 : World}
/-- What a step of the sorting leaves. -/
def Srt (b : Nat) (X : Nat → Prop) (A : Option Addr) (n c : Nat) (w0 : World) (d : Array (List Int)) (w : World) : Prop :=
  Ext (own A) w0 w ∧ OwnR (sliceK intK) 22 b X w A n c d.toList

theorem insSort_ok (a2 b3 : Nat) (hab : b3 ≤ n) (ha2 : a2 ≤ n) (hn : n < 9223372036854775807) (d0 : Array (List Int)) (w : World) (h : OwnR (sliceK intK) 22 b X w A n c d0.toList) :
    Calls Tryz.prog 88 #[.slice A n c, .int .i64 a2, .int .i64 b3, .func (.func 13) #[] #[]] w (Ret (fun v w' => Srt b X A n c w (Go.Sort.insertionSort ltP d0 a2 b3) w') (fun _ _ => False)) := by
  apply c88
  unfold m88
  have hcap := h.cap_le
  have hmax := hcap.2.1
  rw [maxLen_eq] at hmax
  refine ⟨(((a2 + 1 : Nat) : Int), ()), by rw [wrap_id ⟨by omega, by omega⟩]; rfl, fun k s w' => ∃ (i : Nat) (d : Array (List Int)), s = ((i : Int), ()) ∧ k = b3 - i ∧ i ≤ a2 + b3 + 1 ∧ Srt b X A n c w d w' ∧ Go.Sort.insertionSort ltP d0 a2 b3 = Go.Sort.insOuter ltP a2 b3 i d,
    ⟨b3 - (a2 + 1), a2 + 1, d0, rfl, rfl, by omega, ⟨Ext.refl _ _, h⟩, rfl⟩, ?_⟩
  rintro k s w1 ⟨i, d1, rfl, rfl, hib, ⟨hE1, hO1⟩, hin⟩ _r
  simp only [m88_B0]
  by_cases hlt : i < b3
  · rw [if_pos (by simp; omega)]
    have hout : Go.Sort.insOuter ltP a2 b3 i d1 = Go.Sort.insOuter ltP a2 b3 (i + 1) (Go.Sort.insInner ltP a2 i d1) := by
      rw [Go.Sort.insOuter, if_pos hlt]
    refine ⟨((i : Int), ()), rfl, fun k s w' => ∃ (j : Nat) (d : Array (List Int)), s = ((j : Int), ()) ∧ k = j ∧ j ≤ i ∧ Srt b X A n c w d w' ∧ Go.Sort.insInner ltP a2 i d1 = Go.Sort.insInner ltP a2 j d,
      ⟨i, i, d1, rfl, rfl, by omega, ⟨hE1, hO1⟩, rfl⟩, ?_⟩
    rintro j s w2 ⟨_, d, rfl, rfl, hj, ⟨hE, hO⟩, hinn⟩ _r
    simp only [m88_B2]
    -- when the inner loop ends with d3
    have stop : ∀ (w3 : World) (d3 : Array (List Int)), Srt b X A n c w d3 w3 → Go.Sort.insInner ltP a2 i d1 = d3 →
        (∃ s50 : StOf m88_S0, [.int .i64 (IntKind.i64.wrap ((i : Int) + (1)))] = encOf m88_S0 s50 ∧ ∃ m, m < b3 - i ∧ ∃ (i' : Nat) (d : Array (List Int)), s50 = ((i' : Int), ()) ∧ m = b3 - i' ∧ i' ≤ a2 + b3 + 1 ∧ Srt b X A n c w d w3 ∧ Go.Sort.insertionSort ltP d0 a2 b3 = Go.Sort.insOuter ltP a2 b3 i' d) := by
      intro w3 d3 hS h3
      refine ⟨(((i + 1 : Nat) : Int), ()), by rw [wrap_id ⟨by omega, by omega⟩]; rfl, b3 - (i + 1), by omega, i + 1, d3, rfl, rfl, by omega, hS, ?_⟩
      rw [hin, hout, h3]
    by_cases hja : j > a2
    · obtain ⟨j, rfl⟩ : ∃ j', j = j' + 1 := ⟨j - 1, by omega⟩
      obtain ⟨p, A1, n1, c1, hp, hpc, hs1⟩ := hO.slice (j + 1) (by omega)
      obtain ⟨q, A2, n2, c2, hq, hqc, hs2⟩ := hO.slice j (by omega)
      rw [toList_getD] at hs1 hs2
      have hpq : p = q := by rw [hp] at hq; simpa using hq
      subst hpq
      have hw1 : IntKind.i64.wrap (((j + 1 : Nat) : Int) - 1) = (j : Int) := by rw [wrap_id ⟨by omega, by omega⟩]; omega
      have hd : Ext No w2 w2.drew := (Ext.refl No w2).drew
      refine ⟨fun w3 => Ext No w2.drew w3, Ext.refl _ _, ?_⟩
      rw [if_pos (by simp; omega)]
      rw [hw1]
      refine ⟨p, hp, by omega, by omega, _, fun w3 h3 => h3.cell hpc (fun h => h), _, _, _, rfl, p, hp, by omega, by omega, _, fun w3 h3 => h3.cell hqc (fun h => h), _, _, _, rfl, rfl,
        Fin.use (compare_ok _ _ A1 A2 n1 c1 n2 c2 _ _ _ (hs1.ext hd.no (Upd.same _ _)) (hs2.ext hd.no (Upd.same _ _))) fun v w3 hE3 hv => ⟨_, hv, hE3, ?_⟩⟩
      have hE' : Ext (own A) w w3 := (hE.then hd).then hE3
      have hO' := (hO.ext0 hd).ext0 hE3
      simp only [m88_K3]
      by_cases hl : pathCmp d[j + 1]! d[j]! < 0
      · rw [if_pos (by simpa using hl)]
        rw [hw1]
        have hd3 : Ext No w3 w3.drew := (Ext.refl No w3).drew
        have hO3 := hO'.ext0 hd3
        have hpc3 : w3.drew.cell? (p.add ((j + 1) * 1)) = some (.slice A1 n1 c1) := ((hd.trans hE3).trans hd3).cell hpc (fun h => h)
        have hqc3 : w3.drew.cell? (p.add (j * 1)) = some (.slice A2 n2 c2) := ((hd.trans hE3).trans hd3).cell hqc (fun h => h)
        have hs1' := hs1.ext ((hd.trans hE3).trans hd3).no (Upd.same _ _)
        have hs2' := hs2.ext ((hd.trans hE3).trans hd3).no (Upd.same _ _)
        obtain ⟨hO4, hE4⟩ := hO3.setSlice (j + 1) (by omega) hs2' p hp
        obtain ⟨hO5, hE5⟩ := hO4.setSlice j (by omega) (hs1'.ext (hE4.mono fun k _ hk => .inr hk) (Upd.same _ _)) p hp
        have hqc4 : ((w3.drew.setCell (p.add ((j + 1) * 1)) (.slice A2 n2 c2)).cell? (p.add (j * 1))).isSome = true := by
          obtain ⟨p', _, _, _, hp', hh, _⟩ := hO4.slice j (by omega)
          have : p' = p := by rw [hp] at hp'; simpa using hp'.symm
          subst this
          rw [hh]
          rfl
        have hfin : Srt b X A n c w (Go.Sort.swp d (j + 1) j) ((w3.drew.setCell (p.add ((j + 1) * 1)) (.slice A2 n2 c2)).setCell (p.add (j * 1)) (.slice A1 n1 c1)) := by
          refine ⟨((hE'.then hd3).trans hE4).trans hE5, ?_⟩
          have : (Go.Sort.swp d (j + 1) j).toList = (d.toList.set (j + 1) d[j]!).set j d[j + 1]! := by simp [Go.Sort.swp, Array.toList_setIfInBounds]
          rw [this]
          exact hO5
        refine ⟨fun w4 => Ext No w3.drew w4, Ext.refl _ _, p, hp, by omega, by omega, _, fun w4 h4 => h4.cell hqc3 (fun h => h), _, _, _, rfl, p, hp, by omega, by omega, _, fun w4 h4 => h4.cell hpc3 (fun h => h), _, _, _, rfl,
          p, hp, by omega, by omega, ⟨_, hpc3⟩, hO3.free _ p hp, fun _ => True, trivial, p, hp, by omega, by omega, Option.isSome_iff_exists.1 hqc4, hO4.free _ p hp, fun _ => True, trivial,
          ((j : Int), ()), rfl, j, by omega, j, _, rfl, rfl, by omega, hfin, ?_⟩
        rw [hinn]
        simp only [Go.Sort.insInner]
        rw [if_pos (by simp [ltP_iff.2 hl]; omega)]
      · rw [if_neg (by simpa using hl)]
        simp only [m88_K2]
        refine stop _ d ⟨hE', hO'⟩ ?_
        rw [hinn]
        simp only [Go.Sort.insInner]
        rw [if_neg (by simp [ltP_iff'.2 hl])]
    · have hd : Ext No w2 w2.drew := (Ext.refl No w2).drew
      refine ⟨fun _ => True, trivial, ?_⟩
      rw [if_neg (by simp; omega)]
      simp only [m88_K3]
      rw [if_neg (by simp)]
      simp only [m88_K2]
      refine stop _ d ⟨hE.then hd, hO.ext0 hd⟩ ?_
      rw [hinn]
      cases j with
      | zero => rfl
      | succ j => simp only [Go.Sort.insInner]; rw [if_neg (by simp; omega)]
  · rw [if_neg (by simp; omega)]
    simp only [m88_K1]
    rw [hin, Go.Sort.insOuter, if_neg hlt]
    exact ⟨hE1, hO1⟩

/-- Sorting twelve paths or fewer. -/
theorem pdq_ok (hn : n ≤ 12) (l4 : Int) (d0 : Array (List Int)) (w : World) (h : OwnR (sliceK intK) 22 b X w A n c d0.toList) :
    Calls Tryz.prog 56 #[.slice A n c, .int .i64 0, .int .i64 n, .int .i64 l4, .func (.func 13) #[] #[]] w (Ret (fun v w' => Srt b X A n c w (Go.Sort.insertionSort ltP d0 0 n) w') (fun _ _ => False)) := by
  apply c56
  unfold m56
  refine ⟨((0 : Int), (n : Int), l4, true, true, ()), rfl, fun k s w' => s = ((0 : Int), (n : Int), l4, true, true, ()) ∧ w' = w, ⟨0, rfl, rfl⟩, ?_⟩
  rintro k s w' ⟨rfl, rfl⟩ _r
  simp only [m56_B0]
  rw [wrap_id (n := (n : Int) - 0) ⟨by omega, by omega⟩]
  rw [if_pos (by simp; omega)]
  exact use (insSort_ok 0 n (Nat.le_refl _) (Nat.zero_le _) (by omega) d0 _ h) fun v w2 hs => hs
theorem sortFunc_ok (hn : n ≤ 12) (ds : List (List Int)) (w : World) (h : OwnR (sliceK intK) 22 b X w A n c ds) :
    Calls Tryz.prog 35 #[.slice A n c, .func (.func 13) #[] #[]] w (Ret (fun v w' => Ext (own A) w w' ∧ ∃ ds', ds'.Perm ds ∧ (ds'.Pairwise fun a b => ¬ pathCmp b a < 0) ∧ OwnR (sliceK intK) 22 b X w' A n c ds') (fun _ _ => False)) := by
  apply c35
  unfold m35
  have hlen := h.len
  have hconv : (convert 3 87 (.int .i64 (n : Int))).run Tryz.prog w = .ok (.int .u64 (n : Int)) w := by
    have h3 := run_underlying (w := w) Tryz.underlying3
    have h87 := run_underlying (w := w) Tryz.underlying87
    have hw : IntKind.u64.wrap (n : Int) = n := by simp [IntKind.wrap, IntKind.bits, IntKind.signed]; omega
    simp [convert, h3, h87, Conv.intToInt, hw]
  refine ⟨_, _, hconv, (n : Int), rfl, ?_⟩
  have hl := Any.bits_Len Tryz.lenL (n : Int) w (by omega) (by omega)
  refine (show Calls Tryz.prog 57 #[.int .u64 (n : Int)] w _ from hl).mono ?_
  rintro e w' ⟨rfl, rfl⟩
  refine ⟨_, rfl, use (pdq_ok hn _ ds.toArray _ (by simpa using h)) fun v w2 hs => ⟨hs.1, _, ?_, ?_, hs.2⟩⟩
  · have hi := Go.Sort.insertionSort_holds swoP ds.toArray 0 n (Nat.zero_le _) (by simp [hlen])
    have := perm_of (d := ds.toArray) (d' := Go.Sort.insertionSort ltP ds.toArray 0 n) (by simpa [hlen] using hi.1)
    simpa using this
  · have hi := Go.Sort.insertionSort_holds swoP ds.toArray 0 n (Nat.zero_le _) (by simp [hlen])
    refine sorted_of ?_
    have hsz := hi.1.1
    simp only [List.size_toArray] at hsz
    rw [hsz, hlen]
    exact hi.2
end
end Go.Proofs.YtilacabmbjephaaGreatDoor
