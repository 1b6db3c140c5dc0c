/- Contracts: joining lists of integers. -/
import Derived.Test.YtilacabmbjephaaGreatDoorCS
import Derived.Test.YtilacabmbjephaaGreatDoorMF
import Derived.Test.YtilacabmbjephaaGreatDoorGxP
import Derived.Test.YtilacabmbjephaaGreatDoorCK
namespace Go.GX
set_option linter.unusedVariables false
/-- append(nil, make([]T, n)...) -/
theorem run_append_zeros {P : Program} (w : World) (t u ty e : TypeId) (k : IntKind) (i : TypeInfo) (z : Value) (ht : P.underlying t = some (.slice e)) (hu : P.underlying u = some (.int k)) (hi : P.info? e = some i) (hz : i.zero = some z)
    (n : Nat) (h0 : 0 < n) (hsz : 0 < i.size) (h63 : (n : Int) ≤ 9223372036854775807) (h48 : n * i.bytes ≤ 281474976710656) (q : IntKind) :
    (Builtin.append_ #[t, u] ty #[.slice none 0 0, .int q n]).run P w =
      .ok (.slice (some ⟨w.heap.size, 0, none⟩) n (grownCap w n 0 e)) (w.drew.alloc (.cells (Builtin.zeroCells z.cells n ++ Builtin.zeroCells z.cells (grownCap w n 0 e - n)) e)) := by
  have hn : n ≠ 0 := by omega
  have h63' : ¬ (9223372036854775807 < (n : Int)) := by omega
  have h48' : ¬ (281474976710656 < Builtin.nextslicecap n 0 * i.bytes) := by rw [nextslicecap_zero h0]; omega
  have hw : IntKind.i64.wrap (n : Int) = n := wrap_id ⟨by omega, by omega⟩
  have hm : ¬ ((n : Int) * (i.bytes : Int) > 281474976710656) := by
    have : ((n * i.bytes : Nat) : Int) ≤ 281474976710656 := Int.ofNat_le.2 h48
    rw [Int.natCast_mul] at this
    omega
  have hz2 : ¬ (n * i.size = 0) := by
    intro h
    rcases Nat.mul_eq_zero.1 h with h | h <;> omega
  have hsz0 : ¬ (i.size = 0) := by omega
  simp [Builtin.append_, run_underlying ht, run_underlying hu, sizeOf, typeInfo, zeroValue, hi, hz, hn, h63', h48', Question.forced, run_firstCells_none, newRow, grownCap, asInt, asIntOf, hw, hm, hsz0, show ¬ ((n : Int) < 0) by omega, show ¬ (281474976710656 < (n : Int) * (i.bytes : Int)) from hm]
  exact fun h => absurd h hz2
end Go.GX
namespace Go.Proofs.YtilacabmbjephaaGreatDoor
open Go Go.GX
set_option linter.unusedVariables false
set_option linter.unusedSimpArgs false

def small : Nat := 1099511627776
theorem grow_ok (n : Nat) (hn : n ≤ small) (w : World) :
    Calls Tryz.prog 207 #[.slice none 0 0, .int .i64 (n : Nat)] w (Ret (fun v w' => ∃ A c, v = .slice A 0 c ∧ Ext No w w' ∧ OwnR intK 3 w.heap.size No w' A 0 c []) fun _ _ => False) := by
  apply c207
  unfold m207
  unfold small at hn
  rw [if_neg (by simp)]
  unfold m207_K1
  have h0 : IntKind.i64.wrap (((0 : Nat) : Int) - ((0 : Nat) : Int)) = 0 := wrap_id (n := 0) (by constructor <;> decide)
  rw [h0]
  have h1 : IntKind.i64.wrap ((n : Int) - 0) = (n : Int) := by rw [wrap_id ⟨by omega, by omega⟩]; omega
  rw [h1]
  by_cases hz : n = 0
  · subst hz
    rw [if_neg (by simp)]
    exact ⟨_, _, rfl, Ext.refl _ _, OwnR.nil _ _ _ _ _⟩
  · rw [if_pos (by simp; omega)]
    obtain ⟨ht, i, z, hi, hzz, hsz, hby, hzs, hz1⟩ := elInt
    have hs1 : i.size = 1 := hsz
    have hu : Tryz.prog.underlying 3 = some (.int .i64) := by kernel_rfl
    have hrun := run_append_zeros (P := Tryz.prog) w 22 3 22 3 .i64 i z ht hu hi hzz n (by omega) (by omega) (by omega) (by rw [hby]; omega) .i64
    refine ⟨by simp, by simp, _, _, hrun, _, _, _, rfl, by simp, by simp, ?_⟩
    have hge := grownCap_ge w n 0 3
    have hcm : grownCap w n 0 3 ≤ maxLen := grownCap_le_maxLen w n 0 3 (by simp [maxLen]; omega)
    have hA : sliceAddr (some (⟨w.heap.size, 0, none⟩ : Addr)) 0 (grownCap w n 0 3) 1 = some ⟨w.heap.size, 0, none⟩ := by
      unfold sliceAddr
      rw [if_neg (by omega)]
      rfl
    rw [hA]
    refine ⟨_, _, rfl, (Ext.refl No w).drew.alloc _, rfl, [], ⟨rfl, .inr ⟨w.heap.size, grownCap w n 0 3, _, rfl, Nat.le_refl _, heap_alloc_new w.drew _, by omega, hcm, ?_, rfl⟩⟩, trivial⟩
    have hz1' : z.cells.size = 1 := hzs
    simp only [Array.size_append, size_zeroCells, hz1', intK]
    omega

theorem flatten_take_succ {α : Type} (ls : List (List α)) (i : Nat) (h : i < ls.length) : (ls.take (i + 1)).flatten = (ls.take i).flatten ++ ls.getD i [] := by
  rw [List.take_succ_eq_append_getElem h, List.flatten_append, List.getD_eq_getElem?_getD, List.getElem?_eq_getElem h]
  simp only [List.flatten_singleton, Option.getD_some]
theorem flatten_take_len {α : Type} (ls : List (List α)) (i : Nat) : (ls.take i).flatten.length ≤ ls.flatten.length := by
  have h : ls.flatten = (ls.take i).flatten ++ (ls.drop i).flatten := by
    conv => lhs; rw [← List.take_append_drop i ls]
    rw [List.flatten_append]
  rw [h]
  simp

theorem concat_ok {X : Nat → Prop} {A : Option Addr} {m c : Nat} (ls : List (List Int)) (w : World) (hl : SlR (sliceK intK) X w A m c ls) (hm : m ≤ small) (ht : ls.flatten.length ≤ small) :
    Calls Tryz.prog 176 #[.slice A m c] w (Fin w fun v w' => ∃ A' c', v = .slice A' ls.flatten.length c' ∧ SlR intK (Old w) w' A' ls.flatten.length c' ls.flatten) := by
  apply c176
  unfold m176
  unfold small at hm ht
  have hlen := hl.len
  refine ⟨((0 : Int), (0 : Int), ()), rfl, fun t s w' => ∃ i : Nat, s = ((((ls.take i).flatten.length : Nat) : Int), (i : Int), ()) ∧ i ≤ m ∧ t = m - i ∧ w' = w, ⟨m, 0, rfl, by omega, by omega, rfl⟩, ?_⟩
  rintro t s w' ⟨i, rfl, hi, rfl, rfl⟩ _r
  simp only [m176_B0]
  have hti := flatten_take_len ls i
  by_cases hlt : i < m
  · rw [if_pos (by simp; omega)]
    obtain ⟨p, A', n', c', hp, hpc, hs'⟩ := hl.slice i hlt
    have hsum : ((ls.take i).flatten.length : Int) + (n' : Int) = (((ls.take (i + 1)).flatten.length : Nat) : Int) := by
      rw [flatten_take_succ ls i (by omega), List.length_append, hs'.len]
      omega
    have hti1 := flatten_take_len ls (i + 1)
    refine ⟨p, hp, by omega, by omega, _, by rw [Int.toNat_natCast]; exact hpc, _, _, _, rfl, ?_⟩
    rw [hsum, wrap_id ⟨by omega, by omega⟩, if_neg (by simp)]
    unfold m176_K2
    exact ⟨((((ls.take (i + 1)).flatten.length : Nat) : Int), ((i + 1 : Nat) : Int), ()), by rw [wrap_id ⟨by omega, by omega⟩]; rfl, m - (i + 1), by omega, i + 1, rfl, by omega, rfl, rfl⟩
  · rw [if_neg (by simp; omega)]
    obtain rfl : i = m := by omega
    rw [List.take_of_length_le (by omega)]
    unfold m176_K1
    refine (grow_ok ls.flatten.length ht w').mono fun e w1 hR => ?_
    cases e with
    | outgrown => exact hR
    | panicked ch => exact hR.elim
    | returned v =>
      obtain ⟨A1, c1, rfl, hE1, hO1⟩ := hR
      refine ⟨_, _, _, rfl, ((A1, 0, c1), (0 : Int), ()), rfl, fun t s w2 => ∃ (j : Nat) (A2 : Option Addr) (c2 : Nat), s = ((A2, (ls.take j).flatten.length, c2), (j : Int), ()) ∧ j ≤ i ∧ t = i - j ∧ Ext No w' w2 ∧
        OwnR intK 3 w'.heap.size No w2 A2 (ls.take j).flatten.length c2 (ls.take j).flatten, ⟨i, 0, A1, c1, rfl, by omega, by omega, hE1, hO1⟩, ?_⟩
      rintro t s w2 ⟨j, A2, c2, rfl, hj, rfl, hE2, hO2⟩ _r
      simp only [m176_B2]
      have htj1 := flatten_take_len ls (j + 1)
      by_cases hlt2 : j < i
      · rw [if_pos (by simp; omega)]
        have hup : Upd X (Or' No (own A2)) w' := by
          rintro k (hk | hk)
          · exact hk.elim
          · exact .inr (hO2.lt k hk).1
        obtain ⟨p, A', n', c', hp, hpc, hs'⟩ := (hl.ext hE2.no hup).slice j hlt2
        have hn' := hs'.len
        have hft := flatten_take_succ ls j (by omega)
        have hsum : (ls.take (j + 1)).flatten.length = (ls.take j).flatten.length + n' := by rw [hft, List.length_append, hn']
        refine ⟨p, hp, by omega, by omega, _, by rw [Int.toNat_natCast]; exact hpc, _, _, _, rfl, ?_⟩
        refine hO2.many elInt hs' hE2.size (by rw [maxLen_eq]; omega) (by omega) fun A3 c3 w3 hE3 hO3 => ?_
        refine ⟨_, _, _, rfl, ((A3, (ls.take (j + 1)).flatten.length, c3), ((j + 1 : Nat) : Int), ()), by rw [wrap_id ⟨by omega, by omega⟩, hsum]; rfl, i - (j + 1), by omega, j + 1, A3, c3, rfl, by omega, rfl, hE2.own hO2 hE3, ?_⟩
        rw [hsum, hft]
        exact hO3
      · rw [if_neg (by simp; omega)]
        obtain rfl : j = i := by omega
        rw [List.take_of_length_le (by omega)] at hO2
        unfold m176_K3
        have hfl : (ls.take j).flatten.length = ls.flatten.length := by rw [List.take_of_length_le (by omega)]
        refine Fin.ret hE2 ⟨A2, c2, by show Value.slice A2 (ls.take j).flatten.length c2 = _; rw [hfl], ?_⟩
        refine (own_weakX intK_any hO2 (Y := Old w')).sl' (fun k hk => .inl hk) fun k hk ho => ?_
        have h1 := (hO2.lt k hk).1
        have h2 : k < w'.heap.size := ho
        omega
theorem joined_ok {X : Nat → Prop} {A : Option Addr} {m c : Nat} (ls : List (List Int)) (w : World) (hl : SlR (sliceK intK) X w A m c ls) (hm : m ≤ small) (ht : ls.flatten.length ≤ small) :
    Calls Tryz.prog 130 #[.slice A m c] w (Fin w fun v w' => ∃ A' c', v = .slice A' ls.flatten.length c' ∧ SlR intK (Old w) w' A' ls.flatten.length c' ls.flatten) := by
  apply c130
  unfold m130
  refine Fin.use (concat_ok ls w hl hm ht) fun v w' hE hv => ?_
  obtain ⟨A', c', rfl, hs⟩ := hv
  exact ⟨_, _, _, rfl, Fin.ret hE ⟨_, _, rfl, hs⟩⟩
end Go.Proofs.YtilacabmbjephaaGreatDoor
