/- Contracts: comparing paths. -/
import Derived.Test.YtilacabmbjephaaGreatDoorMB
import Derived.Test.YtilacabmbjephaaGreatDoorCA
import Derived.Test.YtilacabmbjephaaGreatDoorGxO
namespace Go.Proofs.YtilacabmbjephaaGreatDoor
open Go Go.GX
set_option linter.unusedVariables false

def cmpI (a b : Int) : Int := if a < b then -1 else if a > b then 1 else 0
def lexI : List Int → List Int → Int
  | [], [] => 0
  | [], _ :: _ => -1
  | _ :: _, [] => 1
  | a :: as1, b :: bs => if cmpI a b ≠ 0 then cmpI a b else lexI as1 bs
def pathCmp (a b : List Int) : Int := if a.length < b.length then -1 else if a.length > b.length then 1 else lexI a b
theorem cmpI_ok (a b : Int) : intOk (cmpI a b) := by unfold cmpI intOk; split <;> (try split) <;> omega
theorem lexI_ok : ∀ a b, intOk (lexI a b)
  | [], [] => by simp [lexI, intOk]
  | [], _ :: _ => by simp [lexI, intOk]
  | _ :: _, [] => by simp [lexI, intOk]
  | a :: as1, b :: bs => by
    unfold lexI
    split
    · exact cmpI_ok a b
    · exact lexI_ok as1 bs
theorem lexI_step {a b : List Int} (i : Nat) (h1 : i < a.length) (h2 : i < b.length) :
    lexI (a.drop i) (b.drop i) = if cmpI (a.getD i 0) (b.getD i 0) ≠ 0 then cmpI (a.getD i 0) (b.getD i 0) else lexI (a.drop (i + 1)) (b.drop (i + 1)) := by
  rw [List.drop_eq_getElem_cons h1, List.drop_eq_getElem_cons h2]
  simp [lexI, h1, h2]

theorem nan_ok (x : Int) (w : World) : Calls Tryz.prog 55 #[.int .i64 x] w (Fin w fun v _ => v = .bool false) := by
  apply c55
  unfold m55
  exact Fin.ret (Ext.refl _ _) (by simp)
theorem cmpCompare_ok (x y : Int) (w : World) : Calls Tryz.prog 31 #[.int .i64 x, .int .i64 y] w (Fin w fun v _ => v = .int .i64 (cmpI x y)) := by
  apply c31
  unfold m31
  refine Fin.use (nan_ok _ _) fun v w' hE hv => ⟨_, hv, Fin.use (nan_ok _ _) fun v w2 hE2 hv => ⟨_, hv, ?_⟩⟩
  have hE := hE.trans hE2
  rw [if_neg (by simp), if_neg (by simp)]
  by_cases h : x < y
  · rw [if_pos (by simpa using h)]; exact Fin.ret hE (by simp [cmpI, h])
  · rw [if_neg (by simpa using h)]
    by_cases h2 : x > y
    · rw [if_pos (by simpa using h2)]; exact Fin.ret hE (by simp [cmpI, h, h2])
    · rw [if_neg (by simpa using h2)]; exact Fin.ret hE (by simp [cmpI, h, h2])

/-- The first that is not 0. -/
def orI : List Int → Int
  | [] => 0
  | a :: as1 => if a ≠ 0 then a else orI as1
theorem cmpOr_ok (A : Option Addr) (n c : Nat) (l : List Int) (w : World) (hl : SlR intK No w A n c l) : Calls Tryz.prog 30 #[.slice A n c] w (Fin w fun v _ => v = .int .i64 (orI l)) := by
  apply c30
  unfold m30
  have hlen := hl.len
  have hcap := hl.cap
  have hmax := hl.max
  rw [maxLen_eq] at hmax
  refine ⟨((0 : Int), ()), rfl, fun k s w' => ∃ i : Nat, s = ((i : Int), ()) ∧ i ≤ n ∧ k = n - i ∧ Ext No w w' ∧ orI l = orI (l.drop i), ⟨n, 0, rfl, by omega, by omega, Ext.refl _ _, rfl⟩, ?_⟩
  rintro k s w' ⟨i, rfl, hi, rfl, hE, ht⟩ _r
  simp only [m30_B0]
  by_cases hlt : i < n
  · rw [if_pos (by simp; omega)]
    obtain ⟨p, hp, hpc, hpo⟩ := (hl.ext hE (Upd.same _ _)).int i hlt
    have hstep : orI (l.drop i) = if l.getD i 0 ≠ 0 then l.getD i 0 else orI (l.drop (i + 1)) := by
      have h1 : i < l.length := by omega
      rw [List.drop_eq_getElem_cons h1]
      simp [orI, h1]
    refine ⟨p, hp, by omega, by omega, _, hpc, _, rfl, ?_⟩
    by_cases h0 : l.getD i 0 = 0
    · rw [if_neg (by simpa using h0)]
      refine ⟨(((i + 1 : Nat) : Int), ()), by rw [wrap_id ⟨by omega, by omega⟩]; rfl, n - (i + 1), by omega, i + 1, rfl, by omega, rfl, hE, ?_⟩
      rw [ht, hstep]
      simp only [h0, ne_eq, not_true_eq_false, if_false]
    · rw [if_pos (by simpa using h0)]
      exact Fin.ret hE (by rw [ht, hstep, if_pos h0])
  · rw [if_neg (by simp; omega)]
    refine Fin.ret hE ?_
    rw [ht, List.drop_of_length_le (by omega)]
    rfl

theorem slicesCompare_ok (X Y : Nat → Prop) (A B : Option Addr) (n c m d : Nat) (a b : List Int) (w : World) (ha : SlR intK X w A n c a) (hb : SlR intK Y w B m d b) :
    Calls Tryz.prog 32 #[.slice A n c, .slice B m d] w (Fin w fun v _ => v = .int .i64 (lexI a b)) := by
  apply c32
  unfold m32
  have hla := ha.len
  have hlb := hb.len
  have hcap := ha.cap
  have hmax := ha.max
  rw [maxLen_eq] at hmax
  refine ⟨((0 : Int), ()), rfl, fun k s w' => ∃ i : Nat, s = ((i : Int), ()) ∧ i ≤ n ∧ i ≤ m ∧ k = n - i ∧ Ext No w w' ∧ lexI a b = lexI (a.drop i) (b.drop i), ⟨n, 0, rfl, by omega, by omega, by omega, Ext.refl _ _, rfl⟩, ?_⟩
  rintro k s w' ⟨i, rfl, hi, him, rfl, hE, ht⟩ _r
  simp only [m32_B0]
  by_cases hlt : i < n
  · rw [if_pos (by simp; omega)]
    obtain ⟨p, hp, hpc, hpo⟩ := (ha.ext hE.no (Upd.same _ _)).int i hlt
    refine ⟨p, hp, by omega, by omega, _, hpc, _, rfl, ?_⟩
    by_cases hm : i < m
    · rw [if_neg (by simp; omega)]
      obtain ⟨q, hq, hqc, hqo⟩ := (hb.ext hE.no (Upd.same _ _)).int i hm
      refine ⟨q, hq, by omega, by omega, _, hqc, _, rfl, Fin.use (cmpCompare_ok _ _ _) fun v w2 hE2 hv => ⟨_, hv, ?_⟩⟩
      have hs := lexI_step i (by omega : i < a.length) (by omega : i < b.length)
      by_cases h0 : cmpI (a.getD i 0) (b.getD i 0) = 0
      · rw [if_neg (by simpa using h0)]
        refine ⟨(((i + 1 : Nat) : Int), ()), by rw [wrap_id ⟨by omega, by omega⟩]; rfl, n - (i + 1), by omega, i + 1, rfl, by omega, by omega, rfl, hE.trans hE2, ?_⟩
        rw [ht, hs, if_neg (by simpa using h0)]
      · rw [if_pos (by simpa using h0)]
        exact Fin.ret (hE.trans hE2) (by rw [ht, hs, if_pos h0])
    · rw [if_pos (by simp; omega)]
      refine Fin.ret hE ?_
      rw [ht, List.drop_of_length_le (l := b) (by omega), List.drop_eq_getElem_cons (by omega : i < a.length)]
      rfl
  · rw [if_neg (by simp; omega)]
    simp only [m32_K1]
    by_cases hnm : n < m
    · rw [if_pos (by simp; omega)]
      refine Fin.ret hE ?_
      rw [ht, List.drop_of_length_le (l := a) (by omega), List.drop_eq_getElem_cons (by omega : i < b.length)]
      rfl
    · rw [if_neg (by simp; omega)]
      refine Fin.ret hE ?_
      rw [ht, List.drop_of_length_le (l := a) (by omega), List.drop_of_length_le (l := b) (by omega)]
      rfl

/-- A literal row. -/
theorem litInts (w : World) (vs : List Int) (h : ∀ x ∈ vs, intOk x) (hm : vs.length ≤ maxLen) (te : TypeId) (X : Nat → Prop) (hX : ∀ k, X k → k < w.heap.size) :
    SlR intK X (w.alloc (.cells (flat (vs.map fun x => .int .i64 x)) te)) (some ⟨w.heap.size, 0, none⟩) vs.length vs.length vs := by
  refine ⟨rfl, Nat.le_refl _, hm, by simp, fun i hi => ⟨_, #[.int .i64 vs[i]], rfl, fun hx => by have := hX _ hx; simp at this, ⟨rfl, h _ (List.getElem_mem _)⟩, ?_⟩⟩
  intro j v hj
  obtain ⟨rfl, rfl⟩ : j = 0 ∧ v = .int .i64 vs[i] := by
    cases j with
    | zero => simp at hj; exact ⟨rfl, hj.symm⟩
    | succ j => simp at hj
  rw [add_zero]
  have hadd : (⟨w.heap.size, 0, none⟩ : Addr).add (i * intK.sz) = ⟨w.heap.size, i, none⟩ := by
    show (⟨w.heap.size, 0, none⟩ : Addr).add (i * 1) = _
    unfold Addr.add; split <;> simp_all
  rw [hadd, cell_of_row _ w.heap.size i _ te (0, 0) (heap_alloc_new w _)]
  have : flat (vs.map fun x => Value.int .i64 x) = (vs.map fun x => Value.int .i64 x).toArray := by
    unfold flat
    congr 1
    clear h hm hi hj
    induction vs with
    | nil => rfl
    | cons x xs ih => rw [List.map_cons, List.flatMap_cons, ih]; rfl
  rw [this]
  simp [hi]

theorem compare_ok (X Y : Nat → Prop) (A B : Option Addr) (n c m d : Nat) (a b : List Int) (w : World) (ha : SlR intK X w A n c a) (hb : SlR intK Y w B m d b) :
    Calls Tryz.prog 13 #[.slice A n c, .slice B m d] w (Fin w fun v _ => v = .int .i64 (pathCmp a b)) := by
  apply c13
  unfold m13
  have hla := ha.len
  have hlb := hb.len
  refine Fin.use (cmpCompare_ok _ _ _) fun v w1 hE1 hv => ⟨_, hv, Fin.use (slicesCompare_ok X Y A B n c m d a b _ (ha.ext hE1.no (Upd.same _ _)) (hb.ext hE1.no (Upd.same _ _))) fun v2 w2 hE2 hv2 => ⟨_, hv2, ?_, ?_⟩⟩
  · intro v hv
    simp at hv
    rcases hv with rfl | rfl <;> rfl
  · have hlit := litInts w2 [cmpI (n : Int) (m : Int), lexI a b] (by simp [cmpI_ok, lexI_ok]) (by simp [maxLen]) 3 No (fun _ h => h.elim)
    refine Fin.use (cmpOr_ok _ _ _ _ _ hlit) fun v w3 hE3 hv3 => ⟨_, hv3, Fin.ret ((hE1.trans hE2).trans (((Ext.refl No w2).alloc _).trans hE3)) ?_⟩
    congr 1
    simp only [orI, pathCmp, cmpI, hla, hlb, ne_eq]
    by_cases h1 : n < m
    · simp [h1]
    · by_cases h2 : m < n
      · simp [h1, h2]
      · simp [h1, h2]
        intro h; exact h.symm

theorem refCompare_ok (X Y : Nat → Prop) (A B : Option Addr) (n c m d : Nat) (a b : List Int) (w : World) (ha : SlR intK X w A n c a) (hb : SlR intK Y w B m d b) :
    Calls Tryz.prog 14 #[.slice A n c, .slice B m d] w (Fin w fun v _ => v = .int .i64 (pathCmp a b)) := by
  apply c14
  unfold m14
  have hla := ha.len
  have hlb := hb.len
  have hcap := ha.cap
  have hmax := ha.max
  rw [maxLen_eq] at hmax
  by_cases h1 : n < m
  · rw [if_pos (by simp; omega)]
    exact Fin.ret (Ext.refl _ _) (by simp [pathCmp, hla, hlb, h1])
  · rw [if_neg (by simp; omega)]
    by_cases h2 : m < n
    · rw [if_pos (by simp; omega)]
      exact Fin.ret (Ext.refl _ _) (by simp [pathCmp, hla, hlb, h1, h2])
    · rw [if_neg (by simp; omega)]
      obtain rfl : n = m := by omega
      have hpc : pathCmp a b = lexI a b := by simp [pathCmp, hla, hlb]
      refine ⟨((0 : Int), ()), rfl, fun k s w' => ∃ i : Nat, s = ((i : Int), ()) ∧ i ≤ n ∧ k = n - i ∧ Ext No w w' ∧ lexI a b = lexI (a.drop i) (b.drop i), ⟨n, 0, rfl, by omega, by omega, Ext.refl _ _, rfl⟩, ?_⟩
      rintro k s w' ⟨i, rfl, hi, rfl, hE, ht⟩ _r
      simp only [m14_B0]
      by_cases hlt : i < n
      · rw [if_pos (by simp; omega)]
        obtain ⟨p, hp, hpc', hpo⟩ := (ha.ext hE.no (Upd.same _ _)).int i hlt
        obtain ⟨q, hq, hqc, hqo⟩ := (hb.ext hE.no (Upd.same _ _)).int i hlt
        have hs := lexI_step i (by omega : i < a.length) (by omega : i < b.length)
        refine ⟨fun w2 => Ext No w'.drew w2, Ext.refl _ _, p, hp, by omega, by omega, _, fun w2 h2 => h2.cell hpc' (fun h => h), _, rfl, q, hq, by omega, by omega, _, fun w2 h2 => h2.cell hqc (fun h => h), _, rfl, ?_⟩
        by_cases hl : a.getD i 0 < b.getD i 0
        · rw [if_pos (by simpa using hl)]
          exact Fin.ret hE.drew (by rw [hpc, ht, hs]; simp only [cmpI, hl, if_true]; simp)
        · rw [if_neg (by simpa using hl)]
          refine ⟨fun w2 => Ext No w'.drew w2, (Ext.refl _ _).drew, p, hp, by omega, by omega, _, fun w2 h2 => h2.cell hpc' (fun h => h), _, rfl, q, hq, by omega, by omega, _, fun w2 h2 => h2.cell hqc (fun h => h), _, rfl, ?_⟩
          by_cases hg : a.getD i 0 > b.getD i 0
          · rw [if_pos (by simpa using hg)]
            exact Fin.ret hE.drew.drew (by rw [hpc, ht, hs]; simp only [cmpI, hl, hg, if_true, if_false]; simp)
          · rw [if_neg (by simpa using hg)]
            refine ⟨(((i + 1 : Nat) : Int), ()), by rw [wrap_id ⟨by omega, by omega⟩]; rfl, n - (i + 1), by omega, i + 1, rfl, by omega, rfl, hE.drew.drew, ?_⟩
            rw [ht, hs]
            simp only [cmpI, hl, hg, if_false]
            simp
      · rw [if_neg (by simp; omega)]
        simp only [m14_K1]
        refine Fin.ret hE ?_
        rw [hpc, ht, List.drop_of_length_le (l := a) (by omega), List.drop_of_length_le (l := b) (by omega)]
        rfl

/-- Two lists of paths. -/
theorem same_ok (X Y : Nat → Prop) (A B : Option Addr) (n c m d : Nat) (a b : List (List Int)) (w : World) (ha : SlR (sliceK intK) X w A n c a) (hb : SlR (sliceK intK) Y w B m d b) :
    Calls Tryz.prog 15 #[.slice A n c, .slice B m d] w (Fin w fun v _ => v = .bool (decide (a = b))) := by
  apply c15
  unfold m15
  have hla := ha.len
  have hlb := hb.len
  have hcap := ha.cap
  have hmax := ha.max
  rw [maxLen_eq] at hmax
  by_cases hnm : n = m
  · subst hnm
    rw [if_neg (by simp)]
    refine ⟨((0 : Int), ()), rfl, fun k s w' => ∃ i : Nat, s = ((i : Int), ()) ∧ i ≤ n ∧ k = n - i ∧ Ext No w w' ∧ a.take i = b.take i, ⟨n, 0, rfl, by omega, by omega, Ext.refl _ _, rfl⟩, ?_⟩
    rintro k s w' ⟨i, rfl, hi, rfl, hE, ht⟩ _r
    simp only [m15_B0]
    by_cases hlt : i < n
    · rw [if_pos (by simp; omega)]
      obtain ⟨p, A1, n1, c1, hp, hpc, hs1⟩ := (ha.ext hE.no (Upd.same _ _)).slice i hlt
      obtain ⟨q, B1, m1, d1, hq, hqc, hs2⟩ := (hb.ext hE.no (Upd.same _ _)).slice i hlt
      have hd : Ext No w' w'.drew := (Ext.refl No w').drew
      refine ⟨fun w2 => Ext No w'.drew w2, Ext.refl _ _, p, hp, by omega, by omega, _, fun w2 h2 => h2.cell hpc (fun h => h), _, _, _, rfl, q, hq, by omega, by omega, _, fun w2 h2 => h2.cell hqc (fun h => h), _, _, _, rfl,
        Fin.use (sameInts_ok X Y A1 B1 n1 c1 m1 d1 _ _ _ (hs1.ext hd.no (Upd.same _ _)) (hs2.ext hd.no (Upd.same _ _))) fun v w3 hE3 hv => ⟨_, hv, hE3, ?_⟩⟩
      have hE' := hE.trans (hd.trans hE3)
      have h1 : i < a.length := by omega
      have h2 : i < b.length := by omega
      by_cases he : a.getD i [] = b.getD i []
      · rw [if_neg (by simpa using he)]
        refine ⟨(((i + 1 : Nat) : Int), ()), by rw [wrap_id ⟨by omega, by omega⟩]; rfl, n - (i + 1), by omega, i + 1, rfl, by omega, rfl, hE', ?_⟩
        rw [List.take_succ_eq_append_getElem h1, List.take_succ_eq_append_getElem h2, ht]
        simp [h1, h2] at he
        rw [he]
      · rw [if_pos (by simpa using he)]
        refine Fin.ret hE' ?_
        congr 1
        symm
        simp only [decide_eq_false_iff_not]
        rintro rfl
        exact he rfl
    · rw [if_neg (by simp; omega)]
      refine Fin.ret hE ?_
      obtain rfl : i = n := by omega
      rw [List.take_of_length_le (by omega), List.take_of_length_le (by omega)] at ht
      simp [ht]
  · rw [if_pos (by simp; omega)]
    refine Fin.ret (Ext.refl _ _) ?_
    congr 1
    symm
    simp only [decide_eq_false_iff_not]
    rintro rfl
    omega
end Go.Proofs.YtilacabmbjephaaGreatDoor
