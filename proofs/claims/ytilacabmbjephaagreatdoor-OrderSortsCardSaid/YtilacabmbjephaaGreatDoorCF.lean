/- Contracts: whether a node has its form, and its numbers their range (nodes without names and values). -/
import Derived.Test.YtilacabmbjephaaGreatDoorMD
import Derived.Test.YtilacabmbjephaaGreatDoorGxP
import Derived.Test.YtilacabmbjephaaGreatDoorCA
namespace Go.Proofs.YtilacabmbjephaaGreatDoor
open Go Go.GX
set_option linter.unusedVariables false

def noS (s : ByteArray) : Bool := s.toList == (⟨#[]⟩ : ByteArray).toList
def zeroV (v : Val) : Bool := v.kind == 0 && (v.n == 0 && (noS v.s && ((v.kids.length : Int) == 0)))
theorem zero_ok {X : Nat → Prop} (cs : Array Value) (v : Val) (w : World) (h : ValR X w cs v) : Calls Tryz.prog 110 #[.agg cs] w (Fin w fun r _ => r = .bool (zeroV v)) := by
  apply c110
  unfold m110
  obtain ⟨A, c, rfl, _⟩ := h.open
  have hE : Ext No w (w.alloc (.cells #[.int .i64 v.kind, .int .i64 v.n, .string v.s, .slice A v.kids.length c] 45)) := (Ext.refl No w).alloc _
  refine ⟨_, by rw [box_cell]; rfl, _, rfl, ?_⟩
  by_cases h1 : v.kind = 0
  · rw [if_pos (by simpa using h1)]
    refine ⟨_, by rw [box_cell]; rfl, _, rfl, ?_⟩
    by_cases h2 : v.n = 0
    · rw [if_pos (by simpa using h2)]
      refine ⟨_, by rw [box_cell]; rfl, _, rfl, ?_⟩
      by_cases h3 : noS v.s = true
      · rw [if_pos (by simpa [noS] using h3)]
        exact ⟨_, by rw [box_cell]; rfl, _, _, _, rfl, Fin.ret hE (by simp [zeroV, h1, h2, h3])⟩
      · rw [if_neg (by simpa [noS] using h3)]
        exact Fin.ret hE (by simp [zeroV, h3])
    · rw [if_neg (by simpa using h2)]
      exact Fin.ret hE (by simp [zeroV, h2])
  · rw [if_neg (by simpa using h1)]
    exact Fin.ret hE (by simp [zeroV, h1])

theorem contains_ok {X : Nat → Prop} (A : Option Addr) (n c : Nat) (l : List Int) (g : Nat) (ff fc : Array Value) (p : Int → Bool) (w : World) (hl : SlR intK X w A n c l) (hB : B g = true)
    (hp : ∀ x w', intOk x → Ext No w w' → Calls Tryz.prog g (callV ff [.int .i64 x] fc) w' (Fin w' fun v _ => v = .bool (p x))) :
    Calls Tryz.prog 111 #[.slice A n c, .func (.func g) ff fc] w (Fin w fun v _ => v = .bool (l.any p)) := by
  apply c111
  unfold m111
  have hlen := hl.len
  have hcap := hl.cap
  have hmax := hl.max
  rw [maxLen_eq] at hmax
  have h164 : Calls Tryz.prog 164 #[.slice A n c, .func (.func g) ff fc] w (Fin w fun v _ => ∃ x : Int, v = .int .i64 x ∧ decide (x ≥ 0) = l.any p) := by
    apply c164
    unfold m164
    refine ⟨((0 : Int), ()), rfl, fun k s w' => ∃ i : Nat, s = ((i : Int), ()) ∧ i ≤ n ∧ k = n - i ∧ Ext No w w' ∧ (l.take i).any p = false, ⟨n, 0, rfl, by omega, by omega, Ext.refl _ _, rfl⟩, ?_⟩
    rintro k s w' ⟨i, rfl, hi, rfl, hE, ht⟩ _r
    simp only [m164_B0]
    by_cases hlt : i < n
    · rw [if_pos (by simp; omega)]
      obtain ⟨q, hq, hqc, hqo⟩ := (hl.ext hE.no (Upd.same _ _)).int i hlt
      refine ⟨q, hq, by omega, by omega, _, hqc, _, rfl, hB, Fin.use (hp _ _ hqo hE) fun v w2 hE2 hv => ⟨_, hv, ?_⟩⟩
      have hil : i < l.length := by omega
      have hg : l.getD i 0 = l[i] := by simp [hil]
      by_cases h : p (l.getD i 0) = true
      · rw [if_pos h]
        refine Fin.ret (hE.trans hE2) ⟨_, rfl, ?_⟩
        rw [hg] at h
        have : l.any p = true := List.any_eq_true.2 ⟨_, List.getElem_mem hil, h⟩
        rw [this]
        simp
      · rw [if_neg h]
        refine ⟨(((i + 1 : Nat) : Int), ()), by rw [wrap_id ⟨by omega, by omega⟩]; rfl, n - (i + 1), by omega, i + 1, rfl, by omega, rfl, hE.trans hE2, ?_⟩
        rw [List.take_succ_eq_append_getElem hil, List.any_append, ht]
        rw [hg] at h
        simp [h]
    · rw [if_neg (by simp; omega)]
      simp only [m164_K1]
      refine Fin.ret hE ⟨-1, rfl, ?_⟩
      rw [List.take_of_length_le (by omega)] at ht
      rw [ht]
      rfl
  refine Fin.use h164 fun v w' hE hv => ?_
  obtain ⟨x, rfl, hx⟩ := hv
  exact ⟨x, rfl, Fin.ret hE (by rw [hx])⟩

/-! ## The range of numbers -/
def inRangeB (x : Nod) : Bool := !(decide (x.lo > x.hi) || decide (x.lo < -4611686018427387904) || decide (x.hi > 4611686018427387904) || decide (x.hi ≥ x.lo + 1099511627776)) && !(x.weights.any fun w => decide (w < 1) || decide (w > 1000))
theorem inRange_ok {X : Nat → Prop} (cs : Array Value) (x : Nod) (w : World) (h : NodeR X w cs x) : Calls Tryz.prog 67 #[.agg cs] w (Fin w fun r _ => r = .bool (inRangeB x)) := by
  apply c67
  unfold m67
  obtain ⟨⟨A1, c1, A2, c2, A3, c3, A4, c4, A5, c5, rfl, h1, h2, h3, h4, h5⟩, hk, hn, hlo, hhi, _⟩ := h
  have hlo' := hlo
  have hhi' := hhi
  unfold intOk at hlo' hhi'
  generalize hcs : #[Value.int .i64 x.kind, .string x.name, .int .i64 x.lo, .int .i64 x.hi, .slice A1 x.weights.length c1, .slice A2 x.labels.length c2, .slice A3 x.values.length c3, .slice A4 x.kids.length c4, .int .i64 x.value.kind, .int .i64 x.value.n, .string x.value.s, .slice A5 x.value.kids.length c5] = cs
  have e2 : cs[2]? = some (.int .i64 x.lo) := by rw [← hcs]; rfl
  have e3 : cs[3]? = some (.int .i64 x.hi) := by rw [← hcs]; rfl
  have e4 : cs[4]? = some (.slice A1 x.weights.length c1) := by rw [← hcs]; rfl
  have hE : Ext No w (w.alloc (.cells cs 74)) := (Ext.refl No w).alloc _
  have last : ∀ b : Bool, b = (decide (x.lo > x.hi) || decide (x.lo < -4611686018427387904) || decide (x.hi > 4611686018427387904) || decide (x.hi ≥ x.lo + 1099511627776)) →
      m67_K1 (Fin w fun r _ => r = .bool (inRangeB x)) ⟨w.heap.size, 0, none⟩ b (w.alloc (.cells cs 74)) := by
    intro b hb
    simp only [m67_K1]
    by_cases h : b = true
    · rw [if_pos h]
      refine Fin.ret hE ?_
      rw [h] at hb
      simp only [inRangeB, ← hb]
      rfl
    · rw [if_neg h]
      refine ⟨_, by rw [box_cell, e4], _, _, _, rfl, Fin.use (contains_ok A1 _ c1 x.weights 122 #[] #[] (fun w => decide (w < 1) || decide (w > 1000)) _ (h1.ext hE.no (Upd.same _ _)) (by kernel_rfl) ?_) fun v w' hE2 hv => ⟨_, hv, Fin.ret (hE.trans hE2) ?_⟩⟩
      · intro y w' _ _
        refine (show Calls Tryz.prog 122 #[.int .i64 y] w' _ from c122 y ?_)
        unfold m122
        by_cases hy : y < 1
        · rw [if_pos (by simpa using hy)]; exact Fin.ret (Ext.refl _ _) (by simp [hy])
        · rw [if_neg (by simpa using hy)]; exact Fin.ret (Ext.refl _ _) (by simp [hy])
      · have : b = false := by simpa using h
        rw [this] at hb
        simp only [inRangeB, ← hb]
        rfl
  refine ⟨_, by rw [box_cell, e2], _, rfl, _, by rw [box_cell, e3], _, rfl, ?_⟩
  by_cases g1 : x.lo > x.hi
  · rw [if_pos (by simpa using g1)]; exact last _ (by simp [g1])
  · rw [if_neg (by simpa using g1)]
    refine ⟨_, by rw [box_cell, e2], _, rfl, ?_⟩
    by_cases g2 : x.lo < -4611686018427387904
    · rw [if_pos (by simpa using g2)]; exact last _ (by simp [g2])
    · rw [if_neg (by simpa using g2)]
      refine ⟨_, by rw [box_cell, e3], _, rfl, ?_⟩
      by_cases g3 : x.hi > 4611686018427387904
      · rw [if_pos (by simpa using g3)]; exact last _ (by simp [g3])
      · rw [if_neg (by simpa using g3)]
        refine ⟨_, by rw [box_cell, e3], _, rfl, _, by rw [box_cell, e2], _, rfl, last _ ?_⟩
        rw [wrap_id ⟨by omega, by omega⟩]
        simp [g1, g2, g3]

/-! ## The form -/
def usedL : List Bool := [false, false, false, false, false, true, false, true, false, false, false, false, false, false, true, false, true, false, true, false, false, false, true, false, false, false, false, true, true, false]
def usedCells : Array Value := (usedL.map Value.bool).toArray
/-- The table of fields lies where the program's variable lies. -/
def Used (w : World) : Prop := CellsAt w ⟨0, 0, none⟩ usedCells
theorem Used.ext {w w' : World} (h : Used w) (hE : Ext No w w') : Used w' := hE.cells h fun h => h
def thereL (x : Nod) : List Bool := [!noS x.name, (if x.lo ≠ 0 then true else decide (x.hi ≠ 0)), (if 0 < x.weights.length then true else decide (0 < x.labels.length)), decide (0 < x.values.length), decide (0 < x.kids.length), !zeroV x.value]
def badField (x : Nod) (k : Nat) : Bool := (thereL x).getD k false && !usedL.getD (x.kind.toNat * 6 + k) false
/-- The form of a node, but for names of sequences and values of bindings. -/
def formedP (i : Int) (x : Nod) : Bool :=
  !(decide (x.kind < 0) || decide (x.kind ≥ 5)) && (!(List.range 6).any (badField x) && (!(x.kids.any fun k => decide (k < 0) || decide (k ≥ i)) &&
    (if x.kind = 2 then decide (1 ≤ x.kids.length) && (decide (x.kids.length ≤ 256) && (decide (x.weights.length = x.kids.length) && (decide (x.labels.length = 0) || decide (x.labels.length = x.kids.length))))
     else if x.kind = 3 then decide (x.kids.length ≤ 256) else true)))
theorem build6 (b0 b1 b2 b3 b4 b5 : Bool) (w : World) : (Instr.build 152 #[(0, .bool b0), (1, .bool b1), (2, .bool b2), (3, .bool b3), (4, .bool b4), (5, .bool b5)]).run Tryz.prog w = .ok (.agg #[.bool b0, .bool b1, .bool b2, .bool b3, .bool b4, .bool b5]) w := by
  kernel_rfl
theorem rowStore {P : Program} {w : World} {g : Nat} {z cs : Array Value} {t : TypeId} (hg : w.heap[g]? = some (.cells z t (0, 0))) (hs : z.size = cs.size) (h1 : ∀ v ∈ cs.toList, v.oneCell' = true) {k : World → Prop} (hk : k (w.setRow g cs)) :
    RunU P (storeCells ⟨g, 0, none⟩ cs.toList) w k := by
  have hst := run_storeCells_at (P := P) g 0 t cs.toList 0 z w hg (by simp [hs]) h1
  refine ⟨_, hst, ?_⟩
  have : (z.toList.take (0 + 0) ++ cs.toList ++ z.toList.drop (0 + 0 + cs.toList.length)).toArray = cs := by
    have : z.toList.drop (0 + 0 + cs.toList.length) = [] := List.drop_of_length_le (by simp [hs])
    rw [this]
    simp
  rw [this]
  exact hk

theorem boolsOne (l : List Bool) : ∀ v ∈ ((l.map Value.bool).toArray).toList, v.oneCell' = true := by
  intro v hv
  have hv' : v ∈ l.map Value.bool := hv
  obtain ⟨b, _, rfl⟩ := List.mem_map.1 hv'
  rfl
set_option maxHeartbeats 1000000 in
theorem formed_ok {X : Nat → Prop} (i : Int) (cs : Array Value) (x : Nod) (w : World) (hi : intOk i) (hx : NodeR X w cs x) (hU : Used w) (hk4 : x.kind ≠ 4) (hnm : x.kind = 3 → noS x.name = true) :
    Calls Tryz.prog 65 #[.int .i64 i, .agg cs] w (Fin w fun v _ => v = .bool (formedP i x)) := by
  apply c65
  unfold m65
  have hval : ValR X w #[.int .i64 x.value.kind, .int .i64 x.value.n, .string x.value.s, cs.getD 11 default] x.value ∧ cs.size = 12 := by
    obtain ⟨⟨A1, c1, A2, c2, A3, c3, A4, c4, A5, c5, rfl, h1, h2, h3, h4, h5⟩, hk, hn, hlo, hhi, hvk, hvn, hvs⟩ := hx
    refine ⟨?_, rfl⟩
    have := ValR.close hvk hvn hvs h5
    cases hv : x.value
    rw [hv] at this
    exact this
  obtain ⟨⟨A1, c1, A2, c2, A3, c3, A4, c4, A5, c5, hcs, h1, h2, h3, h4, h5⟩, hk, hn, hlo, hhi, hvk, hvn, hvs⟩ := hx
  have e0 : cs[0]? = some (.int .i64 x.kind) := by rw [hcs]; rfl
  have e1 : cs[1]? = some (.string x.name) := by rw [hcs]; rfl
  have e2 : cs[2]? = some (.int .i64 x.lo) := by rw [hcs]; rfl
  have e3 : cs[3]? = some (.int .i64 x.hi) := by rw [hcs]; rfl
  have e4 : cs[4]? = some (.slice A1 x.weights.length c1) := by rw [hcs]; rfl
  have e5 : cs[5]? = some (.slice A2 x.labels.length c2) := by rw [hcs]; rfl
  have e6 : cs[6]? = some (.slice A3 x.values.length c3) := by rw [hcs]; rfl
  have e7 : cs[7]? = some (.slice A4 x.kids.length c4) := by rw [hcs]; rfl
  have e11 : cs.getD 11 default = .slice A5 x.value.kids.length c5 := by rw [hcs]; rfl
  rw [e11] at hval
  have e8 : ∀ j v, (#[Value.int .i64 x.value.kind, .int .i64 x.value.n, .string x.value.s, .slice A5 x.value.kids.length c5] : Array Value)[j]? = some v → cs[8 + j]? = some v := by
    intro j v hj
    rw [hcs]
    match j with
    | 0 => exact hj
    | 1 => exact hj
    | 2 => exact hj
    | 3 => exact hj
    | j + 4 => simp at hj
  clear hcs
  generalize hW1 : w.alloc (.cells #[.int .i64 i] 3) = w1
  have hE1 : Ext No w w1 := hW1 ▸ (Ext.refl No w).alloc _
  generalize hW2 : w1.alloc (.cells cs 74) = w2
  have hE12 : Ext No w1 w2 := hW2 ▸ (Ext.refl No w1).alloc _
  have hE2 : Ext No w w2 := hE1.trans hE12
  -- the boxes, later
  have bI : ∀ w', Ext No w2 w' → w'.cell? (⟨w.heap.size, 0, none⟩ : Addr) = some (.int .i64 i) := fun w' h => by
    have := (hE12.trans h)
    rw [← hW1] at this
    exact this.box (fun h => h) 0
  have bX : ∀ w', Ext No w2 w' → ∀ j v, cs[j]? = some v → w'.cell? ((⟨w1.heap.size, 0, none⟩ : Addr).add j) = some v := fun w' h j v hj => by
    rw [← hW2] at h
    rw [h.box (fun h => h) j]
    exact hj
  have bV : ∀ w', Ext No w2 w' → CellsAt w' ((⟨w1.heap.size, 0, none⟩ : Addr).add 8) #[.int .i64 x.value.kind, .int .i64 x.value.n, .string x.value.s, .slice A5 x.value.kids.length c5] := fun w' h j v hj => by
    rw [add_add]
    exact bX w' h _ _ (e8 j v hj)
  generalize hQ : (fun (v : Value) (_ : World) => v = Value.bool (formedP i x)) = Q
  -- behind the fields
  have k3 : ∀ w3, Ext No w2 w3 → (x.kind < 0 ∨ x.kind ≥ 5) = False → (List.range 6).any (badField x) = false → m65_K3 (Fin w Q) ⟨w.heap.size, 0, none⟩ ⟨w1.heap.size, 0, none⟩ w3 := by
    intro w3 h3 hkr hbf
    have hkr' : ¬ x.kind < 0 ∧ ¬ x.kind ≥ 5 := by
      constructor
      · intro h; rw [← hkr]; exact .inl h
      · intro h; rw [← hkr]; exact .inr h
    simp only [m65_K3]
    refine ⟨_, bX _ h3 7 _ e7, _, _, _, rfl, _, bX _ h3 7 _ e7, _, _, _, rfl, Fin.use (contains_ok A4 _ c4 x.kids 112 #[] #[.pointer (some ⟨w.heap.size, 0, none⟩)] (fun k => decide (k < 0) || decide (k ≥ i)) _ (h4.ext (hE2.trans h3).no (Upd.same _ _)) (by kernel_rfl) ?_) fun v w4 hE4 hv => ⟨_, hv, ?_⟩⟩
    · intro y w' _ hE'
      refine (show Calls Tryz.prog 112 #[.int .i64 y, .pointer (some ⟨w.heap.size, 0, none⟩)] w' _ from c112 y _ ?_)
      unfold m112
      by_cases hy : y < 0
      · rw [if_pos (by simpa using hy)]; exact Fin.ret (Ext.refl _ _) (by simp [hy])
      · rw [if_neg (by simpa using hy)]; exact ⟨_, bI _ (h3.trans hE'), _, rfl, Fin.ret (Ext.refl _ _) (by simp [hy])⟩
    have h4' := h3.trans hE4
    have hEf := hE2.trans h4'
    have ret : ∀ b : Bool, b = formedP i x → Fin w Q (.returned (.bool b)) w4 := fun b hb => Fin.ret hEf (by rw [← hQ, hb])
    have base : formedP i x = (!(x.kids.any fun k => decide (k < 0) || decide (k ≥ i)) &&
        (if x.kind = 2 then decide (1 ≤ x.kids.length) && (decide (x.kids.length ≤ 256) && (decide (x.weights.length = x.kids.length) && (decide (x.labels.length = 0) || decide (x.labels.length = x.kids.length))))
          else if x.kind = 3 then decide (x.kids.length ≤ 256) else true)) := by
      unfold formedP
      rw [hbf]
      simp [hkr'.1, hkr'.2]
    by_cases hb : (x.kids.any fun k => decide (k < 0) || decide (k ≥ i)) = true
    · rw [if_pos hb]
      exact ret _ (by rw [base, hb]; rfl)
    · rw [if_neg hb]
      have hb' : (x.kids.any fun k => decide (k < 0) || decide (k ≥ i)) = false := by simpa using hb
      rw [hb'] at base
      simp only [Bool.not_false, Bool.true_and] at base
      refine ⟨_, bX _ h4' 0 _ e0, _, rfl, ?_⟩
      by_cases hk2 : x.kind = 2
      · rw [if_pos (by simpa using hk2)]
        rw [if_pos hk2] at base
        by_cases a1 : 1 ≤ x.kids.length
        · rw [if_pos (by simp; omega)]
          by_cases a2 : x.kids.length ≤ 256
          · rw [if_pos (by simp; omega)]
            refine ⟨_, bX _ h4' 4 _ e4, _, _, _, rfl, ?_⟩
            by_cases a3 : x.weights.length = x.kids.length
            · rw [if_pos (by simp [a3])]
              refine ⟨_, bX _ h4' 5 _ e5, _, _, _, rfl, ?_⟩
              by_cases a4 : x.labels.length = 0
              · rw [if_pos (by simp [a4])]
                exact ret _ (by rw [base]; simp [a1, a2, a3, a4])
              · rw [if_neg (by simp [a4])]
                refine ⟨_, bX _ h4' 5 _ e5, _, _, _, rfl, ret _ ?_⟩
                rw [base]
                simp only [a1, a2, a3, a4, decide_true, decide_false, Bool.true_and, Bool.false_or]
                rw [Bool.eq_iff_iff]
                simp only [beq_iff_eq, decide_eq_true_eq]
                omega
            · rw [if_neg (by simp; omega)]
              exact ret _ (by rw [base]; simp [a3])
          · rw [if_neg (by simp; omega)]
            exact ret _ (by rw [base]; simp [a2])
        · rw [if_neg (by simp; omega)]
          exact ret _ (by rw [base]; simp [a1])
      · rw [if_neg (by simpa using hk2)]
        rw [if_neg hk2] at base
        by_cases hk3 : x.kind = 3
        · rw [if_pos (by simpa using hk3)]
          rw [if_pos hk3] at base
          by_cases a2 : x.kids.length ≤ 256
          · rw [if_pos (by simp; omega)]
            refine ⟨_, bX _ h4' 1 _ e1, _, rfl, ?_⟩
            rw [if_pos (by have := hnm hk3; simpa [noS] using this)]
            exact ret _ (by rw [base]; simp [a2])
          · rw [if_neg (by simp; omega)]
            exact ret _ (by rw [base]; simp [a2])
        · rw [if_neg (by simpa using hk3)]
          rw [if_neg hk3] at base
          rw [if_neg (by simpa using hk4)]
          exact ret _ base.symm
  -- the fields
  have k2 : ∀ w3 g, Ext No w2 w3 → (x.kind < 0 ∨ x.kind ≥ 5) = False → CellsAt w3 ⟨g, 0, none⟩ ((thereL x).map Value.bool).toArray → m65_K2 (Fin w Q) ⟨w.heap.size, 0, none⟩ ⟨w1.heap.size, 0, none⟩ ⟨g, 0, none⟩ w3 := by
    intro w3 g h3 hkr hc
    have hkr' : ¬ x.kind < 0 ∧ ¬ x.kind ≥ 5 := by
      constructor
      · intro h; rw [← hkr]; exact .inl h
      · intro h; rw [← hkr]; exact .inr h
    simp only [m65_K2]
    refine ⟨_, rfl, hc, ((0 : Int), ()), rfl, fun k s w' => ∃ j : Nat, s = ((j : Int), ()) ∧ j ≤ 6 ∧ k = 6 - j ∧ Ext No w2 w' ∧ (List.range j).any (badField x) = false, ⟨6, 0, rfl, by omega, by omega, h3, rfl⟩, ?_⟩
    rintro k s w4 ⟨j, rfl, hj, rfl, h4', hbf⟩ _r
    simp only [m65_B0]
    by_cases hlt : j < 6
    · rw [if_pos (by simp; omega)]
      have hth : ((thereL x).map Value.bool).toArray[((j : Int)).toNat * 1]? = some (.bool ((thereL x).getD j false)) := by
        have hl : (thereL x).length = 6 := rfl
        simp [hl, hlt]
      refine ⟨by omega, by omega, _, hth, _, rfl, ?_⟩
      have step : ∀ b : Bool, b = badField x j → m65_K4 (Fin w Q) (fun s' w' => ∃ m, m < 6 - j ∧ ∃ j' : Nat, s' = ((j' : Int), ()) ∧ j' ≤ 6 ∧ m = 6 - j' ∧ Ext No w2 w' ∧ (List.range j').any (badField x) = false) ⟨w.heap.size, 0, none⟩ ⟨w1.heap.size, 0, none⟩ ((thereL x).map Value.bool).toArray (j : Int) b w4 := by
        intro b hb
        simp only [m65_K4]
        by_cases h : b = true
        · rw [if_pos h]
          refine Fin.ret (hE2.trans h4') ?_
          rw [← hQ]
          have : (List.range 6).any (badField x) = true := List.any_eq_true.2 ⟨j, by simpa using hlt, by rw [← hb, h]⟩
          unfold formedP
          rw [this]
          simp
        · rw [if_neg h]
          refine ⟨(((j + 1 : Nat) : Int), ()), by rw [wrap_id ⟨by omega, by omega⟩]; rfl, 6 - (j + 1), by omega, j + 1, rfl, by omega, rfl, h4', ?_⟩
          rw [List.range_succ, List.any_append, hbf]
          have : badField x j = false := by rw [← hb]; simpa using h
          simp [this]
      by_cases ht : (thereL x).getD j false = true
      · rw [if_pos ht]
        refine ⟨_, bX _ h4' 0 _ e0, _, rfl, by omega, by omega, by omega, by omega, .bool (usedL.getD (x.kind.toNat * 6 + j) false), ?_, _, rfl, step _ (by unfold badField; rw [ht]; rfl)⟩
        have hu := (hU.ext (hE2.trans h4'))
        have := hu (x.kind.toNat * 6 + j) (.bool (usedL.getD (x.kind.toNat * 6 + j) false)) ?_
        · rw [add_add, show ((j : Int)).toNat * 1 = j by omega]
          exact this
        · have hlt30 : x.kind.toNat * 6 + j < usedL.length := by
            have : usedL.length = 30 := rfl
            omega
          simp [usedCells, hlt30]
      · rw [if_neg ht]
        exact step _ (by unfold badField; rw [Bool.eq_false_iff.2 ht]; rfl)
    · rw [if_neg (by simp; omega)]
      obtain rfl : j = 6 := by omega
      exact k3 w4 h4' hkr hbf
  -- the array of fields, whichever comes first
  have k1 : m65_K1 (Fin w Q) ⟨w.heap.size, 0, none⟩ ⟨w1.heap.size, 0, none⟩ (decide (x.kind < 0) || decide (x.kind ≥ 5)) w2 := by
    simp only [m65_K1]
    by_cases hkb : (decide (x.kind < 0) || decide (x.kind ≥ 5)) = true
    · rw [if_pos hkb]
      refine Fin.ret hE2 ?_
      rw [← hQ]
      unfold formedP
      rw [hkb]
      rfl
    · rw [if_neg hkb]
      have hkr : (x.kind < 0 ∨ x.kind ≥ 5) = False := by simpa using hkb
      have hd : Ext No w2 w2.drew := (Ext.refl No w2).drew
      have hz : ∀ w', Ext No w2 w' → Calls Tryz.prog 110 #[.agg #[.int .i64 x.value.kind, .int .i64 x.value.n, .string x.value.s, .slice A5 x.value.kids.length c5]] w' (Fin w' fun r _ => r = .bool (zeroV x.value)) :=
        fun w' h => zero_ok _ _ _ (hval.1.ext (hE2.trans h).no (Upd.same _ _))
      -- first the call, then the array
      have o1 : ∀ (arr : Array Value) (w3 : World), Ext No w2 w3 → arr = ((thereL x).map Value.bool).toArray → RunU Tryz.prog (storeCells ⟨w3.heap.size, 0, none⟩ arr.toList) (w3.alloc (.cells #[.bool false, .bool false, .bool false, .bool false, .bool false, .bool false] 152)) fun w4 =>
          ∃ S' : World → Prop, S' w4 ∧ m65_K2 (Fin w Q) ⟨w.heap.size, 0, none⟩ ⟨w1.heap.size, 0, none⟩ ⟨w3.heap.size, 0, none⟩ w4 := by
        intro arr w3 h3 harr
        subst harr
        refine box_store w3 #[.bool false, .bool false, .bool false, .bool false, .bool false, .bool false] ((thereL x).map Value.bool).toArray 152 rfl (boolsOne _) ?_
        have h3' : Ext No w2 (w3.alloc (.cells ((thereL x).map Value.bool).toArray 152)) := h3.alloc _
        exact ⟨fun _ => True, trivial, k2 _ _ h3' hkr (box_cells _ _ _)⟩
      have o2 : ∀ (arr : Array Value) (w3 : World), Ext No (w2.drew.alloc (.cells #[.bool false, .bool false, .bool false, .bool false, .bool false, .bool false] 152)) w3 → arr = ((thereL x).map Value.bool).toArray →
          RunU Tryz.prog (storeCells ⟨w2.drew.heap.size, 0, none⟩ arr.toList) w3 fun w4 => ∃ S' : World → Prop, S' w4 ∧ m65_K2 (Fin w Q) ⟨w.heap.size, 0, none⟩ ⟨w1.heap.size, 0, none⟩ ⟨w2.drew.heap.size, 0, none⟩ w4 := by
        intro arr w3 h3 harr
        subst harr
        have hg : w3.heap[w2.drew.heap.size]? = some (.cells #[.bool false, .bool false, .bool false, .bool false, .bool false, .bool false] 152 (0, 0)) := by
          rw [h3.block _ (by simp) (fun h => h)]
          exact heap_alloc_new w2.drew _
        refine rowStore (cs := ((thereL x).map Value.bool).toArray) hg rfl (boolsOne _) ?_
        have hx3 : Ext No w2.drew w3 := ((Ext.refl No w2.drew).alloc _).trans h3
        have h4 : Ext No w2.drew (w3.setRow w2.drew.heap.size ((thereL x).map Value.bool).toArray) :=
          ⟨hx3.os, hx3.tape, hx3.output, by simpa using hx3.size, fun k hk hX => by rw [setRow_other w3 _ k _ (by omega)]; exact hx3.block k hk hX⟩
        refine ⟨fun _ => True, trivial, k2 _ _ (hd.trans h4) hkr ?_⟩
        intro j v hj
        rw [addr0, cell_of_row _ _ j _ 152 (0, 0) (setRow_heap w3 _ _ _ 152 _ hg)]
        exact hj
      refine ⟨fun w' => Ext No w2.drew w', Ext.refl _ _, _, fun w' h => bX _ (hd.trans h) 1 _ e1, _, rfl, _, fun w' h => bX _ (hd.trans h) 2 _ e2, _, rfl, ?_⟩
      have tail : ∀ b1 b2 : Bool, b1 = (if x.lo ≠ 0 then true else decide (x.hi ≠ 0)) → b2 = (if 0 < x.weights.length then true else decide (0 < x.labels.length)) →
          ∀ z : Bool, z = zeroV x.value → #[Value.bool (!(x.name.toList == (⟨#[]⟩ : ByteArray).toList)), .bool b1, .bool b2, .bool (decide (((x.values.length : Nat) : Int) > 0)), .bool (decide (((x.kids.length : Nat) : Int) > 0)), .bool (!z)] = ((thereL x).map Value.bool).toArray := by
        rintro b1 b2 rfl rfl z rfl
        simp [thereL, noS, Int.natCast_pos]
      have fin : ∀ b1 b2 : Bool, b1 = (if x.lo ≠ 0 then true else decide (x.hi ≠ 0)) → b2 = (if 0 < x.weights.length then true else decide (0 < x.labels.length)) → ∀ z : Bool, z = zeroV x.value →
          (∀ w', (Instr.build 152 #[(0, .bool (!(x.name.toList == (⟨#[]⟩ : ByteArray).toList))), (1, .bool b1), (2, .bool b2), (3, .bool (decide (((x.values.length : Nat) : Int) > 0))), (4, .bool (decide (((x.kids.length : Nat) : Int) > 0))), (5, .bool (!z))]).run Tryz.prog w' = .ok (.agg ((thereL x).map Value.bool).toArray) w') := by
        intro b1 b2 h1 h2 z h3 w'
        rw [build6, tail b1 b2 h1 h2 z h3]
      by_cases g1 : x.lo = 0
      · rw [if_neg (by simpa using g1)]
        refine ⟨_, fun w' h => bX _ (hd.trans h) 3 _ e3, _, rfl, _, fun w' h => bX _ (hd.trans h) 4 _ e4, _, _, _, rfl, ?_⟩
        by_cases g2 : 0 < x.weights.length
        · rw [if_pos (by simp; omega)]
          refine ⟨_, fun w' h => bX _ (hd.trans h) 6 _ e6, _, _, _, rfl, _, fun w' h => bX _ (hd.trans h) 7 _ e7, _, _, _, rfl, _, rfl, fun w' h => bV _ (hd.trans h), ?_, (Ext.refl No w2.drew).alloc _, ?_⟩
          · exact Fin.use (hz _ hd) fun v w3 h3 hv => ⟨_, hv, h3, _, fin _ _ (by rw [if_neg (by simpa using g1), Bool.eq_iff_iff]; simp) (by simp [g2]) _ rfl, _, rfl, h3.alloc _, rfl, o1 _ w3 (hd.trans h3) rfl⟩
          · exact Fin.use (hz _ (hd.trans ((Ext.refl No w2.drew).alloc _))) fun v w3 h3 hv => ⟨_, hv, ((Ext.refl No w2.drew).alloc _).trans h3, _, fin _ _ (by rw [if_neg (by simpa using g1), Bool.eq_iff_iff]; simp) (by simp [g2]) _ rfl, _, rfl, rfl, o2 _ w3 h3 rfl⟩
        · rw [if_neg (by have : x.weights.length = 0 := by omega
                         simp [this])]
          refine ⟨_, fun w' h => bX _ (hd.trans h) 5 _ e5, _, _, _, rfl, _, fun w' h => bX _ (hd.trans h) 6 _ e6, _, _, _, rfl, _, fun w' h => bX _ (hd.trans h) 7 _ e7, _, _, _, rfl, _, rfl, fun w' h => bV _ (hd.trans h), ?_, (Ext.refl No w2.drew).alloc _, ?_⟩
          · exact Fin.use (hz _ hd) fun v w3 h3 hv => ⟨_, hv, h3, _, fin _ _ (by rw [if_neg (by simpa using g1), Bool.eq_iff_iff]; simp) (by simp [g2, Int.natCast_pos]) _ rfl, _, rfl, h3.alloc _, rfl, o1 _ w3 (hd.trans h3) rfl⟩
          · exact Fin.use (hz _ (hd.trans ((Ext.refl No w2.drew).alloc _))) fun v w3 h3 hv => ⟨_, hv, ((Ext.refl No w2.drew).alloc _).trans h3, _, fin _ _ (by rw [if_neg (by simpa using g1), Bool.eq_iff_iff]; simp) (by simp [g2, Int.natCast_pos]) _ rfl, _, rfl, rfl, o2 _ w3 h3 rfl⟩
      · rw [if_pos (by simpa using g1)]
        refine ⟨_, fun w' h => bX _ (hd.trans h) 4 _ e4, _, _, _, rfl, ?_⟩
        by_cases g2 : 0 < x.weights.length
        · rw [if_pos (by simp; omega)]
          refine ⟨_, fun w' h => bX _ (hd.trans h) 6 _ e6, _, _, _, rfl, _, fun w' h => bX _ (hd.trans h) 7 _ e7, _, _, _, rfl, _, rfl, fun w' h => bV _ (hd.trans h), ?_, (Ext.refl No w2.drew).alloc _, ?_⟩
          · exact Fin.use (hz _ hd) fun v w3 h3 hv => ⟨_, hv, h3, _, fin _ _ (by simp [g1]) (by simp [g2]) _ rfl, _, rfl, h3.alloc _, rfl, o1 _ w3 (hd.trans h3) rfl⟩
          · exact Fin.use (hz _ (hd.trans ((Ext.refl No w2.drew).alloc _))) fun v w3 h3 hv => ⟨_, hv, ((Ext.refl No w2.drew).alloc _).trans h3, _, fin _ _ (by simp [g1]) (by simp [g2]) _ rfl, _, rfl, rfl, o2 _ w3 h3 rfl⟩
        · rw [if_neg (by have : x.weights.length = 0 := by omega
                         simp [this])]
          refine ⟨_, fun w' h => bX _ (hd.trans h) 5 _ e5, _, _, _, rfl, _, fun w' h => bX _ (hd.trans h) 6 _ e6, _, _, _, rfl, _, fun w' h => bX _ (hd.trans h) 7 _ e7, _, _, _, rfl, _, rfl, fun w' h => bV _ (hd.trans h), ?_, (Ext.refl No w2.drew).alloc _, ?_⟩
          · exact Fin.use (hz _ hd) fun v w3 h3 hv => ⟨_, hv, h3, _, fin _ _ (by simp [g1]) (by simp [g2, Int.natCast_pos]) _ rfl, _, rfl, h3.alloc _, rfl, o1 _ w3 (hd.trans h3) rfl⟩
          · exact Fin.use (hz _ (hd.trans ((Ext.refl No w2.drew).alloc _))) fun v w3 h3 hv => ⟨_, hv, ((Ext.refl No w2.drew).alloc _).trans h3, _, fin _ _ (by simp [g1]) (by simp [g2, Int.natCast_pos]) _ rfl, _, rfl, rfl, o2 _ w3 h3 rfl⟩
  refine ⟨_, bX _ (Ext.refl _ _) 0 _ e0, _, rfl, ?_⟩
  by_cases h0 : x.kind < 0
  · rw [if_pos (by simpa using h0)]
    have : (decide (x.kind < 0) || decide (x.kind ≥ 5)) = true := by simp [h0]
    rwa [this] at k1
  · rw [if_neg (by simpa using h0)]
    refine ⟨_, bX _ (Ext.refl _ _) 0 _ e0, _, rfl, ?_⟩
    have : (decide (x.kind < 0) || decide (x.kind ≥ 5)) = decide (x.kind ≥ 5) := by simp [h0]
    rwa [this] at k1
end Go.Proofs.YtilacabmbjephaaGreatDoor
