/- The four passes; the examples of the section. -/
import Derived.Test.YtilacabmbjephaaGreatDoorDG
namespace Go.Proofs.YtilacabmbjephaaGreatDoor
open Go Go.GX
set_option linter.unusedVariables false
set_option linter.unusedSimpArgs false

/-- What the results of passes ask of a tree and a path. -/
structure PassH (t : List Nod) (e : Int) (p : List Int) (f : Nat) (sp : List Span) (er : Int) (ids : List Nat) : Prop where
  val : ∀ W cs X, Used W → TreeR X W cs t → Calls Tryz.prog 47 #[.agg cs] W (Fin W fun v _ => v = .int .i64 e)
  spans : spansP t e p f = some (sp, er)
  few : p.length ≤ small
  ok : er = 0 → ∀ x ∈ sp, spanOk p.length x
  idok : ∀ id ∈ ids, id < 4
  fit : er = 0 → ∀ id ∈ ids, ∀ raw ∈ rawsOf p sp id, ∃ q e', fitP t e raw f = some (q, e')
  big : er = 0 → (ids.flatMap (rawsOf p sp)).length ≤ small
  many : ids.length ≤ small
  h12 : er = 0 → (outsOf t e p sp f ids).length ≤ 12
/-- The lists that results returns. -/
def resL51 (t : List Nod) (e : Int) (p : List Int) (f : Nat) (sp : List Span) (er : Int) (ids : List Nat) : List (List Int) := if er = 0 then sortL (outsOf t e p sp f ids) else []
theorem results_ok' {X : Nat → Prop} (cs : Array Value) (t : List Nod) (PA : Option Addr) (pn pc : Nat) (p : List Int) (NA : Option Addr) (nn nc : Nat) (ids : List Nat) (w : World) (e : Int) (f : Nat) (sp : List Span) (er : Int)
    (ht : TreeR X w cs t) (hp : SlR intK X w PA pn pc p) (hnm : SlR strK X w NA nn nc (ids.map nameOf)) (hX : ∀ k, X k → k < w.heap.size) (hU : Used w) (H : PassH t e p f sp er ids) :
    Calls Tryz.prog 51 #[.agg cs, .slice PA pn pc, .slice NA nn nc] w (Fin w fun v w' => ∃ A n c, v = .tuple #[.slice A n c, .int .i64 er] ∧ SlR (sliceK intK) No w' A n c (resL51 t e p f sp er ids)) :=
  results_ok cs t PA pn pc p NA nn nc ids w e f sp er ht hp hnm hX hU H.val H.spans H.few H.ok H.idok H.fit H.big H.many H.h12
theorem deletes_ok {X : Nat → Prop} (cs : Array Value) (t : List Nod) (PA : Option Addr) (pn pc : Nat) (p : List Int) (w : World) (e : Int) (f : Nat) (sp : List Span) (er : Int)
    (ht : TreeR X w cs t) (hp : SlR intK X w PA pn pc p) (hX : ∀ k, X k → k < w.heap.size) (hU : Used w) (H : PassH t e p f sp er [0]) :
    Calls Tryz.prog 39 #[.agg cs, .slice PA pn pc] w (Fin w fun v w' => ∃ A n c, v = .tuple #[.slice A n c, .int .i64 er] ∧ SlR (sliceK intK) No w' A n c (resL51 t e p f sp er [0])) := by
  apply c39
  unfold m39
  have hE1 : Ext No w (w.alloc (.cells cs 40)) := (Ext.refl No w).alloc _
  have b1 : (w.alloc (.cells cs 40)).heap[w.heap.size]? = some (.cells cs 40) := heap_alloc_new w _
  generalize w.alloc (.cells cs 40) = w1 at hE1 b1
  have hsz : cs.size = 1 := by obtain ⟨A, c, rfl, _⟩ := ht; rfl
  have hX1 : ∀ k, X k → k < w1.heap.size := fun k hk => Nat.lt_of_lt_of_le (hX k hk) hE1.size
  have hE2 : Ext No w1 (w1.alloc (.cells (flat [.string (nameOf 0)]) 9)) := (Ext.refl No w1).alloc _
  have hl : SlR strK X (w1.alloc (.cells (flat [.string (nameOf 0)]) 9)) (some ⟨w1.heap.size, 0, none⟩) 1 1 [nameOf 0] :=
    litSl (css := [#[.string (nameOf 0)]]) 9 1 rfl ⟨⟨rfl, by decide⟩, trivial⟩ hX1 rfl (by simp [maxLen])
  have hE := hE1.trans hE2
  have b2 := (hE2.block _ (Array.getElem?_eq_some_iff.1 b1).1 (fun h => h)).trans b1
  refine ⟨cs, hsz, row_cells b1, by intro v hv; simp at hv; subst hv; rfl, ?_⟩
  refine Fin.use (results_ok' (X := X) cs t PA pn pc p _ 1 1 [0] _ e f sp er (ht.ext hE.no (Upd.same _ _)) (hp.ext hE.no (Upd.same _ _)) hl (fun k hk => Nat.lt_of_lt_of_le (hX1 k hk) hE2.size) (hU.ext hE) H) fun v w3 hE3 hv => ?_
  obtain ⟨A, n, c, rfl, hs⟩ := hv
  exact ⟨_, _, rfl, _, _, _, rfl, _, rfl, Fin.ret (hE.trans hE3) ⟨A, n, c, rfl, hs⟩⟩
theorem lowers_ok {X : Nat → Prop} (cs : Array Value) (t : List Nod) (PA : Option Addr) (pn pc : Nat) (p : List Int) (w : World) (e : Int) (f : Nat) (sp : List Span) (er : Int)
    (ht : TreeR X w cs t) (hp : SlR intK X w PA pn pc p) (hX : ∀ k, X k → k < w.heap.size) (hU : Used w) (H : PassH t e p f sp er [1]) :
    Calls Tryz.prog 25 #[.agg cs, .slice PA pn pc] w (Fin w fun v w' => ∃ A n c, v = .tuple #[.slice A n c, .int .i64 er] ∧ SlR (sliceK intK) No w' A n c (resL51 t e p f sp er [1])) := by
  apply c25
  unfold m25
  have hE1 : Ext No w (w.alloc (.cells cs 40)) := (Ext.refl No w).alloc _
  have b1 : (w.alloc (.cells cs 40)).heap[w.heap.size]? = some (.cells cs 40) := heap_alloc_new w _
  generalize w.alloc (.cells cs 40) = w1 at hE1 b1
  have hsz : cs.size = 1 := by obtain ⟨A, c, rfl, _⟩ := ht; rfl
  have hX1 : ∀ k, X k → k < w1.heap.size := fun k hk => Nat.lt_of_lt_of_le (hX k hk) hE1.size
  have hE2 : Ext No w1 (w1.alloc (.cells (flat [.string (nameOf 1)]) 9)) := (Ext.refl No w1).alloc _
  have hl : SlR strK X (w1.alloc (.cells (flat [.string (nameOf 1)]) 9)) (some ⟨w1.heap.size, 0, none⟩) 1 1 [nameOf 1] :=
    litSl (css := [#[.string (nameOf 1)]]) 9 1 rfl ⟨⟨rfl, by decide⟩, trivial⟩ hX1 rfl (by simp [maxLen])
  have hE := hE1.trans hE2
  have b2 := (hE2.block _ (Array.getElem?_eq_some_iff.1 b1).1 (fun h => h)).trans b1
  refine ⟨cs, hsz, row_cells b1, by intro v hv; simp at hv; subst hv; rfl, ?_⟩
  refine Fin.use (results_ok' (X := X) cs t PA pn pc p _ 1 1 [1] _ e f sp er (ht.ext hE.no (Upd.same _ _)) (hp.ext hE.no (Upd.same _ _)) hl (fun k hk => Nat.lt_of_lt_of_le (hX1 k hk) hE2.size) (hU.ext hE) H) fun v w3 hE3 hv => ?_
  obtain ⟨A, n, c, rfl, hs⟩ := hv
  exact ⟨_, _, rfl, _, _, _, rfl, _, rfl, Fin.ret (hE.trans hE3) ⟨A, n, c, rfl, hs⟩⟩
theorem swaps_ok {X : Nat → Prop} (cs : Array Value) (t : List Nod) (PA : Option Addr) (pn pc : Nat) (p : List Int) (w : World) (e : Int) (f : Nat) (sp : List Span) (er : Int)
    (ht : TreeR X w cs t) (hp : SlR intK X w PA pn pc p) (hX : ∀ k, X k → k < w.heap.size) (hU : Used w) (H : PassH t e p f sp er [2]) :
    Calls Tryz.prog 41 #[.agg cs, .slice PA pn pc] w (Fin w fun v w' => ∃ A n c, v = .tuple #[.slice A n c, .int .i64 er] ∧ SlR (sliceK intK) No w' A n c (resL51 t e p f sp er [2])) := by
  apply c41
  unfold m41
  have hE1 : Ext No w (w.alloc (.cells cs 40)) := (Ext.refl No w).alloc _
  have b1 : (w.alloc (.cells cs 40)).heap[w.heap.size]? = some (.cells cs 40) := heap_alloc_new w _
  generalize w.alloc (.cells cs 40) = w1 at hE1 b1
  have hsz : cs.size = 1 := by obtain ⟨A, c, rfl, _⟩ := ht; rfl
  have hX1 : ∀ k, X k → k < w1.heap.size := fun k hk => Nat.lt_of_lt_of_le (hX k hk) hE1.size
  have hE2 : Ext No w1 (w1.alloc (.cells (flat [.string (nameOf 2)]) 9)) := (Ext.refl No w1).alloc _
  have hl : SlR strK X (w1.alloc (.cells (flat [.string (nameOf 2)]) 9)) (some ⟨w1.heap.size, 0, none⟩) 1 1 [nameOf 2] :=
    litSl (css := [#[.string (nameOf 2)]]) 9 1 rfl ⟨⟨rfl, by decide⟩, trivial⟩ hX1 rfl (by simp [maxLen])
  have hE := hE1.trans hE2
  have b2 := (hE2.block _ (Array.getElem?_eq_some_iff.1 b1).1 (fun h => h)).trans b1
  refine ⟨cs, hsz, row_cells b1, by intro v hv; simp at hv; subst hv; rfl, ?_⟩
  refine Fin.use (results_ok' (X := X) cs t PA pn pc p _ 1 1 [2] _ e f sp er (ht.ext hE.no (Upd.same _ _)) (hp.ext hE.no (Upd.same _ _)) hl (fun k hk => Nat.lt_of_lt_of_le (hX1 k hk) hE2.size) (hU.ext hE) H) fun v w3 hE3 hv => ?_
  obtain ⟨A, n, c, rfl, hs⟩ := hv
  exact ⟨_, _, rfl, _, _, _, rfl, _, rfl, Fin.ret (hE.trans hE3) ⟨A, n, c, rfl, hs⟩⟩
theorem shares_ok {X : Nat → Prop} (cs : Array Value) (t : List Nod) (PA : Option Addr) (pn pc : Nat) (p : List Int) (w : World) (e : Int) (f : Nat) (sp : List Span) (er : Int)
    (ht : TreeR X w cs t) (hp : SlR intK X w PA pn pc p) (hX : ∀ k, X k → k < w.heap.size) (hU : Used w) (H : PassH t e p f sp er [3]) :
    Calls Tryz.prog 26 #[.agg cs, .slice PA pn pc] w (Fin w fun v w' => ∃ A n c, v = .tuple #[.slice A n c, .int .i64 er] ∧ SlR (sliceK intK) No w' A n c (resL51 t e p f sp er [3])) := by
  apply c26
  unfold m26
  have hE1 : Ext No w (w.alloc (.cells cs 40)) := (Ext.refl No w).alloc _
  have b1 : (w.alloc (.cells cs 40)).heap[w.heap.size]? = some (.cells cs 40) := heap_alloc_new w _
  generalize w.alloc (.cells cs 40) = w1 at hE1 b1
  have hsz : cs.size = 1 := by obtain ⟨A, c, rfl, _⟩ := ht; rfl
  have hX1 : ∀ k, X k → k < w1.heap.size := fun k hk => Nat.lt_of_lt_of_le (hX k hk) hE1.size
  have hE2 : Ext No w1 (w1.alloc (.cells (flat [.string (nameOf 3)]) 9)) := (Ext.refl No w1).alloc _
  have hl : SlR strK X (w1.alloc (.cells (flat [.string (nameOf 3)]) 9)) (some ⟨w1.heap.size, 0, none⟩) 1 1 [nameOf 3] :=
    litSl (css := [#[.string (nameOf 3)]]) 9 1 rfl ⟨⟨rfl, by decide⟩, trivial⟩ hX1 rfl (by simp [maxLen])
  have hE := hE1.trans hE2
  have b2 := (hE2.block _ (Array.getElem?_eq_some_iff.1 b1).1 (fun h => h)).trans b1
  refine ⟨cs, hsz, row_cells b1, by intro v hv; simp at hv; subst hv; rfl, ?_⟩
  refine Fin.use (results_ok' (X := X) cs t PA pn pc p _ 1 1 [3] _ e f sp er (ht.ext hE.no (Upd.same _ _)) (hp.ext hE.no (Upd.same _ _)) hl (fun k hk => Nat.lt_of_lt_of_le (hX1 k hk) hE2.size) (hU.ext hE) H) fun v w3 hE3 hv => ?_
  obtain ⟨A, n, c, rfl, hs⟩ := hv
  exact ⟨_, _, rfl, _, _, _, rfl, _, rfl, Fin.ret (hE.trans hE3) ⟨A, n, c, rfl, hs⟩⟩

/-! ## The example -/
def nodB (kind lo hi : Int) (ws ks : List Int) : Nod := ⟨kind, ⟨#[]⟩, lo, hi, ws, [], [], ks, .mk 0 0 ⟨#[]⟩ []⟩
def exT : List Nod := [nodB 1 0 9 [] [], nodB 3 0 0 [] [], nodB 3 0 0 [] [0], nodB 3 0 0 [] [0, 0], nodB 3 0 0 [] [0, 0, 0], nodB 2 0 0 [1, 1, 1, 1] [1, 2, 3, 4]]
def exSp : List Span := [(1, 1, 2), (1, 2, 3)]
theorem exOk : okTree exT = true := by kernel_rfl
theorem exSpans : spansP exT 0 [2, 4, 4] 10 = some (exSp, 0) := by kernel_rfl
def fitB (raw : List Int) : Bool := match fitP exT 0 raw 10 with
  | some _ => true
  | none => false
theorem fitB_ok {raw : List Int} (h : fitB raw = true) : ∃ q e', fitP exT 0 raw 10 = some (q, e') := by
  unfold fitB at h
  split at h
  · rename_i r hr
    exact ⟨r.1, r.2, hr⟩
  · cases h
theorem exFit : ((List.range 4).all fun id => (rawsOf [2, 4, 4] exSp id).all fitB) = true := by kernel_rfl
theorem exBig : ((List.range 4).all fun id => Nat.ble (rawsOf [2, 4, 4] exSp id).length 100 && Nat.ble (outsOf exT 0 [2, 4, 4] exSp 10 [id]).length 12) = true := by kernel_rfl
theorem exH (id : Nat) (hid : id < 4) : PassH exT 0 [2, 4, 4] 10 exSp 0 [id] := by
  have h1 := List.all_eq_true.1 exFit id (List.mem_range.2 hid)
  have h2 := List.all_eq_true.1 exBig id (List.mem_range.2 hid)
  simp only [Bool.and_eq_true] at h2
  refine ⟨fun W cs X hU ht => valid_ok cs exT W ht hU exOk, exSpans, by unfold small; decide, fun _ x hx => ?_, fun i hi => ?_, fun _ i hi raw hr => ?_, fun _ => ?_, by unfold small; simp, fun _ => Nat.le_of_ble_eq_true h2.2⟩
  · simp only [exSp, List.mem_cons, List.not_mem_nil, or_false] at hx
    rcases hx with rfl | rfl <;> (unfold spanOk; decide)
  · rw [List.mem_singleton.1 hi]; exact hid
  · rw [List.mem_singleton.1 hi] at hr
    exact fitB_ok (List.all_eq_true.1 h1 raw hr)
  · rw [List.flatMap_singleton]
    have := Nat.le_of_ble_eq_true h2.1
    unfold small
    omega
theorem exDel : resL51 exT 0 [2, 4, 4] 10 exSp 0 [0] = [[1, 4], [2, 4, 0]] := by kernel_rfl
theorem exLow : resL51 exT 0 [2, 4, 4] 10 exSp 0 [1] = [[0], [1, 4], [2, 0, 4], [2, 2, 4], [2, 3, 4], [2, 4, 0], [2, 4, 2], [2, 4, 3]] := by kernel_rfl
theorem exSwa : resL51 exT 0 [2, 4, 4] 10 exSp 0 [2] = [] := by kernel_rfl
theorem exSha : resL51 exT 0 [2, 4, 4] 10 exSp 0 [3] = [[2, 2, 4], [2, 4, 2]] := by kernel_rfl

theorem build74 (k lo hi : Int) (A1 A2 : Option Addr) (n1 c1 n2 c2 : Nat) (w : World) : (Instr.build 74 #[(0, .int .i64 k), (2, .int .i64 lo), (3, .int .i64 hi), (4, .slice A1 n1 c1), (7, .slice A2 n2 c2)]).run Tryz.prog w =
    .ok (.agg #[.int .i64 k, .string ⟨#[]⟩, .int .i64 lo, .int .i64 hi, .slice A1 n1 c1, .slice none 0 0, .slice none 0 0, .slice A2 n2 c2, .int .i64 0, .int .i64 0, .string ⟨#[]⟩, .slice none 0 0]) w := by kernel_rfl
theorem build74a (k hi : Int) (w : World) : (Instr.build 74 #[(0, .int .i64 k), (3, .int .i64 hi)]).run Tryz.prog w =
    .ok (.agg #[.int .i64 k, .string ⟨#[]⟩, .int .i64 0, .int .i64 hi, .slice none 0 0, .slice none 0 0, .slice none 0 0, .slice none 0 0, .int .i64 0, .int .i64 0, .string ⟨#[]⟩, .slice none 0 0]) w := by kernel_rfl
theorem build74b (k : Int) (w : World) : (Instr.build 74 #[(0, .int .i64 k)]).run Tryz.prog w =
    .ok (.agg #[.int .i64 k, .string ⟨#[]⟩, .int .i64 0, .int .i64 0, .slice none 0 0, .slice none 0 0, .slice none 0 0, .slice none 0 0, .int .i64 0, .int .i64 0, .string ⟨#[]⟩, .slice none 0 0]) w := by kernel_rfl
theorem build74c (k : Int) (A2 : Option Addr) (n2 c2 : Nat) (w : World) : (Instr.build 74 #[(0, .int .i64 k), (7, .slice A2 n2 c2)]).run Tryz.prog w =
    .ok (.agg #[.int .i64 k, .string ⟨#[]⟩, .int .i64 0, .int .i64 0, .slice none 0 0, .slice none 0 0, .slice none 0 0, .slice A2 n2 c2, .int .i64 0, .int .i64 0, .string ⟨#[]⟩, .slice none 0 0]) w := by kernel_rfl
theorem build74d (k : Int) (A1 A2 : Option Addr) (n1 c1 n2 c2 : Nat) (w : World) : (Instr.build 74 #[(0, .int .i64 k), (4, .slice A1 n1 c1), (7, .slice A2 n2 c2)]).run Tryz.prog w =
    .ok (.agg #[.int .i64 k, .string ⟨#[]⟩, .int .i64 0, .int .i64 0, .slice A1 n1 c1, .slice none 0 0, .slice none 0 0, .slice A2 n2 c2, .int .i64 0, .int .i64 0, .string ⟨#[]⟩, .slice none 0 0]) w := by kernel_rfl
theorem build40 (A : Option Addr) (n c : Nat) (w : World) : (Instr.build 40 #[(0, .slice A n c)]).run Tryz.prog w = .ok (.agg #[.slice A n c]) w := by kernel_rfl
/-- A node without names and values. -/
theorem nodeB {X : Nat → Prop} {w : World} {k lo hi : Int} {ws ks : List Int} {A1 A2 : Option Addr} {c1 c2 : Nat} (hk : intOk k) (hlo : intOk lo) (hhi : intOk hi) (h1 : SlR intK X w A1 ws.length c1 ws) (h2 : SlR intK X w A2 ks.length c2 ks) :
    NodeR X w #[.int .i64 k, .string ⟨#[]⟩, .int .i64 lo, .int .i64 hi, .slice A1 ws.length c1, .slice none 0 0, .slice none 0 0, .slice A2 ks.length c2, .int .i64 0, .int .i64 0, .string ⟨#[]⟩, .slice none 0 0] (nodB k lo hi ws ks) := by
  have z : intOk 0 := by constructor <;> decide
  have zs : (⟨#[]⟩ : ByteArray).size ≤ maxLen := by show (0 : Nat) ≤ _; exact Nat.zero_le _
  exact ⟨⟨A1, c1, none, 0, none, 0, A2, c2, none, 0, rfl, h1, SlR.nil _ _ _ _ _ (by simp) fun _ => rfl, SlR.nil _ _ _ _ _ (by simp) fun _ => rfl, h2, SlR.nil _ _ _ _ _ (by simp) fun _ => rfl⟩, hk, zs, hlo, hhi, z, z, zs⟩
theorem example_ok (w : World) : Calls Tryz.prog 40 #[] w (Fin w fun v w' => ∃ cs, v = .agg cs ∧ TreeR (Old w) w' cs exT) := by
  apply c40
  unfold m40
  have io : ∀ n : Int, 0 ≤ n → n ≤ 9 → intOk n := fun n h1 h2 => ⟨by omega, by omega⟩
  have hE0 : Ext No w (w.alloc (.cells #[.slice none 0 0] 40)) := (Ext.refl No w).alloc _
  have b0 : (w.alloc (.cells #[.slice none 0 0] 40)).heap[w.heap.size]? = some (.cells #[.slice none 0 0] 40) := heap_alloc_new w _
  generalize w.alloc (.cells #[.slice none 0 0] 40) = w0 at hE0 b0
  have ini : ∀ (W : World) (vs : List Int) (te : TypeId), (∀ x ∈ vs, 0 ≤ x ∧ x ≤ 9) → vs.length ≤ 9 → w0.heap.size ≤ W.heap.size → SlR intK (Old w0) (W.alloc (.cells (flat (vs.map fun x => .int .i64 x)) te)) (some ⟨W.heap.size, 0, none⟩) vs.length vs.length vs := fun W vs te h hl hw =>
    litInts W vs (fun x hx => io x (h x hx).1 (h x hx).2) (by rw [maxLen_eq]; omega) te (Old w0) (fun k hk => Nat.lt_of_lt_of_le hk hw)
  refine ⟨_, _, build74a 1 9 w0, _, rfl, _, _, build74b 3 w0, _, rfl, by intro v hv; simp at hv; subst hv; rfl, ?_⟩
  have hE1 : Ext No w0 (w0.alloc (.cells (flat [.int .i64 0]) 3)) := (Ext.refl No w0).alloc _
  have r1 := ini w0 [0] 3 (by simp) (by simp) (Nat.le_refl _)
  simp only [List.map_cons, List.map_nil] at r1
  generalize w0.alloc (.cells (flat [.int .i64 0]) 3) = w1 at hE1 r1
  refine ⟨_, _, build74c 3 _ _ _ w1, _, rfl, by intro v hv; simp at hv; subst hv; rfl, ?_⟩
  have h1 := hE1
  have hE2 : Ext No w1 (w1.alloc (.cells (flat [.int .i64 0, .int .i64 0]) 3)) := (Ext.refl No w1).alloc _
  have r2 := ini w1 [0, 0] 3 (by simp) (by simp) h1.size
  simp only [List.map_cons, List.map_nil] at r2
  generalize w1.alloc (.cells (flat [.int .i64 0, .int .i64 0]) 3) = w2 at hE2 r2
  refine ⟨_, _, build74c 3 _ _ _ w2, _, rfl, by intro v hv; simp at hv; subst hv; rfl, ?_⟩
  have h2 := h1.trans hE2
  have hE3 : Ext No w2 (w2.alloc (.cells (flat [.int .i64 0, .int .i64 0, .int .i64 0]) 3)) := (Ext.refl No w2).alloc _
  have r3 := ini w2 [0, 0, 0] 3 (by simp) (by simp) h2.size
  simp only [List.map_cons, List.map_nil] at r3
  generalize w2.alloc (.cells (flat [.int .i64 0, .int .i64 0, .int .i64 0]) 3) = w3 at hE3 r3
  refine ⟨_, _, build74c 3 _ _ _ w3, _, rfl, by intro v hv; simp at hv; subst hv; rfl, by intro v hv; simp at hv; rcases hv with rfl | rfl | rfl | rfl <;> rfl, ?_⟩
  have h3 := h2.trans hE3
  have hE4 : Ext No w3 (w3.alloc (.cells (flat [.int .i64 1, .int .i64 1, .int .i64 1, .int .i64 1]) 3)) := (Ext.refl No w3).alloc _
  have r4 := ini w3 [1, 1, 1, 1] 3 (by simp) (by simp) h3.size
  simp only [List.map_cons, List.map_nil] at r4
  generalize w3.alloc (.cells (flat [.int .i64 1, .int .i64 1, .int .i64 1, .int .i64 1]) 3) = w4 at hE4 r4
  have h4 := h3.trans hE4
  have hE5 : Ext No w4 (w4.alloc (.cells (flat [.int .i64 1, .int .i64 2, .int .i64 3, .int .i64 4]) 3)) := (Ext.refl No w4).alloc _
  have r5 := ini w4 [1, 2, 3, 4] 3 (by simp) (by simp) h4.size
  simp only [List.map_cons, List.map_nil] at r5
  generalize w4.alloc (.cells (flat [.int .i64 1, .int .i64 2, .int .i64 3, .int .i64 4]) 3) = w5 at hE5 r5
  have h5 := h4.trans hE5
  refine ⟨_, _, build74d 2 _ _ _ _ _ _ w5, _, rfl, by intro v hv; simp at hv; rcases hv with rfl | rfl | rfl | rfl | rfl | rfl <;> rfl, ?_⟩
  have nl : ∀ W, SlR intK (Old w0) W none 0 0 [] := fun W => SlR.nil _ _ _ _ _ (by simp) fun _ => rfl
  have hrow := litSl (E := nodeK) (X := Old w0) (w := w5) (css := [_, _, _, _, _, _]) (ds := exT)
    (C := flat [.agg #[.int .i64 1, .string ⟨#[]⟩, .int .i64 0, .int .i64 9, .slice none 0 0, .slice none 0 0, .slice none 0 0, .slice none 0 0, .int .i64 0, .int .i64 0, .string ⟨#[]⟩, .slice none 0 0],
      .agg #[.int .i64 3, .string ⟨#[]⟩, .int .i64 0, .int .i64 0, .slice none 0 0, .slice none 0 0, .slice none 0 0, .slice none 0 0, .int .i64 0, .int .i64 0, .string ⟨#[]⟩, .slice none 0 0],
      .agg #[.int .i64 3, .string ⟨#[]⟩, .int .i64 0, .int .i64 0, .slice none 0 0, .slice none 0 0, .slice none 0 0, .slice (some ⟨w0.heap.size, 0, none⟩) 1 1, .int .i64 0, .int .i64 0, .string ⟨#[]⟩, .slice none 0 0],
      .agg #[.int .i64 3, .string ⟨#[]⟩, .int .i64 0, .int .i64 0, .slice none 0 0, .slice none 0 0, .slice none 0 0, .slice (some ⟨w1.heap.size, 0, none⟩) 2 2, .int .i64 0, .int .i64 0, .string ⟨#[]⟩, .slice none 0 0],
      .agg #[.int .i64 3, .string ⟨#[]⟩, .int .i64 0, .int .i64 0, .slice none 0 0, .slice none 0 0, .slice none 0 0, .slice (some ⟨w2.heap.size, 0, none⟩) 3 3, .int .i64 0, .int .i64 0, .string ⟨#[]⟩, .slice none 0 0],
      .agg #[.int .i64 2, .string ⟨#[]⟩, .int .i64 0, .int .i64 0, .slice (some ⟨w3.heap.size, 0, none⟩) 4 4, .slice none 0 0, .slice none 0 0, .slice (some ⟨w4.heap.size, 0, none⟩) 4 4, .int .i64 0, .int .i64 0, .string ⟨#[]⟩, .slice none 0 0]]) 74 6 rfl
    ⟨nodeB (ws := []) (ks := []) (io _ (by omega) (by omega)) (io _ (by omega) (by omega)) (io _ (by omega) (by omega)) (nl _) (nl _),
     nodeB (ws := []) (ks := []) (io _ (by omega) (by omega)) (io _ (by omega) (by omega)) (io _ (by omega) (by omega)) (nl _) (nl _),
     nodeB (ws := []) (ks := [0]) (io _ (by omega) (by omega)) (io _ (by omega) (by omega)) (io _ (by omega) (by omega)) (nl _) (r1.ext (((hE2.trans hE3).trans hE4).trans hE5).no (Upd.same _ _)),
     nodeB (ws := []) (ks := [0, 0]) (io _ (by omega) (by omega)) (io _ (by omega) (by omega)) (io _ (by omega) (by omega)) (nl _) (r2.ext ((hE3.trans hE4).trans hE5).no (Upd.same _ _)),
     nodeB (ws := []) (ks := [0, 0, 0]) (io _ (by omega) (by omega)) (io _ (by omega) (by omega)) (io _ (by omega) (by omega)) (nl _) (r3.ext (hE4.trans hE5).no (Upd.same _ _)),
     nodeB (ws := [1, 1, 1, 1]) (ks := [1, 2, 3, 4]) (io _ (by omega) (by omega)) (io _ (by omega) (by omega)) (io _ (by omega) (by omega)) (r4.ext hE5.no (Upd.same _ _)) r5, trivial⟩
    (fun k hk => Nat.lt_of_lt_of_le hk h5.size) rfl (by simp [maxLen])
  refine ⟨_, _, build40 _ _ _ _, _, rfl, rfl, ?_⟩
  have hE6 : Ext No w5 (w5.alloc (.cells (flat [.agg #[.int .i64 1, .string ⟨#[]⟩, .int .i64 0, .int .i64 9, .slice none 0 0, .slice none 0 0, .slice none 0 0, .slice none 0 0, .int .i64 0, .int .i64 0, .string ⟨#[]⟩, .slice none 0 0],
      .agg #[.int .i64 3, .string ⟨#[]⟩, .int .i64 0, .int .i64 0, .slice none 0 0, .slice none 0 0, .slice none 0 0, .slice none 0 0, .int .i64 0, .int .i64 0, .string ⟨#[]⟩, .slice none 0 0],
      .agg #[.int .i64 3, .string ⟨#[]⟩, .int .i64 0, .int .i64 0, .slice none 0 0, .slice none 0 0, .slice none 0 0, .slice (some ⟨w0.heap.size, 0, none⟩) 1 1, .int .i64 0, .int .i64 0, .string ⟨#[]⟩, .slice none 0 0],
      .agg #[.int .i64 3, .string ⟨#[]⟩, .int .i64 0, .int .i64 0, .slice none 0 0, .slice none 0 0, .slice none 0 0, .slice (some ⟨w1.heap.size, 0, none⟩) 2 2, .int .i64 0, .int .i64 0, .string ⟨#[]⟩, .slice none 0 0],
      .agg #[.int .i64 3, .string ⟨#[]⟩, .int .i64 0, .int .i64 0, .slice none 0 0, .slice none 0 0, .slice none 0 0, .slice (some ⟨w2.heap.size, 0, none⟩) 3 3, .int .i64 0, .int .i64 0, .string ⟨#[]⟩, .slice none 0 0],
      .agg #[.int .i64 2, .string ⟨#[]⟩, .int .i64 0, .int .i64 0, .slice (some ⟨w3.heap.size, 0, none⟩) 4 4, .slice none 0 0, .slice none 0 0, .slice (some ⟨w4.heap.size, 0, none⟩) 4 4, .int .i64 0, .int .i64 0, .string ⟨#[]⟩, .slice none 0 0]]) 74)) := (Ext.refl No _).alloc _
  generalize w5.alloc _ = w6 at hE6 hrow
  have h06 := ((((hE1.trans hE2).trans hE3).trans hE4).trans hE5).trans hE6
  have b6 := (h06.block _ (Array.getElem?_eq_some_iff.1 b0).1 (fun h => h)).trans b0
  have b6s : w.heap.size < w0.heap.size := (Array.getElem?_eq_some_iff.1 b0).1
  refine store_box (cs := #[.slice (some ⟨w5.heap.size, 0, none⟩) 6 6]) b6 rfl (by intro v hv; simp at hv; subst hv; rfl) ⟨_, rfl, row_cells (setRow_new b6), ?_⟩
  have hE7 := setRow_ext w6 w.heap.size #[.slice (some ⟨w5.heap.size, 0, none⟩) 6 6]
  refine Fin.ret ((hE0.trans h06).trans' hE7 fun k hk h => by have h' : k = w.heap.size := h; omega) ⟨_, rfl, _, _, rfl, ?_⟩
  refine (hrow.ext (hE7.mono (Y := Old w0) fun k _ hk => ?_) (Upd.same _ _)).mono fun k hk => Nat.lt_of_lt_of_le hk hE0.size
  have hk' : k = w.heap.size := hk
  rw [hk']
  exact b6s

/-! ## The examples hold -/
theorem lives_ok (w : World) (hU : Used w) : Calls Tryz.prog 18 #[] w (Fin w fun v _ => v = .bool true) := by
  apply c18
  unfold m18
  have io : ∀ n : Int, 0 ≤ n → n ≤ 9 → intOk n := fun n h1 h2 => ⟨by omega, by omega⟩
  have hE0 : Ext No w (w.alloc (.cells (flat [.int .i64 2, .int .i64 4, .int .i64 4]) 3)) := (Ext.refl No w).alloc _
  have hp : SlR intK No (w.alloc (.cells (flat [.int .i64 2, .int .i64 4, .int .i64 4]) 3)) (some ⟨w.heap.size, 0, none⟩) 3 3 [2, 4, 4] :=
    litInts w [2, 4, 4] (by intro x hx; simp at hx; rcases hx with rfl | rfl | rfl <;> exact io _ (by omega) (by omega)) (by simp [maxLen]) 3 No (fun k hk => hk.elim)
  refine ⟨by intro v hv; simp at hv; rcases hv with rfl | rfl | rfl <;> rfl, ?_⟩
  generalize w.alloc (.cells (flat [.int .i64 2, .int .i64 4, .int .i64 4]) 3) = w0 at hE0 hp
  have nx : ∀ {W : World} k, No k → k < W.heap.size := fun k hk => hk.elim
  refine Fin.use (example_ok w0) fun v w1 hE1 hv => ?_
  obtain ⟨t1, rfl, ht1⟩ := hv
  refine ⟨_, rfl, Fin.use (deletes_ok (X := No) t1 exT _ 3 3 [2, 4, 4] w1 0 10 exSp 0 (ht1.ext (Ext.refl _ _) fun k hk => hk.elim) (hp.ext hE1 (Upd.same _ _)) nx (hU.ext (hE0.trans hE1)) (exH 0 (by omega))) fun v w2 hE2 hv => ?_⟩
  obtain ⟨A1, n1, c1, rfl, hs1⟩ := hv
  refine ⟨_, _, rfl, _, _, _, rfl, _, rfl, Fin.use (example_ok w2) fun v w3 hE3 hv => ?_⟩
  obtain ⟨t2, rfl, ht2⟩ := hv
  have h3 := (hE1.trans hE2).trans hE3
  refine ⟨_, rfl, Fin.use (lowers_ok (X := No) t2 exT _ 3 3 [2, 4, 4] w3 0 10 exSp 0 (ht2.ext (Ext.refl _ _) fun k hk => hk.elim) (hp.ext h3 (Upd.same _ _)) nx (hU.ext (hE0.trans h3)) (exH 1 (by omega))) fun v w4 hE4 hv => ?_⟩
  obtain ⟨A2, n2, c2, rfl, hs2⟩ := hv
  refine ⟨_, _, rfl, _, _, _, rfl, _, rfl, Fin.use (example_ok w4) fun v w5 hE5 hv => ?_⟩
  obtain ⟨t3, rfl, ht3⟩ := hv
  have h5 := (h3.trans hE4).trans hE5
  refine ⟨_, rfl, Fin.use (swaps_ok (X := No) t3 exT _ 3 3 [2, 4, 4] w5 0 10 exSp 0 (ht3.ext (Ext.refl _ _) fun k hk => hk.elim) (hp.ext h5 (Upd.same _ _)) nx (hU.ext (hE0.trans h5)) (exH 2 (by omega))) fun v w6 hE6 hv => ?_⟩
  obtain ⟨A3, n3, c3, rfl, hs3⟩ := hv
  refine ⟨_, _, rfl, _, _, _, rfl, _, rfl, Fin.use (example_ok w6) fun v w7 hE7 hv => ?_⟩
  obtain ⟨t4, rfl, ht4⟩ := hv
  have h7 := (h5.trans hE6).trans hE7
  refine ⟨_, rfl, Fin.use (shares_ok (X := No) t4 exT _ 3 3 [2, 4, 4] w7 0 10 exSp 0 (ht4.ext (Ext.refl _ _) fun k hk => hk.elim) (hp.ext h7 (Upd.same _ _)) nx (hU.ext (hE0.trans h7)) (exH 3 (by omega))) fun v w8 hE8 hv => ?_⟩
  obtain ⟨A4, n4, c4, rfl, hs4⟩ := hv
  refine ⟨_, _, rfl, _, _, _, rfl, _, rfl, ?_⟩
  rw [if_neg (by decide), if_neg (by decide), if_neg (by decide)]
  rw [exDel] at hs1
  rw [exLow] at hs2
  rw [exSwa] at hs3
  rw [exSha] at hs4
  have g1 := hs1.ext (((((hE3.trans hE4).trans hE5).trans hE6).trans hE7).trans hE8) (Upd.same _ _)
  have g2 := hs2.ext (((hE5.trans hE6).trans hE7).trans hE8) (Upd.same _ _)
  have g3 := hs3.ext (hE7.trans hE8) (Upd.same _ _)
  have l1 := g1.len
  have l2 := g2.len
  have l3 := g3.len
  have l4 := hs4.len
  simp only [List.length_cons, List.length_nil] at l1 l2 l3 l4
  subst l1 l2 l3 l4
  unfold m18_K1
  rw [if_neg (by decide)]
  have ini : ∀ (W : World) (vs : List Int), (∀ x ∈ vs, 0 ≤ x ∧ x ≤ 9) → vs.length ≤ 9 → SlR intK No (W.alloc (.cells (flat (vs.map fun x => .int .i64 x)) 3)) (some ⟨W.heap.size, 0, none⟩) vs.length vs.length vs := fun W vs h hl =>
    litInts W vs (fun x hx => io x (h x hx).1 (h x hx).2) (by rw [maxLen_eq]; omega) 3 No (fun k hk => hk.elim)
  have al : ∀ (W : World) (o : Obj), Ext No W (W.alloc o) := fun W o => (Ext.refl No W).alloc o
  have two : ∀ a b : Int, Sized 1 [.int .i64 a, .int .i64 b] := fun a b v hv => by simp at hv; rcases hv with rfl | rfl <;> rfl
  have one : ∀ a : Int, Sized 1 [.int .i64 a] := fun a v hv => by simp at hv; subst hv; rfl
  have three : ∀ a b c : Int, Sized 1 [.int .i64 a, .int .i64 b, .int .i64 c] := fun a b c v hv => by simp at hv; rcases hv with rfl | rfl | rfl <;> rfl
  refine ⟨two _ _, three _ _ _, ?_⟩
  have eu0 := al w8 (.cells (flat [.int .i64 1, .int .i64 4]) 3)
  have ru0 := ini w8 [1, 4] (by simp) (by simp)
  simp only [List.map_cons, List.map_nil] at ru0
  generalize w8.alloc (.cells (flat [.int .i64 1, .int .i64 4]) 3) = u0 at eu0 ru0
  have eu1 := al u0 (.cells (flat [.int .i64 2, .int .i64 4, .int .i64 0]) 3)
  have ru1 := ini u0 [2, 4, 0] (by simp) (by simp)
  simp only [List.map_cons, List.map_nil] at ru1
  generalize u0.alloc (.cells (flat [.int .i64 2, .int .i64 4, .int .i64 0]) 3) = u1 at eu1 ru1
  have au : All2 (fun v d => ∃ A n c, v = Value.slice A n c ∧ SlR intK No u1 A n c d) [.slice (some ⟨w8.heap.size, 0, none⟩) 2 2, .slice (some ⟨u0.heap.size, 0, none⟩) 3 3] [[1, 4], [2, 4, 0]] :=
    ⟨⟨_, _, _, rfl, ru0.ext eu1 (Upd.same _ _)⟩, ⟨_, _, _, rfl, ru1.ext (Ext.refl No _) (Upd.same _ _)⟩, trivial⟩
  have lu := litSlices _ _ au (fun k hk => hk.elim) (by simp [maxLen])
  have tu := (eu0.trans eu1).trans (al u1 (.cells (flat [.slice (some ⟨w8.heap.size, 0, none⟩) 2 2, .slice (some ⟨u0.heap.size, 0, none⟩) 3 3]) 22))
  refine ⟨sizedSlices au, ?_⟩
  refine Fin.use (same_ok No No _ _ _ _ _ _ _ _ _ (g1.ext tu (Upd.same _ _)) lu) fun v w9 hEw9 hv => ⟨_, hv, ?_⟩
  rw [if_pos (by decide)]
  have k9 := tu.trans hEw9
  refine ⟨one _, two _ _, three _ _ _, three _ _ _, three _ _ _, three _ _ _, three _ _ _, three _ _ _, ?_⟩
  have ex0 := al w9 (.cells (flat [.int .i64 0]) 3)
  have rx0 := ini w9 [0] (by simp) (by simp)
  simp only [List.map_cons, List.map_nil] at rx0
  generalize w9.alloc (.cells (flat [.int .i64 0]) 3) = x0 at ex0 rx0
  have ex1 := al x0 (.cells (flat [.int .i64 1, .int .i64 4]) 3)
  have rx1 := ini x0 [1, 4] (by simp) (by simp)
  simp only [List.map_cons, List.map_nil] at rx1
  generalize x0.alloc (.cells (flat [.int .i64 1, .int .i64 4]) 3) = x1 at ex1 rx1
  have ex2 := al x1 (.cells (flat [.int .i64 2, .int .i64 0, .int .i64 4]) 3)
  have rx2 := ini x1 [2, 0, 4] (by simp) (by simp)
  simp only [List.map_cons, List.map_nil] at rx2
  generalize x1.alloc (.cells (flat [.int .i64 2, .int .i64 0, .int .i64 4]) 3) = x2 at ex2 rx2
  have ex3 := al x2 (.cells (flat [.int .i64 2, .int .i64 2, .int .i64 4]) 3)
  have rx3 := ini x2 [2, 2, 4] (by simp) (by simp)
  simp only [List.map_cons, List.map_nil] at rx3
  generalize x2.alloc (.cells (flat [.int .i64 2, .int .i64 2, .int .i64 4]) 3) = x3 at ex3 rx3
  have ex4 := al x3 (.cells (flat [.int .i64 2, .int .i64 3, .int .i64 4]) 3)
  have rx4 := ini x3 [2, 3, 4] (by simp) (by simp)
  simp only [List.map_cons, List.map_nil] at rx4
  generalize x3.alloc (.cells (flat [.int .i64 2, .int .i64 3, .int .i64 4]) 3) = x4 at ex4 rx4
  have ex5 := al x4 (.cells (flat [.int .i64 2, .int .i64 4, .int .i64 0]) 3)
  have rx5 := ini x4 [2, 4, 0] (by simp) (by simp)
  simp only [List.map_cons, List.map_nil] at rx5
  generalize x4.alloc (.cells (flat [.int .i64 2, .int .i64 4, .int .i64 0]) 3) = x5 at ex5 rx5
  have ex6 := al x5 (.cells (flat [.int .i64 2, .int .i64 4, .int .i64 2]) 3)
  have rx6 := ini x5 [2, 4, 2] (by simp) (by simp)
  simp only [List.map_cons, List.map_nil] at rx6
  generalize x5.alloc (.cells (flat [.int .i64 2, .int .i64 4, .int .i64 2]) 3) = x6 at ex6 rx6
  have ex7 := al x6 (.cells (flat [.int .i64 2, .int .i64 4, .int .i64 3]) 3)
  have rx7 := ini x6 [2, 4, 3] (by simp) (by simp)
  simp only [List.map_cons, List.map_nil] at rx7
  generalize x6.alloc (.cells (flat [.int .i64 2, .int .i64 4, .int .i64 3]) 3) = x7 at ex7 rx7
  have ax : All2 (fun v d => ∃ A n c, v = Value.slice A n c ∧ SlR intK No x7 A n c d) [.slice (some ⟨w9.heap.size, 0, none⟩) 1 1, .slice (some ⟨x0.heap.size, 0, none⟩) 2 2, .slice (some ⟨x1.heap.size, 0, none⟩) 3 3, .slice (some ⟨x2.heap.size, 0, none⟩) 3 3, .slice (some ⟨x3.heap.size, 0, none⟩) 3 3, .slice (some ⟨x4.heap.size, 0, none⟩) 3 3, .slice (some ⟨x5.heap.size, 0, none⟩) 3 3, .slice (some ⟨x6.heap.size, 0, none⟩) 3 3] [[0], [1, 4], [2, 0, 4], [2, 2, 4], [2, 3, 4], [2, 4, 0], [2, 4, 2], [2, 4, 3]] :=
    ⟨⟨_, _, _, rfl, rx0.ext ((((((ex1.trans ex2).trans ex3).trans ex4).trans ex5).trans ex6).trans ex7) (Upd.same _ _)⟩, ⟨_, _, _, rfl, rx1.ext (((((ex2.trans ex3).trans ex4).trans ex5).trans ex6).trans ex7) (Upd.same _ _)⟩, ⟨_, _, _, rfl, rx2.ext ((((ex3.trans ex4).trans ex5).trans ex6).trans ex7) (Upd.same _ _)⟩, ⟨_, _, _, rfl, rx3.ext (((ex4.trans ex5).trans ex6).trans ex7) (Upd.same _ _)⟩, ⟨_, _, _, rfl, rx4.ext ((ex5.trans ex6).trans ex7) (Upd.same _ _)⟩, ⟨_, _, _, rfl, rx5.ext (ex6.trans ex7) (Upd.same _ _)⟩, ⟨_, _, _, rfl, rx6.ext ex7 (Upd.same _ _)⟩, ⟨_, _, _, rfl, rx7.ext (Ext.refl No _) (Upd.same _ _)⟩, trivial⟩
  have lx := litSlices _ _ ax (fun k hk => hk.elim) (by simp [maxLen])
  have tx := (((((((ex0.trans ex1).trans ex2).trans ex3).trans ex4).trans ex5).trans ex6).trans ex7).trans (al x7 (.cells (flat [.slice (some ⟨w9.heap.size, 0, none⟩) 1 1, .slice (some ⟨x0.heap.size, 0, none⟩) 2 2, .slice (some ⟨x1.heap.size, 0, none⟩) 3 3, .slice (some ⟨x2.heap.size, 0, none⟩) 3 3, .slice (some ⟨x3.heap.size, 0, none⟩) 3 3, .slice (some ⟨x4.heap.size, 0, none⟩) 3 3, .slice (some ⟨x5.heap.size, 0, none⟩) 3 3, .slice (some ⟨x6.heap.size, 0, none⟩) 3 3]) 22))
  refine ⟨sizedSlices ax, ?_⟩
  refine Fin.use (same_ok No No _ _ _ _ _ _ _ _ _ ((g2.ext k9 (Upd.same _ _)).ext tx (Upd.same _ _)) lx) fun v w10 hEw10 hv => ⟨_, hv, ?_⟩
  rw [if_pos (by decide)]
  have k10 := k9.trans (tx.trans hEw10)
  rw [if_pos (by simp)]
  refine ⟨three _ _ _, three _ _ _, ?_⟩
  have ey0 := al w10 (.cells (flat [.int .i64 2, .int .i64 2, .int .i64 4]) 3)
  have ry0 := ini w10 [2, 2, 4] (by simp) (by simp)
  simp only [List.map_cons, List.map_nil] at ry0
  generalize w10.alloc (.cells (flat [.int .i64 2, .int .i64 2, .int .i64 4]) 3) = y0 at ey0 ry0
  have ey1 := al y0 (.cells (flat [.int .i64 2, .int .i64 4, .int .i64 2]) 3)
  have ry1 := ini y0 [2, 4, 2] (by simp) (by simp)
  simp only [List.map_cons, List.map_nil] at ry1
  generalize y0.alloc (.cells (flat [.int .i64 2, .int .i64 4, .int .i64 2]) 3) = y1 at ey1 ry1
  have ay : All2 (fun v d => ∃ A n c, v = Value.slice A n c ∧ SlR intK No y1 A n c d) [.slice (some ⟨w10.heap.size, 0, none⟩) 3 3, .slice (some ⟨y0.heap.size, 0, none⟩) 3 3] [[2, 2, 4], [2, 4, 2]] :=
    ⟨⟨_, _, _, rfl, ry0.ext ey1 (Upd.same _ _)⟩, ⟨_, _, _, rfl, ry1.ext (Ext.refl No _) (Upd.same _ _)⟩, trivial⟩
  have ly := litSlices _ _ ay (fun k hk => hk.elim) (by simp [maxLen])
  have ty := (ey0.trans ey1).trans (al y1 (.cells (flat [.slice (some ⟨w10.heap.size, 0, none⟩) 3 3, .slice (some ⟨y0.heap.size, 0, none⟩) 3 3]) 22))
  refine ⟨sizedSlices ay, ?_⟩
  refine Fin.use (same_ok No No _ _ _ _ _ _ _ _ _ ((hs4.ext k10 (Upd.same _ _)).ext ty (Upd.same _ _)) ly) fun v wz hEwz hv => ⟨_, hv, ?_⟩
  have k11 := k10.trans (ty.trans hEwz)
  exact Fin.ret (((hE0.trans h7).trans hE8).trans k11) rfl
end Go.Proofs.YtilacabmbjephaaGreatDoor
