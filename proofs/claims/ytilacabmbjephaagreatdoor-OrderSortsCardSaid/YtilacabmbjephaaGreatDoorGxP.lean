/- Boxes; own rows of structs; rows that are made. -/
import Derived.Test.YtilacabmbjephaaGreatDoorGxO
import Derived.Laws.MakeOwn
namespace Go.GX
set_option linter.unusedVariables false

/-! ## Boxes -/
theorem addr0 (g j : Nat) : (⟨g, 0, none⟩ : Addr).add j = ⟨g, j, none⟩ := by unfold Addr.add; split <;> simp_all
theorem box_cell (w : World) (cs : Array Value) (t : TypeId) (j : Nat) : (w.alloc (.cells cs t)).cell? ((⟨w.heap.size, 0, none⟩ : Addr).add j) = cs[j]? := by
  rw [addr0, cell_of_row _ w.heap.size j cs t (0, 0) (heap_alloc_new w _)]
theorem box_cell0 (w : World) (cs : Array Value) (t : TypeId) : (w.alloc (.cells cs t)).cell? (⟨w.heap.size, 0, none⟩ : Addr) = cs[0]? := box_cell w cs t 0
theorem box_cells (w : World) (cs : Array Value) (t : TypeId) : CellsAt (w.alloc (.cells cs t)) ⟨w.heap.size, 0, none⟩ cs := fun j v hj => (box_cell w cs t j).trans hj
theorem box_part (w : World) (cs ds : Array Value) (t : TypeId) (o : Nat) (h : ∀ j v, ds[j]? = some v → cs[o + j]? = some v) : CellsAt (w.alloc (.cells cs t)) ((⟨w.heap.size, 0, none⟩ : Addr).add o) ds := fun j v hj => by
  rw [add_add, box_cell]
  exact h j v hj
theorem setRow_alloc (w : World) (z cs : Array Value) (t : TypeId) : (w.alloc (.cells z t)).setRow w.heap.size cs = w.alloc (.cells cs t) := by
  unfold World.setRow World.alloc
  congr 1
  apply Array.ext
  · simp
  · intro i h1 h2
    simp only [Array.getElem_modify, Array.getElem_push]
    by_cases hi : i = w.heap.size
    · subst hi; simp
    · have : i < w.heap.size := by simp at h2; omega
      simp [this, Ne.symm hi]
theorem box_store {P : Program} (w : World) (z cs : Array Value) (t : TypeId) (hs : z.size = cs.size) (h1 : ∀ v ∈ cs.toList, v.oneCell' = true) {k : World → Prop} (hk : k (w.alloc (.cells cs t))) :
    RunU P (storeCells ⟨w.heap.size, 0, none⟩ cs.toList) (w.alloc (.cells z t)) k := by
  have hst := run_storeCells_at (P := P) w.heap.size 0 t cs.toList 0 z (w.alloc (.cells z t)) (heap_alloc_new w _) (by simp [hs]) h1
  refine ⟨_, hst, ?_⟩
  have : (z.toList.take (0 + 0) ++ cs.toList ++ z.toList.drop (0 + 0 + cs.toList.length)).toArray = cs := by
    have : z.toList.drop (0 + 0 + cs.toList.length) = [] := List.drop_of_length_le (by simp [hs])
    rw [this]
    simp
  rw [this, setRow_alloc]
  exact hk
/-- A box, later. -/
theorem Ext.box {X : Nat → Prop} {w w' : World} {cs : Array Value} {t : TypeId} (h : Ext X (w.alloc (.cells cs t)) w') (hX : ¬ X w.heap.size) (j : Nat) : w'.cell? ((⟨w.heap.size, 0, none⟩ : Addr).add j) = cs[j]? := by
  rw [addr0, ← addr0 w.heap.size j, World.cell?_of_block (w' := w') (w := w.alloc (.cells cs t)), box_cell]
  rw [add_block]
  exact h.block _ (by simp) hX

/-! ## Own rows of structs -/
section
variable {α : Type} {E : Kd α} {e t : TypeId} {b bytes : Nat} {X : Nat → Prop} {w : World} {A : Option Addr} {n c : Nat} {ds : List α} {P : Program}
theorem cat_set_at {sz : Nat} : ∀ {css : List (Array Value)} (hs : ∀ cs ∈ css, cs.size = sz) (i j : Nat) (hi : i < css.length) (hj : j < sz) (v : Value), cat (css.set i ((css[i]).setIfInBounds j v)) = (cat css).set (i * sz + j) v
  | [], _, i, _, hi, _, _ => absurd hi (by simp)
  | cs :: css, h, 0, j, _, hj, v => by
    have hs := h cs (by simp)
    simp only [List.set_cons_zero, List.getElem_cons_zero, cat_cons, Array.toList_setIfInBounds, Nat.zero_mul, Nat.zero_add]
    rw [List.set_append_left _ _ (by rw [Array.length_toList, hs]; exact hj)]
  | cs :: css, h, i + 1, j, hi, hj, v => by
    have hs := h cs (by simp)
    rw [List.set_cons_succ, cat_cons, cat_cons, List.getElem_cons_succ, cat_set_at (fun c hc => h c (by simp [hc])) i j (by simpa using hi) hj v]
    rw [List.set_append_right _ _ (by rw [Array.length_toList, hs, Nat.succ_mul]; omega), Array.length_toList, hs]
    congr 2
    rw [Nat.succ_mul]; omega
/-- One element of an own row: its cells, and what a store into one of them leaves. -/
theorem OwnR.at (h : OwnR E e b X w A n c ds) (i : Nat) (hi : i < n) :
    ∃ a cs, A = some a ∧ (∃ d, ds[i]? = some d ∧ E.R (Or' X (own A)) w cs d) ∧ CellsAt w (a.add (i * E.sz)) cs ∧ (∀ j, w.frozen? ((a.add (i * E.sz)).add j) = false) ∧
      ∀ j v d', j < E.sz → E.R (Or' X (own A)) w (cs.setIfInBounds j v) d' →
        OwnR E e b X (w.setCell ((a.add (i * E.sz)).add j) v) A n c (ds.set i d') ∧ Ext (own A) w (w.setCell ((a.add (i * E.sz)).add j) v) := by
  have hlen := h.len
  obtain ⟨css, hr, ha⟩ := h.ex
  have hl := ha.len
  have hsz := OwnR.cssz ha
  have hf := hr
  rcases hr.2 with ⟨h1, h2⟩ | ⟨g, cap, cur, h1, _⟩
  · omega
  · simp at h1
    obtain ⟨rfl, rfl⟩ := h1
    refine ⟨⟨g, 0, none⟩, css[i]'(by omega), rfl, ⟨ds[i]'(by omega), by simp [show i < ds.length by omega], ha.get i (by omega) (by omega)⟩, ?_, ?_, ?_⟩
    · intro j v hj
      have hj' : j < (css[i]'(by omega)).size := (Array.getElem?_eq_some_iff.1 hj).1
      rw [hsz _ (List.getElem_mem _)] at hj'
      rw [add_add]
      exact hf.cells (g := g) rfl _ _ ((cat_get hsz i j (by omega) hj').trans hj)
    · intro j
      rw [add_add, addr0]
      exact hf.frozenAt _
    · intro j v d' hj hR
      rw [add_add, addr0]
      have hE : Ext (own (some ⟨g, 0, none⟩)) w (w.setCell ⟨g, i * E.sz + j, none⟩ v) := (Ext.refl _ _).setCell v fun _ => ⟨_, rfl, rfl⟩
      refine ⟨⟨by simp [h.len], css.set i ((css[i]'(by omega)).setIfInBounds j v), ?_, ?_⟩, hE⟩
      · rw [cat_set_at hsz i j (by omega) hj v]
        exact (hf.stored (i * E.sz + j) v).1
      · exact (ha.set i _ _ hR).mono fun cs d hR => E.ext hR (hE.mono fun k _ hk => .inr hk) (Upd.same _ _)

theorem cat_replicate (n : Nat) (z : Array Value) (hz : 0 < z.size) : cat (List.replicate n z) = (madeCells z (n * z.size)).toList := by
  apply List.ext_getElem?
  intro k
  by_cases hk : k < n * z.size
  · have hi : k / z.size < n := Nat.div_lt_of_lt_mul (by rw [Nat.mul_comm]; exact hk)
    have hkk : k / z.size * z.size + k % z.size = k := by rw [Nat.mul_comm]; exact Nat.div_add_mod k z.size
    have := cat_get (sz := z.size) (css := List.replicate n z) (fun cs hcs => by rw [List.eq_of_mem_replicate hcs]) (k / z.size) (k % z.size) (by simpa using hi) (Nat.mod_lt _ hz)
    rw [hkk] at this
    rw [this]
    simp only [List.getElem_replicate, madeCells, Array.toList_map, Array.toList_range, List.getElem?_map, List.getElem?_range hk, Option.map_some]
    rw [getElem!_pos z _ (Nat.mod_lt _ hz)]
    simp [Nat.mod_lt _ hz]
  · rw [List.getElem?_eq_none (by rw [cat_length (sz := z.size) (fun cs hcs => by rw [List.eq_of_mem_replicate hcs])]; simp; omega), List.getElem?_eq_none (by simp [madeCells]; omega)]
/-- make([]T, n) -/
theorem OwnR.make (T : ElT P E t e bytes) (n : Nat) (w : World) (b : Nat) (hb : b ≤ w.heap.size) (hn : n ≤ maxLen) (hby : bytes * n ≤ 281474976710656) (z : Value) (hz : (P.info? e).bind (·.zero) = some z) (d : α)
    (hR : ∀ w' X', E.R X' w' z.cells d) {k : Value → World → Prop}
    (hk : ∀ w', Ext No w w' → OwnR E e b X w' (some ⟨w.heap.size, 0, none⟩) n n (List.replicate n d) → k (.slice (some ⟨w.heap.size, 0, none⟩) n n) w') :
    RunV P (Instr.makeSlice t (.int .i64 (n : Int)) (.int .i64 (n : Int))) w k := by
  obtain ⟨ht, i, z', hi, hz', hsz, hbi, hzs, _⟩ := T
  rw [hi] at hz
  simp only [Option.bind_some] at hz
  rw [hz'] at hz
  obtain rfl : z' = z := by simpa using hz
  obtain ⟨w', hr, ho, hg⟩ := run_make_full (P := P) w b t e i z' E.sz ht hi hz' hsz .i64 .i64 n (by rw [hbi]; exact hby) hn hb
  refine ⟨_, w', hr, hk w' ((Ext.of_grown hg).mono fun k _ hk => by cases hk) ⟨by simp, List.replicate n z'.cells, ?_, ?_⟩⟩
  · rw [cat_replicate n z'.cells (by rw [hzs]; exact E.pos), hzs]
    exact ho
  · exact All2.of (by simp) fun j h1 h2 => by simp only [List.getElem_replicate]; exact hR _ _
end
end Go.GX
