/- What lies in memory, as data: worlds that keep what is there (Ext), representations (Kd, SlR), rows of the call's own (OwnR). -/
import Derived.Test.YtilacabmbjephaaGreatDoorGxF
import Derived.Laws.AppendOwn
import Derived.Below
namespace Go.GX
open Go.RowKit
set_option linter.unusedVariables false

/-! ## Worlds -/
/-- w' is w with new blocks, and with other contents in the blocks of X alone. -/
structure Ext (X : Nat → Prop) (w w' : World) : Prop where
  os : w'.os = w.os
  tape : w'.tape = w.tape
  output : w'.output = w.output
  size : w.heap.size ≤ w'.heap.size
  block : ∀ k, k < w.heap.size → ¬ X k → w'.heap[k]? = w.heap[k]?
def No : Nat → Prop := fun _ => False

theorem Ext.refl (X : Nat → Prop) (w : World) : Ext X w w := ⟨rfl, rfl, rfl, Nat.le_refl _, fun _ _ _ => rfl⟩
theorem Ext.trans' {X Y : Nat → Prop} {w w1 w2 : World} (h : Ext X w w1) (h2 : Ext Y w1 w2) (hXY : ∀ k, k < w.heap.size → Y k → X k) : Ext X w w2 :=
  ⟨h2.os.trans h.os, h2.tape.trans h.tape, h2.output.trans h.output, Nat.le_trans h.size h2.size, fun k hk hX =>
    (h2.block k (Nat.lt_of_lt_of_le hk h.size) (fun hy => hX (hXY k hk hy))).trans (h.block k hk hX)⟩
theorem Ext.trans {X : Nat → Prop} {w w1 w2 : World} (h : Ext X w w1) (h2 : Ext X w1 w2) : Ext X w w2 := h.trans' h2 fun _ _ hx => hx
theorem Ext.mono {X Y : Nat → Prop} {w w1 : World} (h : Ext X w w1) (hXY : ∀ k, k < w.heap.size → X k → Y k) : Ext Y w w1 :=
  ⟨h.os, h.tape, h.output, h.size, fun k hk hY => h.block k hk fun hx => hY (hXY k hk hx)⟩
theorem Ext.no {X : Nat → Prop} {w w1 : World} (h : Ext No w w1) : Ext X w w1 := h.mono fun _ _ hx => hx.elim
theorem Ext.then {X : Nat → Prop} {w w1 w2 : World} (h : Ext X w w1) (h2 : Ext No w1 w2) : Ext X w w2 := h.trans h2.no
theorem Ext.alloc {X : Nat → Prop} {w w1 : World} (h : Ext X w w1) (o : Obj) : Ext X w (w1.alloc o) :=
  h.then ⟨rfl, rfl, rfl, by simp, fun k hk _ => heap_alloc_old w1 o k hk⟩
theorem Ext.drew {X : Nat → Prop} {w w1 : World} (h : Ext X w w1) : Ext X w w1.drew := ⟨h.os, h.tape, h.output, h.size, h.block⟩
theorem Ext.setCell {X : Nat → Prop} {w w1 : World} (h : Ext X w w1) {p : Addr} (v : Value) (hp : p.block < w.heap.size → X p.block) : Ext X w (w1.setCell p v) := by
  refine ⟨h.os, h.tape, h.output, by simpa [World.setCell] using h.size, fun k hk hX => ?_⟩
  rw [← h.block k hk hX]
  have hne : p.block ≠ k := fun e => hX (e ▸ hp (e ▸ hk))
  simp only [World.setCell, Array.getElem?_modify]
  rw [if_neg hne]
theorem Ext.below {w w1 : World} (h : Ext No w w1) : Below w.heap.size w w1 := ⟨h.os, h.tape, h.output, h.size, fun k hk => h.block k hk fun hx => hx⟩
theorem Ext.of_below {w w1 : World} (h : Below w.heap.size w w1) : Ext No w w1 := ⟨h.os, h.tape, h.output, h.size, fun k hk _ => h.block k hk⟩
theorem Ext.of_grown {w w1 : World} {row : Option Nat} (h : w.grownBy w1 row) : Ext (fun k => row = some k) w w1 :=
  ⟨h.os, h.tape, h.output, h.size, fun k hk hX => h.block k hk fun e => hX e.symm⟩

theorem cell_lt {w : World} {a : Addr} {v : Value} (h : w.cell? a = some v) : a.block < w.heap.size := World.block_lt_of_cell? w a h
theorem Ext.cell {X : Nat → Prop} {w w1 : World} (h : Ext X w w1) {a : Addr} {v : Value} (hc : w.cell? a = some v) (hX : ¬ X a.block) : w1.cell? a = some v :=
  (World.cell?_of_block (h.block a.block (cell_lt hc) hX)).trans hc
theorem Ext.frozen {X : Nat → Prop} {w w1 : World} (h : Ext X w w1) {a : Addr} (hl : a.block < w.heap.size) (hX : ¬ X a.block) : w1.frozen? a = w.frozen? a :=
  World.frozen?_of_block (h.block a.block hl hX)
theorem add_block (a : Addr) (n : Nat) : (a.add n).block = a.block := by unfold Addr.add; split <;> rfl
theorem add_add (a : Addr) (m n : Nat) : (a.add m).add n = a.add (m + n) := by
  unfold Addr.add
  by_cases hm : m = 0
  · subst hm; simp
  · by_cases hn : n = 0
    · subst hn; simp [hm]
    · simp [hm, hn, Nat.add_assoc]
theorem add_zero (a : Addr) : a.add 0 = a := rfl
theorem Ext.cells {X : Nat → Prop} {w w1 : World} (h : Ext X w w1) {a : Addr} {cs : Array Value} (hc : CellsAt w a cs) (hX : ¬ X a.block) : CellsAt w1 a cs :=
  fun j v hj => h.cell (hc j v hj) (by rw [add_block]; exact hX)

/-- What may be excluded behind a step: what was, and what is new. -/
def Upd (X X' : Nat → Prop) (w : World) : Prop := ∀ k, X' k → X k ∨ w.heap.size ≤ k
theorem Upd.same (X : Nat → Prop) (w : World) : Upd X X w := fun _ h => .inl h
theorem Upd.no (X : Nat → Prop) (w : World) : Upd X No w := fun _ h => h.elim

/-! ## Representations -/
structure Kd (α : Type) where
  sz : Nat
  R : (Nat → Prop) → World → Array Value → α → Prop
  pos : 0 < sz
  len : ∀ {X : Nat → Prop} {w : World} {cs : Array Value} {d : α}, R X w cs d → cs.size = sz
  one : ∀ {X : Nat → Prop} {w : World} {cs : Array Value} {d : α}, R X w cs d → ∀ v ∈ cs.toList, v.oneCell' = true
  ext : ∀ {X X' : Nat → Prop} {w w' : World} {cs : Array Value} {d : α}, R X w cs d → Ext X w w' → Upd X X' w → R X' w' cs d

def intOk (n : Int) : Prop := -9223372036854775808 ≤ n ∧ n ≤ 9223372036854775807
def intK : Kd Int where
  sz := 1
  R := fun _ _ cs n => cs = #[.int .i64 n] ∧ intOk n
  pos := by omega
  len := fun h => by rw [h.1]; rfl
  one := fun h v hv => by rw [h.1] at hv; simp at hv; subst hv; rfl
  ext := fun h _ _ => h
def boolK : Kd Bool where
  sz := 1
  R := fun _ _ cs b => cs = #[.bool b]
  pos := by omega
  len := fun h => by rw [h]; rfl
  one := fun h v hv => by rw [h] at hv; simp at hv; subst hv; rfl
  ext := fun h _ _ => h
def strK : Kd ByteArray where
  sz := 1
  R := fun _ _ cs s => cs = #[.string s] ∧ s.size ≤ maxLen
  pos := by omega
  len := fun h => by rw [h.1]; rfl
  one := fun h v hv => by rw [h.1] at hv; simp at hv; subst hv; rfl
  ext := fun h _ _ => h

/-- A slice that is read. -/
structure SlR {α : Type} (E : Kd α) (X : Nat → Prop) (w : World) (A : Option Addr) (n c : Nat) (ds : List α) : Prop where
  len : ds.length = n
  cap : n ≤ c
  max : c ≤ maxLen
  nilc : A = none → c = 0
  at_ : ∀ i (h : i < ds.length), ∃ a cs, A = some a ∧ ¬ X a.block ∧ E.R X w cs ds[i] ∧ CellsAt w (a.add (i * E.sz)) cs

section
variable {α : Type} {E : Kd α} {X X' : Nat → Prop} {w w' : World} {A : Option Addr} {n c : Nat} {ds : List α}
theorem cellsAt_lt {a : Addr} {cs : Array Value} (h : CellsAt w a cs) (hs : 0 < cs.size) : a.block < w.heap.size := by
  have := h 0 cs[0] (by simp [hs])
  have := cell_lt this
  rwa [add_block] at this
theorem SlR.ext (h : SlR E X w A n c ds) (hE : Ext X w w') (hX : Upd X X' w) : SlR E X' w' A n c ds := by
  refine ⟨h.len, h.cap, h.max, h.nilc, fun i hi => ?_⟩
  obtain ⟨a, cs, hA, hx, hR, hc⟩ := h.at_ i hi
  have hlt : a.block < w.heap.size := by
    have := cellsAt_lt hc (by rw [E.len hR]; exact E.pos)
    rwa [add_block] at this
  refine ⟨a, cs, hA, fun hx' => ?_, E.ext hR hE hX, hE.cells hc (by rw [add_block]; exact hx)⟩
  rcases hX _ hx' with h1 | h1
  · exact hx h1
  · omega
theorem SlR.nil (E : Kd α) (X : Nat → Prop) (w : World) (A : Option Addr) (c : Nat) (hc : c ≤ maxLen) (hA : A = none → c = 0) : SlR E X w A 0 c [] :=
  ⟨rfl, Nat.zero_le _, hc, hA, fun i h => absurd h (by simp)⟩
/-- The element at an index. -/
theorem SlR.get (h : SlR E X w A n c ds) (i : Nat) (hi : i < n) : ∃ a cs, A = some a ∧ E.R X w cs (ds[i]'(by rw [h.len]; exact hi)) ∧ CellsAt w (a.add (i * E.sz)) cs := by
  obtain ⟨a, cs, hA, _, hR, hc⟩ := h.at_ i (by rw [h.len]; exact hi)
  exact ⟨a, cs, hA, hR, hc⟩
theorem SlR.mono (h : SlR E X w A n c ds) (hX : ∀ k, X' k → X k) : SlR E X' w A n c ds := h.ext (Ext.refl _ _) fun k hk => .inl (hX k hk)
theorem SlR.fresh (h : SlR E X w A n c ds) : SlR E (fun k => X k ∨ w.heap.size ≤ k) w A n c ds := h.ext (Ext.refl _ _) fun k hk => hk
/-- xs[l:h] -/
theorem SlR.sub (h : SlR E X w A n c ds) (l hh : Nat) (h1 : l ≤ hh) (h2 : hh ≤ n) : SlR E X w (sliceAddr A l c E.sz) (hh - l) (c - l) ((ds.take hh).drop l) := by
  have hcap := h.cap
  have hlen := h.len
  have hmax := h.max
  refine ⟨by simp [hlen]; omega, by omega, by omega, ?_, fun i hi => ?_⟩
  · intro hn
    have : A = none := by
      unfold sliceAddr at hn
      split at hn
      · exact hn
      · simpa using hn
    have := h.nilc this
    omega
  have hi' : l + i < hh := by simp [hlen] at hi; omega
  obtain ⟨a, cs, hA, hx, hR, hc⟩ := h.at_ (l + i) (by omega)
  have hne : c ≠ l := by omega
  refine ⟨a.add (l * E.sz), cs, ?_, by rw [add_block]; exact hx, ?_, ?_⟩
  · simp [sliceAddr, hne, hA]
  · have : ((ds.take hh).drop l)[i] = ds[l + i]'(by omega) := by simp
    rw [this]; exact hR
  · rw [add_add, ← Nat.add_mul]; exact hc
end

def sliceK {α : Type} (E : Kd α) : Kd (List α) where
  sz := 1
  R := fun X w cs ds => ∃ A n c, cs = #[.slice A n c] ∧ SlR E X w A n c ds
  pos := by omega
  len := fun h => by obtain ⟨A, n, c, h, _⟩ := h; rw [h]; rfl
  one := fun h v hv => by obtain ⟨A, n, c, h, _⟩ := h; rw [h] at hv; simp at hv; subst hv; rfl
  ext := fun h hE hX => by obtain ⟨A, n, c, h, hs⟩ := h; exact ⟨A, n, c, h, hs.ext hE hX⟩

/-! ## Values -/
inductive Val where
  | mk (kind n : Int) (s : ByteArray) (kids : List Val)
def Val.kind : Val → Int | .mk k _ _ _ => k
def Val.n : Val → Int | .mk _ n _ _ => n
def Val.s : Val → ByteArray | .mk _ _ s _ => s
def Val.kids : Val → List Val | .mk _ _ _ k => k

inductive ValR (X : Nat → Prop) (w : World) : Array Value → Val → Prop where
  | mk {kind n : Int} {s : ByteArray} {kids : List Val} {A : Option Addr} {len c : Nat} (hk : intOk kind) (hn : intOk n) (hs : s.size ≤ maxLen) (hlen : kids.length = len) (hlc : len ≤ c) (hc : c ≤ maxLen) (hnc : A = none → c = 0)
      (f : Nat → Array Value) (a : Addr) (hA : 0 < len → A = some a ∧ ¬ X a.block) (hf : ∀ i, i < len → CellsAt w (a.add (i * 4)) (f i)) (hr : ∀ i (h : i < kids.length), ValR X w (f i) kids[i]) :
      ValR X w #[.int .i64 kind, .int .i64 n, .string s, .slice A len c] (.mk kind n s kids)
theorem ValR.size {X : Nat → Prop} {w : World} {cs : Array Value} {v : Val} (h : ValR X w cs v) : cs.size = 4 := by cases h; rfl
theorem ValR.ext {X X' : Nat → Prop} {w w' : World} {cs : Array Value} {v : Val} (h : ValR X w cs v) (hE : Ext X w w') (hX : Upd X X' w) : ValR X' w' cs v := by
  induction h with
  | mk hk hn hs hlen hlc hc hnc f a hA hf hr ih =>
    rename_i kind n s kids A len c
    refine .mk hk hn hs hlen hlc hc hnc f a (fun h0 => ?_) (fun i hi => ?_) ih
    · obtain ⟨h1, h2⟩ := hA h0
      refine ⟨h1, fun hx => ?_⟩
      have hsz := (hr 0 (by omega)).size
      have hlt := cellsAt_lt (hf 0 h0) (by omega)
      rw [add_block] at hlt
      rcases hX _ hx with h3 | h3
      · exact h2 h3
      · omega
    · obtain ⟨_, h2⟩ := hA (by omega)
      exact hE.cells (hf i hi) (by rw [add_block]; exact h2)
def valK : Kd Val where
  sz := 4
  R := ValR
  pos := by omega
  len := fun h => h.size
  one := fun h v hv => by
    cases h
    simp at hv
    rcases hv with rfl | rfl | rfl | rfl <;> rfl
  ext := fun h hE hX => h.ext hE hX
theorem ValR.open {X : Nat → Prop} {w : World} {cs : Array Value} {v : Val} (h : ValR X w cs v) :
    ∃ A c, cs = #[.int .i64 v.kind, .int .i64 v.n, .string v.s, .slice A v.kids.length c] ∧ intOk v.kind ∧ intOk v.n ∧ v.s.size ≤ maxLen ∧ SlR valK X w A v.kids.length c v.kids := by
  cases h with
  | mk hk hn hs hlen hlc hc hnc f a hA hf hr =>
    rename_i kind n s kids A len c
    subst hlen
    refine ⟨A, c, rfl, hk, hn, hs, rfl, hlc, hc, hnc, fun i hi => ?_⟩
    obtain ⟨h1, h2⟩ := hA (by simp only [Val.kids] at hi; omega)
    exact ⟨a, f i, h1, h2, hr i hi, hf i hi⟩
theorem ValR.close {X : Nat → Prop} {w : World} {kind n : Int} {s : ByteArray} {kids : List Val} {A : Option Addr} {len c : Nat} (hk : intOk kind) (hn : intOk n) (hs : s.size ≤ maxLen) (h : SlR valK X w A len c kids) :
    ValR X w #[.int .i64 kind, .int .i64 n, .string s, .slice A len c] (.mk kind n s kids) := by
  by_cases h0 : 0 < kids.length
  · obtain ⟨a, cs0, hA, hx, _, _⟩ := h.at_ 0 h0
    have hex : ∀ i, ∃ cs : Array Value, ∀ (hi : i < kids.length), ValR X w cs kids[i] ∧ CellsAt w (a.add (i * 4)) cs := by
      intro i
      by_cases hi : i < kids.length
      · obtain ⟨a', cs, hA', _, hR, hc⟩ := h.at_ i hi
        rw [hA] at hA'
        cases hA'
        exact ⟨cs, fun _ => ⟨hR, hc⟩⟩
      · exact ⟨#[], fun h => absurd h hi⟩
    refine .mk hk hn hs h.len h.cap h.max h.nilc (fun i => (hex i).choose) a (fun _ => ⟨hA, hx⟩) (fun i hi => ?_) (fun i hi => ?_)
    · exact ((hex i).choose_spec (by rw [h.len]; exact hi)).2
    · exact ((hex i).choose_spec hi).1
  · refine .mk hk hn hs h.len h.cap h.max h.nilc (fun _ => #[]) default (fun hl => absurd hl (by have := h.len; omega)) (fun i hi => absurd hi (by have := h.len; omega)) (fun i hi => absurd hi (by omega))

/-! ## Nodes -/
structure Nod where
  kind : Int
  name : ByteArray
  lo : Int
  hi : Int
  weights : List Int
  labels : List ByteArray
  values : List Val
  kids : List Int
  value : Val
structure NodeR (X : Nat → Prop) (w : World) (cs : Array Value) (x : Nod) : Prop where
  ex : ∃ A1 c1 A2 c2 A3 c3 A4 c4 A5 c5, cs = #[.int .i64 x.kind, .string x.name, .int .i64 x.lo, .int .i64 x.hi, .slice A1 x.weights.length c1, .slice A2 x.labels.length c2,
      .slice A3 x.values.length c3, .slice A4 x.kids.length c4, .int .i64 x.value.kind, .int .i64 x.value.n, .string x.value.s, .slice A5 x.value.kids.length c5] ∧
    SlR intK X w A1 x.weights.length c1 x.weights ∧ SlR strK X w A2 x.labels.length c2 x.labels ∧ SlR valK X w A3 x.values.length c3 x.values ∧ SlR intK X w A4 x.kids.length c4 x.kids ∧
    SlR valK X w A5 x.value.kids.length c5 x.value.kids
  kind : intOk x.kind
  name : x.name.size ≤ maxLen
  lo : intOk x.lo
  hi : intOk x.hi
  vk : intOk x.value.kind
  vn : intOk x.value.n
  vs : x.value.s.size ≤ maxLen
theorem NodeR.ext {X X' : Nat → Prop} {w w' : World} {cs : Array Value} {x : Nod} (h : NodeR X w cs x) (hE : Ext X w w') (hX : Upd X X' w) : NodeR X' w' cs x := by
  obtain ⟨⟨A1, c1, A2, c2, A3, c3, A4, c4, A5, c5, hcs, h1, h2, h3, h4, h5⟩, a, b, c, d, e, f, g⟩ := h
  exact ⟨⟨A1, c1, A2, c2, A3, c3, A4, c4, A5, c5, hcs, h1.ext hE hX, h2.ext hE hX, h3.ext hE hX, h4.ext hE hX, h5.ext hE hX⟩, a, b, c, d, e, f, g⟩
def nodeK : Kd Nod where
  sz := 12
  R := NodeR
  pos := by omega
  len := fun h => by obtain ⟨⟨A1, c1, A2, c2, A3, c3, A4, c4, A5, c5, hcs, _⟩, _⟩ := h; rw [hcs]; rfl
  one := fun h v hv => by
    obtain ⟨⟨A1, c1, A2, c2, A3, c3, A4, c4, A5, c5, hcs, _⟩, _⟩ := h
    rw [hcs] at hv
    simp at hv
    rcases hv with rfl | rfl | rfl | rfl | rfl | rfl | rfl | rfl | rfl | rfl | rfl | rfl <;> rfl
  ext := fun h hE hX => h.ext hE hX
end Go.GX
