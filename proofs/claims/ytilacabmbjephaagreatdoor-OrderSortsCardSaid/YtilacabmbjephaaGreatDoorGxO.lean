/- Rows of the call's own that grow: as data. -/
import Derived.Test.YtilacabmbjephaaGreatDoorGxN
import Derived.ArgAppend
import Derived.Laws.OwnMore
import Derived.Laws.Cover3
namespace Go.GX
set_option linter.unusedVariables false

/-! ## Two lists side by side -/
def All2 {β α : Type} (R : β → α → Prop) : List β → List α → Prop
  | [], [] => True
  | b :: bs, a :: as => R b a ∧ All2 R bs as
  | _, _ => False
theorem All2.len {β α : Type} {R : β → α → Prop} : ∀ {bs : List β} {as : List α}, All2 R bs as → bs.length = as.length
  | [], [], _ => rfl
  | _ :: _, _ :: _, h => by simp [All2.len h.2]
  | [], _ :: _, h => h.elim
  | _ :: _, [], h => h.elim
theorem All2.mono {β α : Type} {R R' : β → α → Prop} (hR : ∀ b a, R b a → R' b a) : ∀ {bs : List β} {as : List α}, All2 R bs as → All2 R' bs as
  | [], [], _ => trivial
  | _ :: _, _ :: _, h => ⟨hR _ _ h.1, All2.mono hR h.2⟩
  | [], _ :: _, h => h.elim
  | _ :: _, [], h => h.elim
theorem All2.append {β α : Type} {R : β → α → Prop} : ∀ {bs cs : List β} {as ds : List α}, All2 R bs as → All2 R cs ds → All2 R (bs ++ cs) (as ++ ds)
  | [], _, [], _, _, h => h
  | _ :: _, _, _ :: _, _, h1, h2 => ⟨h1.1, All2.append h1.2 h2⟩
  | [], _, _ :: _, _, h, _ => h.elim
  | _ :: _, _, [], _, h, _ => h.elim
theorem All2.get {β α : Type} {R : β → α → Prop} : ∀ {bs : List β} {as : List α}, All2 R bs as → ∀ i (h1 : i < bs.length) (h2 : i < as.length), R bs[i] as[i]
  | _ :: _, _ :: _, h, 0, _, _ => h.1
  | _ :: _, _ :: _, h, i + 1, h1, h2 => by simpa using All2.get h.2 i (by simpa using h1) (by simpa using h2)
  | [], [], _, _, h1, _ => absurd h1 (by simp)
  | [], _ :: _, h, _, _, _ => h.elim
  | _ :: _, [], h, _, _, _ => h.elim
theorem All2.of {β α : Type} {R : β → α → Prop} : ∀ {bs : List β} {as : List α}, bs.length = as.length → (∀ i (h1 : i < bs.length) (h2 : i < as.length), R bs[i] as[i]) → All2 R bs as
  | [], [], _, _ => trivial
  | _ :: bs, _ :: as, hl, h => ⟨h 0 (by simp) (by simp), All2.of (by simpa using hl) fun i h1 h2 => h (i + 1) (Nat.succ_lt_succ h1) (Nat.succ_lt_succ h2)⟩
  | [], _ :: _, hl, _ => by simp at hl
  | _ :: _, [], hl, _ => by simp at hl
theorem All2.set {β α : Type} {R : β → α → Prop} : ∀ {bs : List β} {as : List α}, All2 R bs as → ∀ i b a, R b a → All2 R (bs.set i b) (as.set i a)
  | [], [], _, _, _, _, _ => trivial
  | _ :: _, _ :: _, h, 0, _, _, hr => ⟨hr, h.2⟩
  | _ :: _, _ :: _, h, i + 1, _, _, hr => ⟨h.1, All2.set h.2 i _ _ hr⟩
  | [], _ :: _, h, _, _, _, _ => h.elim
  | _ :: _, [], h, _, _, _, _ => h.elim
theorem All2.take {β α : Type} {R : β → α → Prop} : ∀ {bs : List β} {as : List α}, All2 R bs as → ∀ i, All2 R (bs.take i) (as.take i)
  | [], [], _, _ => by simp [All2]
  | _ :: _, _ :: _, h, 0 => trivial
  | _ :: _, _ :: _, h, i + 1 => ⟨h.1, All2.take h.2 i⟩
  | [], _ :: _, h, _ => h.elim
  | _ :: _, [], h, _ => h.elim

/-! ## Cells one after the other -/
def cat (css : List (Array Value)) : List Value := css.flatMap Array.toList
theorem cat_nil : cat [] = [] := rfl
theorem cat_cons (cs : Array Value) (css : List (Array Value)) : cat (cs :: css) = cs.toList ++ cat css := rfl
theorem cat_append (a b : List (Array Value)) : cat (a ++ b) = cat a ++ cat b := by simp [cat]
theorem cat_length {sz : Nat} : ∀ {css : List (Array Value)}, (∀ cs ∈ css, cs.size = sz) → (cat css).length = css.length * sz
  | [], _ => by simp [cat]
  | cs :: css, h => by
    rw [cat_cons, List.length_append, cat_length fun c hc => h c (by simp [hc]), List.length_cons, Nat.succ_mul, Array.length_toList, h cs (by simp)]
    omega
theorem cat_get {sz : Nat} : ∀ {css : List (Array Value)}, (∀ cs ∈ css, cs.size = sz) → ∀ (i j : Nat) (hi : i < css.length), j < sz → (cat css)[i * sz + j]? = (css[i])[j]?
  | [], _, i, _, hi, _ => absurd hi (by simp)
  | cs :: css, h, 0, j, _, hj => by
    rw [cat_cons, Nat.zero_mul, Nat.zero_add, List.getElem?_append_left (by rw [Array.length_toList, h cs (by simp)]; exact hj)]
    simp
  | cs :: css, h, i + 1, j, hi, hj => by
    have hs := h cs (by simp)
    rw [cat_cons, List.getElem?_append_right (by rw [Array.length_toList, hs, Nat.succ_mul]; omega), Array.length_toList, hs]
    have : (i + 1) * sz + j - sz = i * sz + j := by rw [Nat.succ_mul]; omega
    rw [this, cat_get (fun c hc => h c (by simp [hc])) i j (by simpa using hi) hj]
    simp
theorem cat_mem {css : List (Array Value)} {v : Value} (h : v ∈ cat css) : ∃ cs ∈ css, v ∈ cs.toList := by simpa [cat] using h

/-! ## The row -/
def own (A : Option Addr) : Nat → Prop := fun k => ∃ a, A = some a ∧ a.block = k
def Or' (X Y : Nat → Prop) : Nat → Prop := fun k => X k ∨ Y k
def Old (w : World) : Nat → Prop := fun k => k < w.heap.size
theorem own_none (k : Nat) : ¬ own none k := fun ⟨a, h, _⟩ => by simp at h

structure OwnR {α : Type} (E : Kd α) (e : TypeId) (b : Nat) (X : Nat → Prop) (w : World) (A : Option Addr) (n c : Nat) (ds : List α) : Prop where
  len : ds.length = n
  ex : ∃ css : List (Array Value), w.ownsRow b e E.sz (.slice A n c) n (cat css) ∧ All2 (E.R (Or' X (own A)) w) css ds

structure ElT {α : Type} (P : Program) (E : Kd α) (t e : TypeId) (bytes : Nat) : Prop where
  ht : P.underlying t = some (.slice e)
  hi : ∃ i z, P.info? e = some i ∧ i.zero = some z ∧ i.size = E.sz ∧ i.bytes = bytes ∧ z.cells.size = E.sz ∧ z.cells.all (·.oneCell') = true

def elB (P : Program) (sz t e bytes : Nat) : Bool :=
  match P.underlying t, P.info? e with
  | some (.slice e'), some i => Nat.beq e' e && (match i.zero with
    | some z => Nat.beq i.size sz && (Nat.beq i.bytes bytes && (Nat.beq z.cells.size sz && z.cells.all (·.oneCell')))
    | none => false)
  | _, _ => false
theorem ElT.of {α : Type} {P : Program} {E : Kd α} {t e bytes : Nat} (h : elB P E.sz t e bytes = true) : ElT P E t e bytes := by
  unfold elB at h
  split at h
  · rename_i e' i ht hi
    split at h
    · rename_i z hz
      simp only [Bool.and_eq_true] at h
      obtain ⟨h0, h1, h2, h3, h4⟩ := h
      obtain rfl := Nat.eq_of_beq_eq_true h0
      exact ⟨ht, i, z, hi, hz, Nat.eq_of_beq_eq_true h1, Nat.eq_of_beq_eq_true h2, Nat.eq_of_beq_eq_true h3, h4⟩
    · simp at h
  · cases h

section
variable {α : Type} {E : Kd α} {e t : TypeId} {b bytes : Nat} {X X' Y : Nat → Prop} {w w' w0 : World} {A B : Option Addr} {n c m d : Nat} {ds es : List α} {P : Program} {css : List (Array Value)}

theorem OwnR.nil (E : Kd α) (e : TypeId) (b : Nat) (X : Nat → Prop) (w : World) : OwnR E e b X w none 0 0 [] := ⟨rfl, [], World.ownsRow_nil _ _ _ _, trivial⟩
theorem OwnR.lt (h : OwnR E e b X w A n c ds) : ∀ k, own A k → b ≤ k ∧ k < w.heap.size := by
  obtain ⟨css, hr, _⟩ := h.ex
  rintro k ⟨a, rfl, rfl⟩
  exact hr.lt _ rfl
theorem OwnR.cssz (h : All2 (E.R X w) css ds) : ∀ cs ∈ css, cs.size = E.sz := by
  intro cs hcs
  obtain ⟨i, hi, rfl⟩ := List.getElem_of_mem hcs
  exact E.len (h.get i hi (by have := h.len; omega))
theorem OwnR.csone (h : All2 (E.R X w) css ds) : ∀ v ∈ cat css, v.oneCell' = true := by
  intro v hv
  obtain ⟨cs, hcs, hv⟩ := cat_mem hv
  obtain ⟨i, hi, rfl⟩ := List.getElem_of_mem hcs
  exact E.one (h.get i hi (by have := h.len; omega)) v hv
theorem OwnR.cap_le (h : OwnR E e b X w A n c ds) : n ≤ c ∧ c ≤ maxLen ∧ (A = none → c = 0) := by
  obtain ⟨css, hr, _⟩ := h.ex
  rcases hr.2 with ⟨h1, h2⟩ | ⟨g, cap, cur, h1, _, _, h2, h3, _⟩
  · simp at h1; obtain ⟨rfl, rfl, rfl⟩ := h1; simp [maxLen]
  · simp at h1; obtain ⟨rfl, rfl⟩ := h1; exact ⟨h2, h3, by simp⟩
/-- The row as one that is read. -/
theorem OwnR.sl' (h : OwnR E e b X w A n c ds) (hX : ∀ k, X' k → X k ∨ own A k) (hA : ∀ k, own A k → ¬ X' k) : SlR E X' w A n c ds := by
  have hc := h.cap_le
  obtain ⟨css, hr, ha⟩ := h.ex
  refine ⟨h.len, hc.1, hc.2.1, hc.2.2, fun i hi => ?_⟩
  have hl := ha.len
  have hlen := h.len
  rcases hr.2 with ⟨h1, h2⟩ | ⟨g, cap, cur, h1, _, _, _⟩
  · omega
  · simp at h1
    obtain ⟨rfl, rfl⟩ := h1
    refine ⟨_, css[i]'(by omega), rfl, hA g ⟨_, rfl, rfl⟩, E.ext (ha.get i (by omega) hi) (Ext.refl _ _) ?_, ?_⟩
    · exact fun k hk => .inl (hX k hk)
    · intro j v hj
      have hj' : j < (css[i]'(by omega)).size := (Array.getElem?_eq_some_iff.1 hj).1
      rw [OwnR.cssz ha _ (List.getElem_mem _)] at hj'
      rw [add_add]
      exact hr.cells (g := g) rfl _ _ ((cat_get (OwnR.cssz ha) i j (by omega) hj').trans hj)
theorem OwnR.sl (h : OwnR E e b X w A n c ds) (hX : ∀ k, X k → k < b) : SlR E X w A n c ds :=
  h.sl' (fun k hk => .inl hk) fun k hk hx => by have := (h.lt k hk).1; have := hX k hx; omega
theorem OwnR.sl0 (h : OwnR E e b X w A n c ds) : SlR E No w A n c ds := h.sl' (fun k hk => hk.elim) fun k _ hx => hx
/-- Elsewhere something has changed. -/
theorem OwnR.ext (h : OwnR E e b X w A n c ds) (hE : Ext Y w w') (hY : ∀ k, k < w.heap.size → Y k → X k) (hA : ∀ k, own A k → ¬ Y k) : OwnR E e b X w' A n c ds := by
  obtain ⟨css, hr, ha⟩ := h.ex
  refine ⟨h.len, css, ⟨hr.1, ?_⟩, ha.mono fun cs d hR => E.ext hR (hE.mono fun k hk hy => .inl (hY k hk hy)) (Upd.same _ _)⟩
  rcases hr.2 with hn | ⟨g, cap, cur, h1, hb, hg, rest⟩
  · exact .inl hn
  · refine .inr ⟨g, cap, cur, h1, hb, ?_, rest⟩
    simp at h1
    rw [hE.block g (Array.getElem?_eq_some_iff.1 hg).1 (hA g (by rw [h1.1]; exact ⟨_, rfl, rfl⟩))]
    exact hg
theorem OwnR.ext0 (h : OwnR E e b X w A n c ds) (hE : Ext No w w') : OwnR E e b X w' A n c ds := h.ext hE (fun _ _ h => h.elim) fun _ _ h => h
theorem OwnR.weak (h : OwnR E e b X w A n c ds) (hX : ∀ k, X' k → X k ∨ own A k ∨ w.heap.size ≤ k) : OwnR E e b X' w A n c ds := by
  obtain ⟨css, hr, ha⟩ := h.ex
  refine ⟨h.len, css, hr, ha.mono fun cs d hR => E.ext hR (Ext.refl _ _) ?_⟩
  rintro k (hk | hk)
  · rcases hX k hk with h | h | h
    · exact .inl (.inl h)
    · exact .inl (.inr h)
    · exact .inr h
  · exact .inl (.inr hk)
theorem Ext.own (hE : Ext Y w0 w) (h : OwnR E e w0.heap.size X w A n c ds) (hE2 : Ext (own A) w w') : Ext Y w0 w' :=
  hE.trans' hE2 fun k hk ho => by have := (h.lt k ho).1; omega

/-- Cells behind one address. -/
theorem news_of {css : List (Array Value)} {a : Addr} (hs : ∀ cs ∈ css, cs.size = E.sz) (h : ∀ i (hi : i < css.length), CellsAt w (a.add (i * E.sz)) css[i]) :
    ∀ j u, (cat css)[j]? = some u → w.cell? (a.add j) = some u := by
  intro j u hj
  have hp := E.pos
  have hjl := (List.getElem?_eq_some_iff.1 hj).1
  rw [cat_length hs] at hjl
  have hi : j / E.sz < css.length := Nat.div_lt_of_lt_mul (by rw [Nat.mul_comm]; exact hjl)
  have hjj : j / E.sz * E.sz + j % E.sz = j := by rw [Nat.mul_comm]; exact Nat.div_add_mod j E.sz
  have := cat_get hs (j / E.sz) (j % E.sz) hi (Nat.mod_lt _ hp)
  rw [hjj, hj] at this
  have h2 := h _ hi _ _ this.symm
  rwa [add_add, hjj] at h2

/-- append of cells that lie somewhere. -/
theorem OwnR.app' (h : OwnR E e b X w A n c ds) (T : ElT P E t e bytes) {a : Addr} {css : List (Array Value)} (hc : ∀ i (hi : i < css.length), CellsAt w (a.add (i * E.sz)) css[i])
    (hall : All2 (E.R (Or' X (own A)) w) css es) (hb : b ≤ w.heap.size) (hn : n + es.length ≤ maxLen) (hlen : (n + es.length) * bytes ≤ 140737488355328) {ty : TypeId} (m : Nat) (hm : m = es.length) {k : Value → World → Prop}
    (hk : ∀ A' c' w', Ext (own A) w w' → OwnR E e b X w' A' (n + es.length) c' (ds ++ es) → (∀ k, own A' k → own A k ∨ w.heap.size ≤ k) → k (.slice A' (n + es.length) c') w') :
    RunV P (Builtin.append_ #[t, t] ty #[.slice A n c, .slice (some a) m d]) w k := by
  subst hm
  obtain ⟨ht, i, z, hi, hz, hsz, hby, hzs, _⟩ := T
  obtain ⟨cs0, hr, h0⟩ := h.ex
  have hl := hall.len
  have hns : (cat css).length = es.length * E.sz := by rw [cat_length (OwnR.cssz hall), hl]
  have hnews := news_of (OwnR.cssz hall) hc
  have hone := OwnR.csone hall
  -- what is behind the step, from a row that is owned
  have fin : ∀ v' w', w.grownBy w' (Value.ownBlock (.slice A n c)) → w'.ownsRow b e E.sz v' (n + es.length) (cat cs0 ++ cat css) →
      (∀ A' c', v' = .slice A' (n + es.length) c' → ∀ k, own A' k → own A k ∨ w.heap.size ≤ k) → k v' w' := by
    intro v' w' hg ho hblk
    have hE : Ext (own A) w w' := (Ext.of_grown hg).mono fun k _ hk => by
      cases A with
      | none => simp [Value.ownBlock] at hk
      | some a => simp [Value.ownBlock] at hk; exact ⟨a, rfl, hk⟩
    have hv : ∃ A' c', v' = .slice A' (n + es.length) c' := by
      rcases ho.2 with ⟨rfl, h2⟩ | ⟨g, cap, cur, rfl, _⟩
      · exact ⟨none, 0, by rw [h2]⟩
      · exact ⟨_, _, rfl⟩
    obtain ⟨A', c', rfl⟩ := hv
    refine hk A' c' w' hE ⟨by simp [h.len], cs0 ++ css, by rw [cat_append]; exact ho, ?_⟩ (hblk A' c' rfl)
    refine ((h0.append hall).mono fun cs d hR => E.ext hR (hE.mono fun k _ hk => .inr hk) ?_)
    rintro k (hk | hk)
    · exact .inl (.inl hk)
    · rcases hblk A' c' rfl k hk with h | h
      · exact .inl (.inr h)
      · exact .inr h
  rcases hr.2 with ⟨h1, h2⟩ | ⟨g, cap, cur, h1, hbg, hg, hnc, hcm, hcs, htake⟩
  · simp at h1
    obtain ⟨rfl, rfl, rfl⟩ := h1
    have hnil : cat cs0 = [] := List.eq_nil_of_length_eq_zero (by simpa using hr.1)
    obtain ⟨v', w', hrun, hown, hgr, _⟩ := run_append_own (P := P) w w.heap.size t ty e i z E.sz bytes ht hi hz hsz hby hzs E.pos (.slice none 0 0) 0 [] (World.ownsRow_nil w _ e E.sz) a es.length d (cat css) hns hnews hone hn hlen (Nat.le_refl _)
    refine ⟨v', w', hrun, fin v' w' hgr ?_ ?_⟩
    · rw [hnil]
      refine ⟨hown.1, ?_⟩
      rcases hown.2 with hn | ⟨g, cap, cur, h1, h2, rest⟩
      · exact .inl hn
      · exact .inr ⟨g, cap, cur, h1, by omega, rest⟩
    · rintro A' c' rfl k ⟨a', rfl, rfl⟩
      exact .inr (hown.lt _ rfl).1
  · simp at h1
    obtain ⟨rfl, rfl⟩ := h1
    by_cases hroom : n + es.length ≤ c
    · obtain ⟨w', hrun, hown, hgr⟩ := run_append_fits (P := P) w b t ty e i E.sz ht hi hsz g n c (cat cs0) hr a es.length d (cat css) hns hnews hone hroom
      refine ⟨_, w', hrun, fin _ w' hgr hown ?_⟩
      intro A' c' hv
      simp at hv
      obtain ⟨rfl, rfl⟩ := hv
      exact fun k hk => .inl hk
    · obtain ⟨v', w', hrun, hown, hgr⟩ := run_append_arg_grows (P := P) w t ty e i z E.sz bytes ht hi hz hsz hby hzs E.pos ⟨g, 0, none⟩ n c (cat cs0) hr.1 (hr.cells (g := g) rfl) a es.length d (cat css) hns hnews (by omega) hn hlen
      refine ⟨v', w', hrun, fin v' w' ⟨hgr.os, hgr.tape, hgr.output, hgr.size, fun k hk _ => hgr.block k hk (by simp)⟩ ?_ ?_⟩
      · refine ⟨hown.1, ?_⟩
        rcases hown.2 with hn | ⟨g, cap, cur, h1, h2, rest⟩
        · exact .inl hn
        · exact .inr ⟨g, cap, cur, h1, by omega, rest⟩
      · rintro A' c' rfl k ⟨a', rfl, rfl⟩
        exact .inr (hown.lt _ rfl).1

/-- append of one element. -/
theorem OwnR.push' (h : OwnR E e b X w A n c ds) (T : ElT P E t e bytes) {v : Value} {cs : Array Value} {x : α} (hv : flat [v] = cs) (hR : E.R (Or' X (own A)) w cs x) (hb : b ≤ w.heap.size)
    (hn : n + 1 ≤ maxLen) (hlen : (n + 1) * bytes ≤ 140737488355328) {ty te : TypeId} {k : Value → World → Prop}
    (hk : ∀ A' c' w', Ext (own A) w w' → OwnR E e b X w' A' (n + 1) c' (ds ++ [x]) → (∀ k, own A' k → own A k ∨ w.heap.size ≤ k) → k (.slice A' (n + 1) c') w') :
    RunV P (Builtin.append_ #[t, t] ty #[.slice A n c, .slice (some ⟨w.heap.size, 0, none⟩) 1 1]) (w.alloc (.cells (flat [v]) te)) k := by
  subst hv
  have hE : Ext No w (w.alloc (.cells (flat [v]) te)) := (Ext.refl No w).alloc _
  refine (h.ext0 hE).app' T (css := [flat [v]]) (es := [x]) ?_ ⟨E.ext hR hE.no (Upd.same _ _), trivial⟩ (Nat.le_trans hb hE.size) hn hlen 1 rfl ?_
  · intro i hi j u hj
    obtain rfl : i = 0 := by simpa using hi
    rw [Nat.zero_mul, add_zero]
    have hadd : (⟨w.heap.size, 0, none⟩ : Addr).add j = ⟨w.heap.size, j, none⟩ := by unfold Addr.add; split <;> simp_all
    rw [hadd, cell_of_row _ w.heap.size j (flat [v]) te (0, 0) (heap_alloc_new w _)]
    simpa using hj
  · exact fun A' c' w' h1 h2 h3 => hk A' c' w' (h1.trans' (Ext.refl _ _) (fun _ _ h => h) |> fun h1 => (hE.no.trans h1)) h2 fun k hk => (h3 k hk).imp id fun h => Nat.le_trans hE.size h

/-- append of a slice. -/
theorem OwnR.many' (h : OwnR E e b X w A n c ds) (T : ElT P E t e bytes) (hs : SlR E (Or' X (own A)) w B m d es) (hb : b ≤ w.heap.size) (hn : n + m ≤ maxLen) (hlen : (n + m) * bytes ≤ 140737488355328) {ty : TypeId} {k : Value → World → Prop}
    (hk : ∀ A' c' w', Ext (own A) w w' → OwnR E e b X w' A' (n + m) c' (ds ++ es) → (∀ k, own A' k → own A k ∨ w.heap.size ≤ k) → k (.slice A' (n + m) c') w') :
    RunV P (Builtin.append_ #[t, t] ty #[.slice A n c, .slice B m d]) w k := by
  have hl := hs.len
  subst hl
  cases B with
  | none =>
    have h0 : es = [] := by
      apply Decidable.byContradiction
      intro hne
      obtain ⟨a, cs, hA, _⟩ := hs.at_ 0 (List.length_pos_iff.2 hne)
      simp at hA
    subst h0
    obtain rfl := hs.nilc rfl
    obtain ⟨css, hr, ha⟩ := h.ex
    obtain ⟨ht, i, z, hi, _⟩ := T
    refine ⟨_, _, run_append_owned_none (P := P) (w := w) b t ty e i E.sz ht hi _ n _ hr, ?_⟩
    exact hk A c w (Ext.refl _ _) (by simpa using h) fun k hk => .inl hk
  | some a =>
    have hex : ∀ i, ∃ cs : Array Value, ∀ (hi : i < es.length), E.R (Or' X (own A)) w cs es[i] ∧ CellsAt w (a.add (i * E.sz)) cs := by
      intro i
      by_cases hi : i < es.length
      · obtain ⟨a', cs, hA', _, hR, hc⟩ := hs.at_ i hi
        cases hA'
        exact ⟨cs, fun _ => ⟨hR, hc⟩⟩
      · exact ⟨#[], fun h => absurd h hi⟩
    refine h.app' T (css := (List.range es.length).map fun i => (hex i).choose) (es := es) ?_ ?_ hb hn hlen es.length rfl hk
    · intro i hi
      have hi' : i < es.length := by simpa using hi
      simp only [List.getElem_map, List.getElem_range]
      exact ((hex i).choose_spec hi').2
    · refine All2.of (by simp) fun i h1 h2 => ?_
      simp only [List.getElem_map, List.getElem_range]
      exact ((hex i).choose_spec h2).1
/-! The same, said less. -/
theorem OwnR.app (h : OwnR E e b X w A n c ds) (T : ElT P E t e bytes) {a : Addr} {css : List (Array Value)} (hc : ∀ i (hi : i < css.length), CellsAt w (a.add (i * E.sz)) css[i])
    (hall : All2 (E.R (Or' X (own A)) w) css es) (hb : b ≤ w.heap.size) (hn : n + es.length ≤ maxLen) (hlen : (n + es.length) * bytes ≤ 140737488355328) {ty : TypeId} (m : Nat) (hm : m = es.length) {k : Value → World → Prop}
    (hk : ∀ A' c' w', Ext (own A) w w' → OwnR E e b X w' A' (n + es.length) c' (ds ++ es) → k (.slice A' (n + es.length) c') w') :
    RunV P (Builtin.append_ #[t, t] ty #[.slice A n c, .slice (some a) m d]) w k :=
  h.app' T hc hall hb hn hlen m hm fun A' c' w' h1 h2 _ => hk A' c' w' h1 h2
theorem OwnR.push (h : OwnR E e b X w A n c ds) (T : ElT P E t e bytes) {v : Value} {cs : Array Value} {x : α} (hv : flat [v] = cs) (hR : E.R (Or' X (own A)) w cs x) (hb : b ≤ w.heap.size)
    (hn : n + 1 ≤ maxLen) (hlen : (n + 1) * bytes ≤ 140737488355328) {ty te : TypeId} {k : Value → World → Prop}
    (hk : ∀ A' c' w', Ext (own A) w w' → OwnR E e b X w' A' (n + 1) c' (ds ++ [x]) → k (.slice A' (n + 1) c') w') :
    RunV P (Builtin.append_ #[t, t] ty #[.slice A n c, .slice (some ⟨w.heap.size, 0, none⟩) 1 1]) (w.alloc (.cells (flat [v]) te)) k :=
  h.push' T hv hR hb hn hlen fun A' c' w' h1 h2 _ => hk A' c' w' h1 h2
theorem OwnR.many (h : OwnR E e b X w A n c ds) (T : ElT P E t e bytes) (hs : SlR E (Or' X (own A)) w B m d es) (hb : b ≤ w.heap.size) (hn : n + m ≤ maxLen) (hlen : (n + m) * bytes ≤ 140737488355328) {ty : TypeId} {k : Value → World → Prop}
    (hk : ∀ A' c' w', Ext (own A) w w' → OwnR E e b X w' A' (n + m) c' (ds ++ es) → k (.slice A' (n + m) c') w') :
    RunV P (Builtin.append_ #[t, t] ty #[.slice A n c, .slice B m d]) w k :=
  h.many' T hs hb hn hlen fun A' c' w' h1 h2 _ => hk A' c' w' h1 h2
end
/-! ## Elements of one cell, of an own row: read and replaced -/
section
variable {α : Type} {E : Kd α} {e : TypeId} {b : Nat} {X : Nat → Prop} {w : World} {A : Option Addr} {n c : Nat} {ds : List α}
theorem cat_set_one : ∀ {css : List (Array Value)} (hs : ∀ cs ∈ css, cs.size = 1) (i : Nat) (v : Value), cat (css.set i #[v]) = (cat css).set i v
  | [], _, _, _ => rfl
  | cs :: css, h, 0, v => by
    have hs := h cs (by simp)
    obtain ⟨u, rfl⟩ : ∃ u, cs = #[u] := ⟨cs[0], by apply Array.ext; simp [hs]; intro i h1 h2; simp at h2; subst h2; rfl⟩
    simp [cat]
  | cs :: css, h, i + 1, v => by
    have hs := h cs (by simp)
    obtain ⟨u, rfl⟩ : ∃ u, cs = #[u] := ⟨cs[0], by apply Array.ext; simp [hs]; intro i h1 h2; simp at h2; subst h2; rfl⟩
    rw [List.set_cons_succ, cat_cons, cat_cons, cat_set_one (fun c hc => h c (by simp [hc])) i v]
    simp
theorem OwnR.free (h : OwnR E e b X w A n c ds) (i : Nat) : ∀ a, A = some a → w.frozen? (a.add i) = false := by
  rintro a rfl
  obtain ⟨css, hr, ha⟩ := h.ex
  have hf := hr
  rcases hr.2 with ⟨h1, h2⟩ | ⟨g, cap, cur, h1, _⟩
  · simp at h1
  · simp at h1
    obtain ⟨rfl, rfl⟩ := h1
    have hadd : (⟨g, 0, none⟩ : Addr).add i = ⟨g, i, none⟩ := by unfold Addr.add; split <;> simp_all
    rw [hadd]
    exact hf.frozenAt i
theorem OwnR.set1 (h : OwnR E e b X w A n c ds) (hs : E.sz = 1) {v : Value} {d : α} (i : Nat) (hi : i < n) (hR : E.R (Or' X (own A)) w #[v] d) :
    ∀ a, A = some a → OwnR E e b X (w.setCell (a.add (i * 1)) v) A n c (ds.set i d) ∧ Ext (own A) w (w.setCell (a.add (i * 1)) v) := by
  rintro a rfl
  have hE : Ext (own (some a)) w (w.setCell (a.add (i * 1)) v) := (Ext.refl _ _).setCell v fun _ => ⟨a, rfl, by rw [add_block]⟩
  refine ⟨?_, hE⟩
  obtain ⟨css, hr, ha⟩ := h.ex
  have hf := hr
  rcases hr.2 with ⟨h1, h2⟩ | ⟨g, cap, cur, h1, _⟩
  · simp at h1
  · simp at h1
    obtain ⟨rfl, rfl⟩ := h1
    have hadd : (⟨g, 0, none⟩ : Addr).add (i * 1) = ⟨g, i, none⟩ := by unfold Addr.add; split <;> simp_all
    rw [hadd] at hE ⊢
    refine ⟨by simp [h.len], css.set i #[v], ?_, ?_⟩
    · rw [cat_set_one (fun cs hcs => (OwnR.cssz ha cs hcs).trans hs)]
      exact (hf.stored i v).1
    · exact ((ha.set i _ _ hR).mono fun cs d hR => E.ext hR (hE.mono fun k _ hk => .inr hk) (Upd.same _ _))
end
section
variable {α : Type} {E : Kd α} {e : TypeId} {b : Nat} {X : Nat → Prop} {w : World} {A : Option Addr} {n c : Nat} {ds : List (List α)}
/-- A slice in an own row. -/
theorem OwnR.slice (h : OwnR (sliceK E) e b X w A n c ds) (i : Nat) (hi : i < n) :
    ∃ a A' n' c', A = some a ∧ w.cell? (a.add (i * 1)) = some (.slice A' n' c') ∧ SlR E (Or' X (own A)) w A' n' c' (ds.getD i []) := by
  obtain ⟨css, hr, ha⟩ := h.ex
  have hl := ha.len
  have hlen := h.len
  have hf := hr
  have hn := hr.1
  rcases hr.2 with ⟨h1, h2⟩ | ⟨g, cap, cur, h1, _⟩
  · omega
  · simp at h1
    obtain ⟨rfl, rfl⟩ := h1
    have hR := ha.get i (by omega) (by omega)
    obtain ⟨A', n', c', hcs, hs⟩ := hR
    refine ⟨_, A', n', c', rfl, ?_, ?_⟩
    · have h1 := cat_get (sz := 1) (OwnR.cssz ha) i 0 (by omega) (by omega)
      rw [hcs] at h1
      have := hf.cells (g := g) rfl (i * 1) (.slice A' n' c') (by simpa using h1)
      exact this
    · have : ds.getD i [] = ds[i]'(by omega) := by simp [show i < ds.length by omega]
      rw [this]; exact hs
theorem OwnR.setSlice (h : OwnR (sliceK E) e b X w A n c ds) {A' : Option Addr} {n' c' : Nat} {d : List α} (i : Nat) (hi : i < n) (hR : SlR E (Or' X (own A)) w A' n' c' d) :
    ∀ a, A = some a → OwnR (sliceK E) e b X (w.setCell (a.add (i * 1)) (.slice A' n' c')) A n c (ds.set i d) ∧ Ext (own A) w (w.setCell (a.add (i * 1)) (.slice A' n' c')) :=
  h.set1 rfl i hi ⟨A', n', c', rfl, hR⟩
end
section
variable {α : Type} {E : Kd α} {e t : TypeId} {b bytes : Nat} {X : Nat → Prop} {w : World} {A : Option Addr} {n c : Nat} {ds : List α} {P : Program}
theorem cat_take {sz : Nat} : ∀ {css : List (Array Value)} (hs : ∀ cs ∈ css, cs.size = sz) (k : Nat), (cat css).take (k * sz) = cat (css.take k)
  | [], _, _ => by simp [cat]
  | cs :: css, h, 0 => by simp [cat]
  | cs :: css, h, k + 1 => by
    have hs := h cs (by simp)
    rw [List.take_succ_cons, cat_cons, cat_cons, List.take_append, ← cat_take (fun c hc => h c (by simp [hc])) k]
    congr 1
    · rw [List.take_of_length_le (by rw [Array.length_toList, hs, Nat.succ_mul]; omega)]
    · congr 1
      rw [Array.length_toList, hs, Nat.succ_mul]
      omega
/-- The row's beginning. -/
theorem OwnR.take (h : OwnR E e b X w A n c ds) (k : Nat) (hk : k ≤ n) : OwnR E e b X w A k c (ds.take k) := by
  obtain ⟨css, hr, ha⟩ := h.ex
  refine ⟨by simp [h.len, hk], css.take k, ?_, ha.take k⟩
  have hs := OwnR.cssz ha
  have hlen : (cat (css.take k)).length = k * E.sz := by
    rw [cat_length (sz := E.sz) (fun cs hcs => hs cs (List.mem_of_mem_take hcs)), List.length_take, ha.len, h.len, Nat.min_eq_left hk]
  refine ⟨hlen, ?_⟩
  rcases hr.2 with ⟨h1, h2⟩ | ⟨g, cap, cur, h1, hb, hg, hnc, hcm, hcs, htake⟩
  · simp at h1
    obtain ⟨rfl, rfl, rfl⟩ := h1
    obtain rfl : k = 0 := by omega
    exact .inl ⟨rfl, rfl⟩
  · simp at h1
    obtain ⟨rfl, rfl⟩ := h1
    refine .inr ⟨g, c, cur, rfl, hb, hg, by omega, hcm, hcs, ?_⟩
    rw [← cat_take hs k, ← htake, List.take_take, Nat.min_eq_left (Nat.mul_le_mul_right _ hk)]
theorem OwnR.empty (E : Kd α) (e : TypeId) (b : Nat) (X : Nat → Prop) (w : World) (hb : b ≤ w.heap.size) : OwnR E e b X (w.alloc (.cells (flat []) e)) (some ⟨w.heap.size, 0, none⟩) 0 0 [] :=
  ⟨rfl, [], World.ownsRow_made w _ 0 hb (by simp [maxLen]) (by simp [flat]), trivial⟩
/-- clear(s[k:]) -/
theorem OwnR.clear (h : OwnR E e b X w A n c ds) (T : ElT P E t e bytes) (k : Nat) (hk : k ≤ n) {ty : TypeId} {K : Value → World → Prop}
    (hK : ∀ w', Ext (own A) w w' → OwnR E e b X w' A k c (ds.take k) → K (.tuple #[]) w') :
    RunV P (Builtin.clear_ #[t] ty #[.slice (sliceAddr A k c E.sz) (n - k) (c - k)]) w K := by
  obtain ⟨ht, i, z, hi, hz, hsz, hby, hzs, hz1⟩ := T
  have hE := E.pos
  by_cases h0 : n - k = 0
  · refine ⟨_, w, ?_, hK w (Ext.refl _ _) (h.take k hk)⟩
    rw [h0]
    cases hA : sliceAddr A k c E.sz <;> simp [Builtin.clear_, run_underlying ht]
  · have hcap := h.cap_le
    obtain ⟨m, hm⟩ : ∃ m, n - k = m + 1 := ⟨n - k - 1, by omega⟩
    have hT := h.take k hk
    obtain ⟨css, hr, ha⟩ := hT.ex
    rcases hr.2 with ⟨h1, h2⟩ | ⟨g, cap, cur, h1, hb, hg, hnc, hcm, hcs, htake⟩
    · simp at h1; omega
    · simp at h1
      obtain ⟨rfl, rfl⟩ := h1
      have hne : c ≠ k := by omega
      have hadd : sliceAddr (some ⟨g, 0, none⟩) k c E.sz = some ⟨g, k * E.sz, none⟩ := by
        simp only [sliceAddr, hne, if_false, Option.map_some]
        congr 1
        unfold Addr.add
        split <;> simp_all
      have hzl : (Builtin.zeroCells z.cells (n - k)).toList.length = (n - k) * E.sz := by rw [Array.length_toList, size_zeroCells, hzs]
      have hone : ∀ v ∈ (Builtin.zeroCells z.cells (n - k)).toList, v.oneCell' = true := by
        intro v hv
        simp only [Builtin.zeroCells, Array.toList_map, List.mem_map, Array.toList_range] at hv
        obtain ⟨j, hj, rfl⟩ := hv
        have hlt : j % z.cells.size < z.cells.size := Nat.mod_lt _ (by rw [hzs]; exact hE)
        rw [getElem!_pos z.cells _ hlt]
        exact Array.all_eq_true.1 hz1 _ hlt
      have hfit : k * E.sz + 0 + (Builtin.zeroCells z.cells (n - k)).toList.length ≤ cur.size := by
        rw [hzl, hcs, Nat.add_zero, ← Nat.add_mul]
        exact Nat.mul_le_mul_right _ (by omega)
      have hst := run_storeCells_at (P := P) g (k * E.sz) e _ 0 cur w hg hfit hone
      obtain ⟨C, hC⟩ : ∃ C, C = (cur.toList.take (k * E.sz + 0) ++ (Builtin.zeroCells z.cells (n - k)).toList ++ cur.toList.drop (k * E.sz + 0 + (Builtin.zeroCells z.cells (n - k)).toList.length)).toArray := ⟨_, rfl⟩
      rw [← hC] at hst
      refine ⟨.tuple #[], w.setRow g C, ?_, hK (w.setRow g C) ?_ ⟨hT.len, css, ⟨hr.1, .inr ⟨g, c, C, rfl, hb, setRow_heap w g cur C e _ hg, hnc, hcm, ?_, ?_⟩⟩, ?_⟩⟩
      · rw [hadd]
        rw [hm] at hst ⊢
        simp [Builtin.clear_, run_underlying ht, zeroValue, typeInfo, hi, hz, hst]
      · exact ⟨rfl, rfl, rfl, by simp, fun j _ hj => setRow_other w g j _ fun e => hj ⟨_, rfl, e.symm⟩⟩
      · rw [hzl] at hfit
        rw [hC]
        simp only [List.size_toArray, List.length_append, List.length_take, List.length_drop, Array.length_toList, hzl]
        omega
      · rw [hC]
        simp only [Nat.add_zero, List.append_assoc]
        rw [← htake, List.take_append_of_le_length (by rw [List.length_take, Array.length_toList]; omega), List.take_take, Nat.min_self]
      · exact ha.mono fun cs d hR => E.ext hR ((⟨rfl, rfl, rfl, by simp, fun j _ hj => setRow_other w g j _ fun e => hj (.inr ⟨_, rfl, e.symm⟩)⟩ : Ext (Or' X (own (some ⟨g, 0, none⟩))) w (w.setRow g C))) (Upd.same _ _)
/-- xs == nil -/
theorem nilTest {X : Nat → Prop} (hs : SlR E X w A n c ds) {ty : TypeId} (ht : P.underlying ty = some (.slice e)) {x y : Operand} {K : Value → World → Prop} (hK : K (.bool A.isNone) w) :
    RunV P (do eqGuard .eql ty x y (.slice A n c) (.slice none 0 0); binOp .eql ty (.slice A n c) (.slice none 0 0)) w K := by
  exact ⟨_, w, by simp [eqGuard, binOp, run_equal_slice_nil w ty e A n c ht], hK⟩
end
end Go.GX
