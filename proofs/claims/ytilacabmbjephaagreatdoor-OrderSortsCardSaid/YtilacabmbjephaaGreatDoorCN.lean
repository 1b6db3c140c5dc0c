/- Contracts: reading a path (walk), its spans: the walks. -/
import Derived.Test.YtilacabmbjephaaGreatDoorCL
namespace Go.Proofs.YtilacabmbjephaaGreatDoor
open Go Go.GX
set_option linter.unusedVariables false
set_option linter.unusedSimpArgs false

def endP (r : Except Stop (Val × St)) (n : Nat) : Int := match r with
  | .ok (_, st) => if st.outs.length < n then 11 else 0
  | .error _ => 0
def atP (r : Except Stop (Val × St)) : Int := match r with
  | .ok (_, st) => st.outs.length
  | .error _ => 0
set_option maxHeartbeats 1000000 in
theorem walk_ok {X : Nat → Prop} (cs : Array Value) (t : List Nod) (PA : Option Addr) (pn pc : Nat) (path : List Int) (w : World) (e : Int) (f : Nat) (o : Option (Val × St)) (nd er : Int)
    (ht : TreeR X w cs t) (hr : SlR intK X w PA pn pc path) (hX : ∀ k, X k → k < w.heap.size)
    (hval : ∀ w' cs' X', Ext No w w' → TreeR X' w' cs' t → Calls Tryz.prog 47 #[.agg cs'] w' (Fin w' fun v _ => v = .int .i64 e)) (hp : walkP t e path f = some (o, (nd, er))) :
    Calls Tryz.prog 52 #[.agg cs, .slice PA pn pc] w (Fin w fun v w' => ∃ p res, v = .tuple #[.pointer p, .agg res, .agg #[.int .i64 nd, .int .i64 er]] ∧ res.size = 4 ∧ (∀ v ∈ res.toList, v.oneCell' = true) ∧
      ∀ vl st, o = some (vl, st) → ValR X w' res vl ∧ ∃ g SA sc, p = some ⟨g, 0, none⟩ ∧ w'.cell? ⟨g, 3, none⟩ = some (.slice SA st.spans.length sc) ∧ SlR spanK (Old w) w' SA st.spans.length sc st.spans) := by
  apply c52
  unfold m52
  have ht0 := ht
  obtain ⟨TA, tc, rfl, hs⟩ := ht
  have hrl := hr.len
  subst hrl
  have hE1 : Ext No w (w.alloc (.cells #[.slice TA t.length tc] 40)) := (Ext.refl No w).alloc _
  have b1 : (w.alloc (.cells #[.slice TA t.length tc] 40)).heap[w.heap.size]? = some (.cells #[.slice TA t.length tc] 40) := heap_alloc_new w _
  have s1 : (w.alloc (.cells #[.slice TA t.length tc] 40)).heap.size = w.heap.size + 1 := by simp
  generalize w.alloc (.cells #[.slice TA t.length tc] 40) = w1 at hE1 b1 s1
  have hE2 : Ext No w1 (w1.alloc (.cells #[.slice PA path.length pc] 22)) := (Ext.refl No w1).alloc _
  have b2 : (w1.alloc (.cells #[.slice PA path.length pc] 22)).heap[w1.heap.size]? = some (.cells #[.slice PA path.length pc] 22) := heap_alloc_new w1 _
  have s2 : (w1.alloc (.cells #[.slice PA path.length pc] 22)).heap.size = w1.heap.size + 1 := by simp
  generalize w1.alloc (.cells #[.slice PA path.length pc] 22) = w2 at hE2 b2 s2
  have hE3 : Ext No w2 (w2.alloc (.cells #[.int .i64 0, .int .i64 0, .string ⟨#[]⟩, .slice none 0 0] 45)) := (Ext.refl No w2).alloc _
  have b3 : (w2.alloc (.cells #[.int .i64 0, .int .i64 0, .string ⟨#[]⟩, .slice none 0 0] 45)).heap[w2.heap.size]? = some (.cells #[.int .i64 0, .int .i64 0, .string ⟨#[]⟩, .slice none 0 0] 45) := heap_alloc_new w2 _
  have s3 : (w2.alloc (.cells #[.int .i64 0, .int .i64 0, .string ⟨#[]⟩, .slice none 0 0] 45)).heap.size = w2.heap.size + 1 := by simp
  generalize w2.alloc (.cells #[.int .i64 0, .int .i64 0, .string ⟨#[]⟩, .slice none 0 0] 45) = w3 at hE3 b3 s3
  have hE4 : Ext No w3 (w3.alloc (.cells #[.int .i64 0, .int .i64 0] 76)) := (Ext.refl No w3).alloc _
  have b4 : (w3.alloc (.cells #[.int .i64 0, .int .i64 0] 76)).heap[w3.heap.size]? = some (.cells #[.int .i64 0, .int .i64 0] 76) := heap_alloc_new w3 _
  have s4 : (w3.alloc (.cells #[.int .i64 0, .int .i64 0] 76)).heap.size = w3.heap.size + 1 := by simp
  generalize w3.alloc (.cells #[.int .i64 0, .int .i64 0] 76) = w4 at hE4 b4 s4
  have b1' := (((hE2.trans hE3).trans hE4).block _ (by omega) (fun h => h)).trans b1
  have b2' := ((hE3.trans hE4).block _ (by omega) (fun h => h)).trans b2
  have b3' := (hE4.block _ (by omega) (fun h => h)).trans b3
  have hw4 := ((hE1.trans hE2).trans hE3).trans hE4
  refine ⟨_, rfl, row_cells b1', Fin.use (hval w4 _ X hw4 (ht0.ext hw4.no (Upd.same _ _))) fun v w5 hE5 hv => ⟨_, hv, ?_⟩⟩
  have hw5 := hw4.trans hE5
  have z5 := hE5.size
  have c1 := (hE5.block _ (by omega) (fun h => h)).trans b1'
  have c2 := (hE5.block _ (by omega) (fun h => h)).trans b2'
  have c3 := (hE5.block _ (by omega) (fun h => h)).trans b3'
  have c4 := (hE5.block _ (by omega) (fun h => h)).trans b4
  unfold walkP at hp
  have one4 : ∀ v ∈ zero4.toList, v.oneCell' = true := by intro v hv; simp [zero4] at hv; rcases hv with rfl | rfl | rfl | rfl <;> rfl
  have one2 : ∀ a b : Int, ∀ v ∈ (#[.int .i64 a, .int .i64 b] : Array Value).toList, v.oneCell' = true := by intro a b v hv; simp at hv; rcases hv with rfl | rfl <;> rfl
  by_cases he : e = 0
  · subst he
    rw [if_neg (by simp)] at hp
    rw [if_neg (by simp)]
    refine ⟨_, rfl, row_cells c1, _, _, build70 _ _ _ w5, _, rfl, ?_⟩
    -- the reader, and the box of its pointer
    have hE6 : Ext No w5 (w5.alloc (.cells #[.slice TA t.length tc, .nilFunc, .int .i64 0, .slice none 0 0] 70)) := (Ext.refl No w5).alloc _
    have b6 : (w5.alloc (.cells #[.slice TA t.length tc, .nilFunc, .int .i64 0, .slice none 0 0] 70)).heap[w5.heap.size]? = some (.cells #[.slice TA t.length tc, .nilFunc, .int .i64 0, .slice none 0 0] 70) := heap_alloc_new w5 _
    have s6 : (w5.alloc (.cells #[.slice TA t.length tc, .nilFunc, .int .i64 0, .slice none 0 0] 70)).heap.size = w5.heap.size + 1 := by simp
    generalize w5.alloc (.cells #[.slice TA t.length tc, .nilFunc, .int .i64 0, .slice none 0 0] 70) = w6 at hE6 b6 s6
    have hE7 : Ext No w6 (w6.alloc (.cells #[.pointer none] 66)) := (Ext.refl No w6).alloc _
    have b7 : (w6.alloc (.cells #[.pointer none] 66)).heap[w6.heap.size]? = some (.cells #[.pointer none] 66) := heap_alloc_new w6 _
    have s7 : (w6.alloc (.cells #[.pointer none] 66)).heap.size = w6.heap.size + 1 := by simp
    generalize w6.alloc (.cells #[.pointer none] 66) = w7 at hE7 b7 s7
    have b7r : w7.heap[w5.heap.size]? = some (.cells #[.slice TA t.length tc, .nilFunc, .int .i64 0, .slice none 0 0] 70) := (hE7.block _ (by omega) (fun h => h)).trans b6
    refine ⟨⟨_, row_cell b7 0 _ rfl⟩, row_free b7 0, ?_⟩
    have hE8 : Ext (fun k => k = w6.heap.size) w7 (w7.setCell ⟨w6.heap.size, 0, none⟩ (.pointer (some ⟨w5.heap.size, 0, none⟩))) := (Ext.refl _ _).setCell _ fun _ => rfl
    have b8 := setCell_row (o := 0) (v := .pointer (some ⟨w5.heap.size, 0, none⟩)) b7
    have b8r := (hE8.block w5.heap.size (by omega) (show ¬ (w5.heap.size = w6.heap.size) by omega)).trans b7r
    have hE58 : Ext No w5 (w7.setCell ⟨w6.heap.size, 0, none⟩ (.pointer (some ⟨w5.heap.size, 0, none⟩))) := (hE6.trans hE7).setCell _ fun h => by simp at h; omega
    have s8 : (w7.setCell ⟨w6.heap.size, 0, none⟩ (.pointer (some ⟨w5.heap.size, 0, none⟩))).heap.size = w7.heap.size := by simp [World.setCell]
    generalize w7.setCell ⟨w6.heap.size, 0, none⟩ (.pointer (some ⟨w5.heap.size, 0, none⟩)) = w8 at hE8 b8 b8r hE58 s8
    refine ⟨_, row_cell b8 0 _ rfl, _, rfl, _, rfl, ⟨_, by rw [addr0]; exact row_cell b8r 1 _ rfl⟩, by rw [addr0]; exact row_free b8r 1, ?_⟩
    rw [addr0]
    generalize hcap : (#[.pointer (some ⟨w6.heap.size, 0, none⟩), .pointer (some ⟨w1.heap.size, 0, none⟩), .pointer (some ⟨w.heap.size, 0, none⟩)] : Array Value) = cap
    have hE9 : Ext (fun k => k = w5.heap.size) w8 (w8.setCell ⟨w5.heap.size, 1, none⟩ (.func (.func 79) #[] cap)) := (Ext.refl _ _).setCell _ fun _ => rfl
    have b9r := setCell_row (o := 1) (v := .func (.func 79) #[] cap) b8r
    have b9 := (hE9.block w6.heap.size (by omega) (show ¬ (w6.heap.size = w5.heap.size) by omega)).trans b8
    have hE59 : Ext No w5 (w8.setCell ⟨w5.heap.size, 1, none⟩ (.func (.func 79) #[] cap)) := hE58.setCell _ fun h => by simp at h
    have s9 : (w8.setCell ⟨w5.heap.size, 1, none⟩ (.func (.func 79) #[] cap)).heap.size = w8.heap.size := by simp [World.setCell]
    generalize w8.setCell ⟨w5.heap.size, 1, none⟩ (.func (.func 79) #[] cap) = w9 at hE9 b9r b9 hE59 s9
    have d1 := (hE59.block _ (by omega) (fun h => h)).trans c1
    have d2 := (hE59.block _ (by omega) (fun h => h)).trans c2
    have d3 := (hE59.block _ (by omega) (fun h => h)).trans c3
    have d4 := (hE59.block _ (by omega) (fun h => h)).trans c4
    have hw9 := hw5.trans hE59
    refine ⟨_, row_cell d1 0 _ rfl, _, _, _, rfl, ?_⟩
    by_cases h0 : t.length = 0
    · rw [if_pos h0] at hp
      rw [if_pos (by simp [h0])]
      simp only [Option.some.injEq, Prod.mk.injEq] at hp
      obtain ⟨rfl, rfl, rfl⟩ := hp
      refine ⟨_, row_cell b9 0 _ rfl, _, rfl, _, _, build450 _, _, rfl, _, _, build76 _ _ _, _, rfl, rfl, ?_⟩
      refine store_box d3 rfl one4 ⟨rfl, ?_⟩
      have hE10 := setRow_ext w9 w2.heap.size zero4
      have d4' : (w9.setRow w2.heap.size zero4).heap[w3.heap.size]? = some (.cells #[.int .i64 0, .int .i64 0] 76) := (hE10.block _ (by omega) (show ¬ (w3.heap.size = w2.heap.size) by omega)).trans d4
      refine store_box (cs := #[.int .i64 (-1), .int .i64 11]) d4' rfl (one2 (-1) 11) ⟨_, rfl, (setRow_ext _ _ _).cells (row_cells (setRow_new d3)) (show ¬ (w2.heap.size = w3.heap.size) by omega), _, rfl, row_cells (setRow_new d4'), Fin.ret ?_ ⟨_, _, rfl, rfl, one4, fun vl st h => by cases h⟩⟩
      exact (hw9.trans' hE10 fun k hk h => by omega).trans' (setRow_ext _ _ _) fun k hk h => by omega
    · rw [if_neg h0] at hp
      have hne : t ≠ [] := fun h => h0 (by rw [h]; rfl)
      rw [if_neg (by simpa using hne)]
      refine ⟨_, row_cell b9 0 _ rfl, _, rfl, ?_⟩
      have hF : WalkD ⟨w5.heap.size, TA, tc, t, 79, cap, fun k => X k ∨ w9.heap.size ≤ k ∨ k = w5.heap.size ∨ k = w2.heap.size ∨ k = w3.heap.size, w9.heap.size⟩ ⟨w6.heap.size, w1.heap.size, w.heap.size, PA, pc, path⟩ := by
        refine ⟨?_, ?_, ?_, rfl, hcap.symm⟩
        · rintro (h | h | h | h | h)
          · have := hX _ h; simp only [] at this; omega
          · simp only [] at h; omega
          · simp only [] at h; omega
          · simp only [] at h; omega
          · simp only [] at h; omega
        · rintro (h | h | h | h | h)
          · have := hX _ h; simp only [] at this; omega
          · simp only [] at h; omega
          · simp only [] at h; omega
          · simp only [] at h; omega
          · simp only [] at h; omega
        · rintro (h | h | h | h | h)
          · have := hX _ h; simp only [] at this; omega
          · simp only [] at h; omega
          · simp only [] at h; omega
          · simp only [] at h; omega
          · simp only [] at h; omega
      have hXup : Upd X (fun k => X k ∨ w9.heap.size ≤ k ∨ k = w5.heap.size ∨ k = w2.heap.size ∨ k = w3.heap.size) w := by
        rintro k (h | h | h | h | h)
        · exact .inl h
        · exact .inr (by omega)
        · exact .inr (by omega)
        · exact .inr (by omega)
        · exact .inr (by omega)
      have hC : Cfg ⟨w5.heap.size, TA, tc, t, 79, cap, fun k => X k ∨ w9.heap.size ≤ k ∨ k = w5.heap.size ∨ k = w2.heap.size ∨ k = w3.heap.size, w9.heap.size⟩ (WalkJ ⟨w5.heap.size, TA, tc, t, 79, cap, fun k => X k ∨ w9.heap.size ≤ k ∨ k = w5.heap.size ∨ k = w2.heap.size ∨ k = w3.heap.size, w9.heap.size⟩ ⟨w6.heap.size, w1.heap.size, w.heap.size, PA, pc, path⟩) ⟨[], []⟩ w9 none 0 No := by
        refine ⟨row_cell b9r 0 _ rfl, row_cell b9r 1 _ rfl, row_cell b9r 2 _ rfl, row_cell b9r 3 _ rfl, fun j => row_free b9r j, OwnR.nil _ _ _ _ _, ?_, hs.ext hw9.no hXup, .inr (.inr (.inl rfl)), fun k h => h.elim, fun k h => h.elim, ?_, fun k h => .inr (.inl h), fun h => h, fun k h => (own_none k h).elim, Nat.le_refl _⟩
        · exact ⟨rfl, row_cell b9 0 _ rfl, row_cell d2 0 _ rfl, row_cell d1 0 _ rfl, hr.ext hw9.no hXup⟩
        · show w5.heap.size < w9.heap.size
          omega
      have hex : ∃ r, readP t (chWalk t path) f (t.length - 1) ⟨[], []⟩ = some r := by
        cases h : readP t (chWalk t path) f (t.length - 1) ⟨[], []⟩ with
        | none => rw [h] at hp; cases hp
        | some r => exact ⟨r, rfl⟩
      obtain ⟨r, hrd⟩ := hex
      rw [hrd] at hp
      have old : ∀ k, k < w9.heap.size → blk ⟨w5.heap.size, TA, tc, t, 79, cap, fun k => X k ∨ w9.heap.size ≤ k ∨ k = w5.heap.size ∨ k = w2.heap.size ∨ k = w3.heap.size, w9.heap.size⟩ none No k → k = w5.heap.size := by
        rintro k hk (h | h | h)
        · exact h
        · exact (own_none k h).elim
        · exact h.elim
      refine (run_ok (walkM hF) (walkCh hF) hC (by show 0 < t.length; omega) hrd).mono fun ee w10 hQ => ?_
      cases ee with
      | outgrown => exact hQ
      | panicked chn => exact hQ
      | returned v =>
        -- what both ways share
        have share : ∃ res : Array Value, ∃ nd' er' : Int, v = .tuple #[.agg res, .agg #[.int .i64 nd', .int .i64 er']] ∧ res.size = 4 ∧ (∀ v ∈ res.toList, v.oneCell' = true) ∧ Ext (fun k => k = w5.heap.size) w9 w10 ∧
            (er' = 0 → nd' < 0 → w10.cell? ⟨w5.heap.size, 2, none⟩ = some (.int .i64 (atP r))) ∧
            nd = nd' ∧ er = (if er' = 0 ∧ nd' < 0 then endP r path.length else er') ∧
            (er' = 0 → nd' < 0 → ∃ q, r = .ok q) ∧
            ∀ vl st, o = some (vl, st) → ValR (fun k => X k ∨ k = w2.heap.size ∨ k = w3.heap.size) w10 res vl ∧ ∃ SA sc, w10.cell? ⟨w5.heap.size, 3, none⟩ = some (.slice SA st.spans.length sc) ∧ SlR spanK (Old w9) w10 SA st.spans.length sc st.spans := by
          cases r with
          | ok q =>
            obtain ⟨vl, st⟩ := q
            obtain ⟨res, SA', sc', BC', rfl, hV, hC', hU', hE'⟩ := hQ
            simp only [Option.some.injEq, Prod.mk.injEq] at hp
            obtain ⟨rfl, rfl, rfl⟩ := hp
            refine ⟨res, -1, 0, rfl, hV.size, valK.one hV, hE'.mono (fun k hk h => old k hk h), fun _ _ => hC'.c2, rfl, by simp [endP], fun _ _ => ⟨_, rfl⟩, ?_⟩
            intro vl' st' h
            simp only [Option.some.injEq, Prod.mk.injEq] at h
            obtain ⟨rfl, rfl⟩ := h
            refine ⟨hV.ext (Ext.refl _ _) fun k hk => .inl (.inl ⟨?_, ?_⟩), SA', sc', hC'.c3, ?_⟩
            · rcases hk with h | h | h
              · exact .inl h
              · exact .inr (.inr (.inr (.inl h)))
              · exact .inr (.inr (.inr (.inr h)))
            · rcases hk with h | h | h
              · have := hX k h
                have := hw9.size
                omega
              · omega
              · omega
            · refine (own_weakX (fun h => h) hC'.sp (Y := Old w9)).sl' (fun k hk => .inl hk) fun k hk ho => ?_
              have h1 := (hC'.sp.lt k hk).1
              have h2 : k < w9.heap.size := ho
              simp only [] at h1
              omega
          | error q =>
            obtain ⟨nd', er'⟩ := q
            obtain ⟨rfl, hE'⟩ := hQ
            simp only [Option.some.injEq, Prod.mk.injEq] at hp
            obtain ⟨rfl, rfl, rfl⟩ := hp
            obtain ⟨i, n, hch⟩ := readP_err _ _ _ _ hrd
            have hnn : er' = 0 → 0 ≤ nd' := by
              rcases chWalk_err hch with h | h
              · simp only [Prod.mk.injEq] at h
                omega
              · simp only [Prod.mk.injEq] at h
                omega
            refine ⟨zero4, nd', er', rfl, rfl, one4, hE'.mono (fun k hk h => old k hk h), fun h1 h2 => by have := hnn h1; omega, rfl, ?_, fun h1 h2 => by have := hnn h1; omega, fun vl st h => by cases h⟩
            rw [if_neg]
            rintro ⟨h1, h2⟩
            have := hnn h1
            omega
        obtain ⟨res, nd', er', rfl, hres, hone, hE10, hat, rfl, rfl, hkind, hgood⟩ := share
        refine ⟨_, _, rfl, res, rfl, _, rfl, hres, ?_⟩
        -- the boxes of what run has returned
        have hE11 : Ext No w10 (w10.alloc (.cells #[.int .i64 0, .int .i64 0, .string ⟨#[]⟩, .slice none 0 0] 45)) := (Ext.refl No w10).alloc _
        have b11 : (w10.alloc (.cells #[.int .i64 0, .int .i64 0, .string ⟨#[]⟩, .slice none 0 0] 45)).heap[w10.heap.size]? = some (.cells #[.int .i64 0, .int .i64 0, .string ⟨#[]⟩, .slice none 0 0] 45) := heap_alloc_new w10 _
        have s11 : (w10.alloc (.cells #[.int .i64 0, .int .i64 0, .string ⟨#[]⟩, .slice none 0 0] 45)).heap.size = w10.heap.size + 1 := by simp
        generalize w10.alloc (.cells #[.int .i64 0, .int .i64 0, .string ⟨#[]⟩, .slice none 0 0] 45) = w11 at hE11 b11 s11
        have hE12 : Ext No w11 (w11.alloc (.cells #[.int .i64 0, .int .i64 0] 76)) := (Ext.refl No w11).alloc _
        have b12 : (w11.alloc (.cells #[.int .i64 0, .int .i64 0] 76)).heap[w11.heap.size]? = some (.cells #[.int .i64 0, .int .i64 0] 76) := heap_alloc_new w11 _
        have s12 : (w11.alloc (.cells #[.int .i64 0, .int .i64 0] 76)).heap.size = w11.heap.size + 1 := by simp
        generalize w11.alloc (.cells #[.int .i64 0, .int .i64 0] 76) = w12 at hE12 b12 s12
        have b12v := (hE12.block _ (by omega) (fun h => h)).trans b11
        refine store_box b12v (by rw [hres]; rfl) hone ⟨rfl, ?_⟩
        have hE13 := setRow_ext w12 w10.heap.size res
        have b13v := setRow_new (cs := res) b12v
        have b13s : (w12.setRow w10.heap.size res).heap[w11.heap.size]? = some (.cells #[.int .i64 0, .int .i64 0] 76) := (hE13.block _ (by omega) (show ¬ (w11.heap.size = w10.heap.size) by omega)).trans b12
        have s13 : (w12.setRow w10.heap.size res).heap.size = w12.heap.size := by simp
        generalize w12.setRow w10.heap.size res = w13 at hE13 b13v b13s s13
        refine store_box (cs := #[.int .i64 nd, .int .i64 er']) b13s rfl (one2 nd er') ?_
        have hE14 := setRow_ext w13 w11.heap.size #[.int .i64 nd, .int .i64 er']
        have b14s := setRow_new (cs := #[.int .i64 nd, .int .i64 er']) b13s
        have b14v : (w13.setRow w11.heap.size #[.int .i64 nd, .int .i64 er']).heap[w10.heap.size]? = some (.cells res 45) := (hE14.block _ (by omega) (show ¬ (w10.heap.size = w11.heap.size) by omega)).trans b13v
        have s14 : (w13.setRow w11.heap.size #[.int .i64 nd, .int .i64 er']).heap.size = w13.heap.size := by simp
        generalize w13.setRow w11.heap.size #[.int .i64 nd, .int .i64 er'] = w14 at hE14 b14s b14v s14
        have z10 := hE10.size
        have hE10_14 : Ext No w10 w14 := (((hE11.trans hE12).trans' hE13 fun k hk h => by omega).trans' hE14 fun k hk h => by omega)
        have hd : Ext No w14 w14.drew := (Ext.refl No w14).drew
        -- the rest, behind the test
        have g3 := ((hE10.block w2.heap.size (by omega) (show ¬ (w2.heap.size = w5.heap.size) by omega)).trans d3)
        have g4 := ((hE10.block w3.heap.size (by omega) (show ¬ (w3.heap.size = w5.heap.size) by omega)).trans d4)
        have g9 := ((hE10.block w6.heap.size (by omega) (show ¬ (w6.heap.size = w5.heap.size) by omega)).trans b9)
        have hall : ∀ (w15 : World) (er'' : Int), Ext (fun k => k = w11.heap.size) w14 w15 → w15.heap[w11.heap.size]? = some (.cells #[.int .i64 nd, .int .i64 er''] 76) →
            er'' = (if er' = 0 ∧ nd < 0 then endP r path.length else er') →
            m52_K1 (Fin w fun v w' => ∃ p res, v = .tuple #[.pointer p, .agg res, .agg #[.int .i64 nd, .int .i64 (if er' = 0 ∧ nd < 0 then endP r path.length else er')]] ∧ res.size = 4 ∧ (∀ v ∈ res.toList, v.oneCell' = true) ∧
              ∀ vl st, o = some (vl, st) → ValR X w' res vl ∧ ∃ g SA sc, p = some ⟨g, 0, none⟩ ∧ w'.cell? ⟨g, 3, none⟩ = some (.slice SA st.spans.length sc) ∧ SlR spanK (Old w) w' SA st.spans.length sc st.spans)
              ⟨w2.heap.size, 0, none⟩ ⟨w3.heap.size, 0, none⟩ ⟨w6.heap.size, 0, none⟩ ⟨w10.heap.size, 0, none⟩ ⟨w11.heap.size, 0, none⟩ w15 := by
          intro w15 er'' hE15 b15 her
          have up : ∀ {k o}, k < w10.heap.size → w10.heap[k]? = some o → w15.heap[k]? = some o := fun hk h => (hE15.block _ (by omega) (by show ¬ (_ = w11.heap.size); omega)).trans ((hE10_14.block _ hk (fun h => h)).trans h)
          have b15v : w15.heap[w10.heap.size]? = some (.cells res 45) := (hE15.block _ (by omega) (show ¬ (w10.heap.size = w11.heap.size) by omega)).trans b14v
          refine walk_fin (gr := w6.heap.size) (row_cell (up (by omega) g9) 0 _ rfl) b15v b15 (up (by omega) g3) (up (by omega) g4) rfl rfl hres rfl hone (one2 _ _) (by omega) (by omega) (by omega) (by omega) fun w' hE' => ?_
          have hEw : Ext No w10 w15 := hE10_14.trans' hE15 fun k hk h => by omega
          have hE10' : Ext (fun k => k = w2.heap.size ∨ k = w3.heap.size) w10 w' := hEw.no.trans hE'
          refine Fin.ret ((((hw9.trans' hE10 fun k hk h => by omega).trans hEw).trans' hE' fun k hk h => by omega)) ⟨_, res, by rw [← her], hres, hone, fun vl st h => ?_⟩
          obtain ⟨hV, SA, sc, h3, hs3⟩ := hgood vl st h
          have n5 : ¬ (w5.heap.size = w2.heap.size ∨ w5.heap.size = w3.heap.size) := by omega
          refine ⟨?_, w5.heap.size, SA, sc, rfl, hE10'.cell h3 n5, ?_⟩
          · have hE10'' : Ext (fun k => X k ∨ k = w2.heap.size ∨ k = w3.heap.size) w10 w' := hE10'.mono fun k _ h => .inr h
            exact hV.ext hE10'' fun k hk => .inl (.inl hk)
          · refine (hs3.ext (hE10'.mono (Y := Old w9) fun k _ h => ?_) (Upd.same _ _)).mono fun k hk => ?_
            · show k < w9.heap.size
              rcases h with h | h <;> omega
            · have : k < w.heap.size := hk
              show k < w9.heap.size
              omega
        have K2 : ∀ b : Bool, (b = true → (11 : Int) = (if er' = 0 ∧ nd < 0 then endP r path.length else er')) → (b = false → er' = (if er' = 0 ∧ nd < 0 then endP r path.length else er')) → m52_K2 (Fin w fun v w' => ∃ p res, v = .tuple #[.pointer p, .agg res, .agg #[.int .i64 nd, .int .i64 (if er' = 0 ∧ nd < 0 then endP r path.length else er')]] ∧ res.size = 4 ∧ (∀ v ∈ res.toList, v.oneCell' = true) ∧
              ∀ vl st, o = some (vl, st) → ValR X w' res vl ∧ ∃ g SA sc, p = some ⟨g, 0, none⟩ ∧ w'.cell? ⟨g, 3, none⟩ = some (.slice SA st.spans.length sc) ∧ SlR spanK (Old w) w' SA st.spans.length sc st.spans)
              ⟨w2.heap.size, 0, none⟩ ⟨w3.heap.size, 0, none⟩ ⟨w6.heap.size, 0, none⟩ ⟨w10.heap.size, 0, none⟩ ⟨w11.heap.size, 0, none⟩ b w14.drew := by
          intro b hb hb2
          unfold m52_K2
          cases b with
          | true =>
            rw [if_pos rfl]
            rw [addr0]
            have b14d : w14.drew.heap[w11.heap.size]? = some (.cells #[.int .i64 nd, .int .i64 er'] 76) := b14s
            refine ⟨⟨_, row_cell b14d 1 _ rfl⟩, row_free b14d 1, hall _ 11 (hd.no.setCell _ fun _ => rfl) (setCell_row b14d) (hb rfl)⟩
          | false =>
            rw [if_neg (by simp)]
            exact hall _ er' hd.no b14s (hb2 rfl)
        have l1 : ∀ w', Ext No w14 w' → w'.cell? ((⟨w11.heap.size, 0, none⟩ : Addr).add 1) = some (.int .i64 er') := fun w' h => by rw [addr0]; exact h.cell (row_cell b14s 1 _ rfl) (fun h => h)
        have l0 : ∀ w', Ext No w14 w' → w'.cell? ((⟨w11.heap.size, 0, none⟩ : Addr).add 0) = some (.int .i64 nd) := fun w' h => h.cell (row_cell b14s 0 _ rfl) (fun h => h)
        refine ⟨fun w' => Ext No w14 w', hd, _, l1, _, rfl, ?_⟩
        by_cases q1 : er' = 0
        · rw [if_pos (by simpa using q1)]
          refine ⟨_, l0, _, rfl, ?_⟩
          by_cases q2 : nd < 0
          · rw [if_pos (by simpa using q2)]
            obtain ⟨⟨vl, st⟩, rfl⟩ := hkind q1 q2
            have hat' := hat q1 q2
            have up : ∀ {k o}, k < w10.heap.size → w10.heap[k]? = some o → ∀ w', Ext No w14 w' → w'.heap[k]? = some o := fun hk h w' h' => (h'.block _ (by omega) (fun h => h)).trans ((hE10_14.block _ hk (fun h => h)).trans h)
            have g2 := ((hE10.block w1.heap.size (by omega) (show ¬ (w1.heap.size = w5.heap.size) by omega)).trans d2)
            refine ⟨_, fun w' h => row_cell (up (by omega) g9 w' h) 0 _ rfl, _, rfl, _, rfl, _, fun w' h => by rw [addr0]; exact (hE10_14.trans h).cell hat' (fun h => h), _, rfl, _, fun w' h => row_cell (up (by omega) g2 w' h) 0 _ rfl, _, _, _, rfl, ?_⟩
            have hif : (if er' = 0 ∧ nd < 0 then endP (Except.ok (vl, st)) path.length else er') = endP (Except.ok (vl, st)) path.length := if_pos ⟨q1, q2⟩
            refine K2 _ (fun hb => ?_) fun hb => ?_
            · have hb' : ((st.outs.length : Nat) : Int) < ((path.length : Nat) : Int) := of_decide_eq_true hb
              rw [hif, endP, if_pos (by omega)]
            · have hb' : ¬ ((st.outs.length : Nat) : Int) < ((path.length : Nat) : Int) := of_decide_eq_false hb
              rw [hif, endP, if_neg (by omega), q1]
          · rw [if_neg (by simpa using q2)]
            exact K2 false (fun h => by cases h) fun _ => (if_neg (by omega)).symm
        · rw [if_neg (by simpa using q1)]
          exact K2 false (fun h => by cases h) fun _ => (if_neg (by omega)).symm
  · rw [if_pos (by simpa using he)] at hp
    rw [if_pos (by simpa using he)]
    simp only [Option.some.injEq, Prod.mk.injEq] at hp
    obtain ⟨rfl, rfl, rfl⟩ := hp
    refine ⟨_, _, build450 _, _, rfl, _, _, build76 _ _ _, _, rfl, rfl, ?_⟩
    refine store_box c3 rfl one4 ⟨rfl, ?_⟩
    have hE10 := setRow_ext w5 w2.heap.size zero4
    have c4' : (w5.setRow w2.heap.size zero4).heap[w3.heap.size]? = some (.cells #[.int .i64 0, .int .i64 0] 76) := (hE10.block _ (by omega) (show ¬ (w3.heap.size = w2.heap.size) by omega)).trans c4
    refine store_box (cs := #[.int .i64 (-1), .int .i64 e]) c4' rfl (one2 (-1) e) ⟨_, rfl, (setRow_ext _ _ _).cells (row_cells (setRow_new c3)) (show ¬ (w2.heap.size = w3.heap.size) by omega), _, rfl, row_cells (setRow_new c4'), Fin.ret ?_ ⟨_, _, rfl, rfl, one4, fun vl st h => by cases h⟩⟩
    exact (hw5.trans' hE10 fun k hk h => by omega).trans' (setRow_ext _ _ _) fun k hk h => by omega

/-- The spans of a path, and its error. -/
def spansP (t : List Nod) (e : Int) (path : List Int) (f : Nat) : Option (List Span × Int) :=
  match walkP t e path f with
  | none => none
  | some (o, (nd, er)) => if er ≠ 0 then some ([], er) else if nd ≥ 0 then some ([], 11) else match o with
    | some (_, st) => some (st.spans, 0)
    | none => none
theorem spans_ok {X : Nat → Prop} (cs : Array Value) (t : List Nod) (PA : Option Addr) (pn pc : Nat) (path : List Int) (w : World) (e : Int) (f : Nat) (sp : List Span) (er : Int)
    (ht : TreeR X w cs t) (hr : SlR intK X w PA pn pc path) (hX : ∀ k, X k → k < w.heap.size)
    (hval : ∀ w' cs' X', Ext No w w' → TreeR X' w' cs' t → Calls Tryz.prog 47 #[.agg cs'] w' (Fin w' fun v _ => v = .int .i64 e)) (hp : spansP t e path f = some (sp, er)) :
    Calls Tryz.prog 74 #[.agg cs, .slice PA pn pc] w (Fin w fun v w' => ∃ A n c, v = .tuple #[.slice A n c, .int .i64 er] ∧ SlR spanK (Old w) w' A n c sp) := by
  apply c74
  unfold m74
  have hE1 : Ext No w (w.alloc (.cells cs 40)) := (Ext.refl No w).alloc _
  have b1 : (w.alloc (.cells cs 40)).heap[w.heap.size]? = some (.cells cs 40) := heap_alloc_new w _
  generalize w.alloc (.cells cs 40) = w1 at hE1 b1
  have hsz : cs.size = 1 := by obtain ⟨A, c, rfl, _⟩ := ht; rfl
  unfold spansP at hp
  have hex : ∃ o nd er', walkP t e path f = some (o, (nd, er')) := by
    cases h : walkP t e path f with
    | none => rw [h] at hp; cases hp
    | some r => obtain ⟨o, nd, er'⟩ := r; exact ⟨o, nd, er', rfl⟩
  obtain ⟨o, nd, er', hw⟩ := hex
  rw [hw] at hp
  simp only [] at hp
  refine ⟨cs, hsz, row_cells b1, Fin.use (walk_ok (X := X) cs t PA pn pc path w1 e f o nd er' (ht.ext hE1.no (Upd.same _ _)) (hr.ext hE1.no (Upd.same _ _)) (fun k hk => Nat.lt_of_lt_of_le (hX k hk) hE1.size) (fun w' cs' X' h => hval w' cs' X' (hE1.trans h)) hw) fun v w2 hE2 hv => ?_⟩
  obtain ⟨p, res, rfl, hres, hone, hgood⟩ := hv
  refine ⟨_, _, _, rfl, p, rfl, res, rfl, _, rfl, hres, ?_⟩
  have hE3 : Ext No w2 (w2.alloc (.cells #[.int .i64 0, .int .i64 0, .string ⟨#[]⟩, .slice none 0 0] 45)) := (Ext.refl No w2).alloc _
  have b3 : (w2.alloc (.cells #[.int .i64 0, .int .i64 0, .string ⟨#[]⟩, .slice none 0 0] 45)).heap[w2.heap.size]? = some (.cells #[.int .i64 0, .int .i64 0, .string ⟨#[]⟩, .slice none 0 0] 45) := heap_alloc_new w2 _
  have s3 : (w2.alloc (.cells #[.int .i64 0, .int .i64 0, .string ⟨#[]⟩, .slice none 0 0] 45)).heap.size = w2.heap.size + 1 := by simp
  generalize w2.alloc (.cells #[.int .i64 0, .int .i64 0, .string ⟨#[]⟩, .slice none 0 0] 45) = w3 at hE3 b3 s3
  have hE4 : Ext No w3 (w3.alloc (.cells #[.int .i64 0, .int .i64 0] 76)) := (Ext.refl No w3).alloc _
  have b4 : (w3.alloc (.cells #[.int .i64 0, .int .i64 0] 76)).heap[w3.heap.size]? = some (.cells #[.int .i64 0, .int .i64 0] 76) := heap_alloc_new w3 _
  have s4 : (w3.alloc (.cells #[.int .i64 0, .int .i64 0] 76)).heap.size = w3.heap.size + 1 := by simp
  generalize w3.alloc (.cells #[.int .i64 0, .int .i64 0] 76) = w4 at hE4 b4 s4
  have b4v := (hE4.block _ (by omega) (fun h => h)).trans b3
  refine store_box b4v (by rw [hres]; rfl) hone ⟨rfl, ?_⟩
  have hE5 := setRow_ext w4 w2.heap.size res
  have b5s : (w4.setRow w2.heap.size res).heap[w3.heap.size]? = some (.cells #[.int .i64 0, .int .i64 0] 76) := (hE5.block _ (by omega) (show ¬ (w3.heap.size = w2.heap.size) by omega)).trans b4
  generalize w4.setRow w2.heap.size res = w5 at hE5 b5s
  refine store_box (cs := #[.int .i64 nd, .int .i64 er']) b5s rfl (by intro v hv; simp at hv; rcases hv with rfl | rfl <;> rfl) ?_
  have hE6 := setRow_ext w5 w3.heap.size #[.int .i64 nd, .int .i64 er']
  have b6 := setRow_new (cs := #[.int .i64 nd, .int .i64 er']) b5s
  generalize w5.setRow w3.heap.size #[.int .i64 nd, .int .i64 er'] = w6 at hE6 b6
  have hE26 : Ext No w2 w6 := ((hE3.trans hE4).trans' hE5 fun k hk h => by omega).trans' hE6 fun k hk h => by omega
  have hw6 := (hE1.trans hE2).trans hE26
  have l1 : w6.cell? ((⟨w3.heap.size, 0, none⟩ : Addr).add 1) = some (.int .i64 er') := by rw [addr0]; exact row_cell b6 1 _ rfl
  have l0 : w6.cell? ((⟨w3.heap.size, 0, none⟩ : Addr).add 0) = some (.int .i64 nd) := row_cell b6 0 _ rfl
  refine ⟨_, l1, _, rfl, ?_⟩
  by_cases q1 : er' = 0
  · rw [if_neg (by simpa using q1)]
    rw [if_neg (by simpa using q1)] at hp
    refine ⟨_, l0, _, rfl, ?_⟩
    by_cases q2 : nd ≥ 0
    · rw [if_pos (by simpa using q2)]
      rw [if_pos q2] at hp
      simp only [Option.some.injEq, Prod.mk.injEq] at hp
      obtain ⟨rfl, rfl⟩ := hp
      exact Fin.ret hw6 ⟨_, _, _, rfl, SlR.nil _ _ _ _ _ (by simp) fun _ => rfl⟩
    · rw [if_neg (by simpa using q2)]
      rw [if_neg q2] at hp
      cases o with
      | none => cases hp
      | some q =>
        obtain ⟨vl, st⟩ := q
        simp only [Option.some.injEq, Prod.mk.injEq] at hp
        obtain ⟨rfl, rfl⟩ := hp
        obtain ⟨_, g, SA, sc, rfl, h3, hsp⟩ := hgood vl st rfl
        refine ⟨_, rfl, _, by rw [addr0]; exact hE26.cell h3 (fun h => h), _, _, _, rfl, Fin.ret hw6 ⟨_, _, _, rfl, ?_⟩⟩
        exact (hsp.ext hE26.no (Upd.same _ _)).mono fun k hk => Nat.lt_of_lt_of_le hk hE1.size
  · rw [if_pos (by simpa using q1)]
    rw [if_pos (by simpa using q1)] at hp
    simp only [Option.some.injEq, Prod.mk.injEq] at hp
    obtain ⟨rfl, rfl⟩ := hp
    refine ⟨fun w' => Ext No w6 w', (Ext.refl No w6).drew, _, fun w' h => h.cell l1 (fun h => h), _, rfl, Fin.ret hw6.drew ⟨_, _, _, rfl, SlR.nil _ _ _ _ _ (by simp) fun _ => rfl⟩⟩
end Go.Proofs.YtilacabmbjephaaGreatDoor
