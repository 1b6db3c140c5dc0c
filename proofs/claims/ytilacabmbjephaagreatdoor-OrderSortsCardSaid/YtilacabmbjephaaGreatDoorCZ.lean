/- Contracts: the iterators of package order over spans: swaps. -/
import Derived.Test.YtilacabmbjephaaGreatDoorCY
namespace Go.Proofs.YtilacabmbjephaaGreatDoor
open Go Go.GX
set_option linter.unusedVariables false
set_option linter.unusedSimpArgs false

def swapsH (p : List Int) (sp : List Span) (i d : Nat) : List (List Int) :=
  if (sp.getD i (0, 0, 0)).1 = (sp.getD (i + 1 + d) (0, 0, 0)).1 ∧ (sp.getD i (0, 0, 0)).2.2 = (sp.getD (i + 1 + d) (0, 0, 0)).2.1 then
    [p.take (sp.getD i (0, 0, 0)).2.1.toNat ++ ((p.take (sp.getD (i + 1 + d) (0, 0, 0)).2.2.toNat).drop (sp.getD (i + 1 + d) (0, 0, 0)).2.1.toNat ++ ((p.take (sp.getD i (0, 0, 0)).2.2.toNat).drop (sp.getD i (0, 0, 0)).2.1.toNat ++ p.drop (sp.getD (i + 1 + d) (0, 0, 0)).2.2.toNat))] else []
def swapsG (p : List Int) (sp : List Span) (i : Nat) : List (List Int) := upto (swapsH p sp i) (sp.length - (i + 1))
def swapsP (p : List Int) (sp : List Span) : List (List Int) := upto (swapsG p sp) sp.length

/-- A box that the body does not reach. -/
def BoxAt (g : Nat) (o : Obj) : (Nat → Prop) → World → Prop := fun Y W => W.heap[g]? = some o ∧ ¬ Y g
theorem abides_box (g : Nat) (o : Obj) : Abides (BoxAt g o) := by
  rintro Y Y' W W' ⟨h1, h2⟩ hE hU
  have hlt := (Array.getElem?_eq_some_iff.1 h1).1
  refine ⟨(hE.block _ hlt h2).trans h1, fun hy => ?_⟩
  rcases hU _ hy with h | h
  · exact h2 h
  · omega
theorem abides_and {K K' : (Nat → Prop) → World → Prop} (h : Abides K) (h' : Abides K') : Abides fun Y W => K Y W ∧ K' Y W := fun Y Y' W W' hk hE hU => ⟨h _ _ _ _ hk.1 hE hU, h' _ _ _ _ hk.2 hE hU⟩

/-- What the loads of a round ask. -/
structure SwH (pb : Nat) (PA : Option Addr) (n pc g1 g2 : Nat) (s b e s2 b2 e2 : Int) (W' : World) : Prop where
  box : W'.cell? ⟨pb, 0, none⟩ = some (.slice PA n pc)
  x : W'.heap[g1]? = some (.cells #[.int .i64 s, .int .i64 b, .int .i64 e] 168)
  y : W'.heap[g2]? = some (.cells #[.int .i64 s2, .int .i64 b2, .int .i64 e2] 168)
section
variable {l : Nat} {raws : List (List Int)} {J : Nat → (Nat → Prop) → World → Prop} {w : World} {Y0 : Nat → Prop} {pb sb : Nat} {PA SA : Option Addr} {pc sc : Nat} {p : List Int} {sp : List Span} {k : Nat} {W : World}
set_option maxHeartbeats 1000000 in
theorem swaps1_ok (hB : Body l (swapsP p sp) J) (hJ : J 0 Y0 w) (hH : Held Y0 w pb PA pc p) (hS : SpansAt sb SA sc sp Y0 w) (hn : p.length ≤ small) (hok : ∀ x ∈ sp, spanOk p.length x) :
    Calls Tryz.prog 133 #[.func (.yield l) #[] #[], .pointer (some ⟨sb, 0, none⟩), .pointer (some ⟨pb, 0, none⟩)] w (Ret (fun v w' => v = .tuple #[] ∧ ∃ Y', J (swapsP p sp).length Y' w' ∧ Upd Y0 Y' w ∧ Ext Y0 w w') fun _ _ => False) := by
  apply c133
  unfold m133
  have hs : p.length ≤ 1099511627776 := hn
  have hlY : ∀ {k Y W}, J k Y W → ∀ b, Y b → b < W.heap.size := fun h => hB.lt _ _ _ h
  have hspm : sp.length ≤ 9223372036854775807 := by
    have h1 := hS.2.2.cap
    have h2 := hS.2.2.max
    rw [maxLen_eq] at h2
    omega
  refine ⟨_, hS.1, _, _, _, rfl, ((0 : Int), ()), rfl, fun t s W => ∃ i : Nat, s = ((i : Int), ()) ∧ i ≤ sp.length ∧ t = sp.length - i ∧ Btw l J (SpansAt sb SA sc sp) w Y0 pb PA pc p (upto (swapsG p sp) i).length W,
    ⟨sp.length, 0, rfl, by omega, by omega, ⟨Y0, hJ, ⟨hH, hS⟩, Upd.same _ _, Ext.refl _ _⟩⟩, ?_⟩
  rintro t s W ⟨i, rfl, hi, rfl, hW⟩ _r
  simp only [m133_B0]
  have spOf : ∀ j, j < sp.length → spanOk p.length (sp.getD j (0, 0, 0)) := fun j hj => by
    rw [List.getD_eq_getElem?_getD, List.getElem?_eq_getElem hj]
    exact hok _ (List.getElem_mem hj)
  by_cases hlt : i < sp.length
  · rw [if_pos (by simp; omega)]
    obtain ⟨Y, h1, ⟨h2, h2s⟩, h3, h4⟩ := hW.ex
    obtain ⟨a, ha, hc, i1, i2, i3⟩ := spanGet h2s.2.2 i hlt
    have hl := upto_len (swapsG p sp) i
    have hx := spOf i hlt
    have gG : ∀ d j, d < sp.length - (i + 1) → j < (swapsH p sp i d).length → (swapsP p sp).getD ((upto (swapsG p sp) i).length + ((upto (swapsH p sp i) d).length + j)) [] = (swapsH p sp i d).getD j [] ∧ (upto (swapsG p sp) i).length + ((upto (swapsH p sp i) d).length + j) < (swapsP p sp).length := by
      intro d j hd hj
      have g0 := upto_get (swapsH p sp i) (n := sp.length - (i + 1)) (i := d) (j := j) [] hd hj
      have G0 := upto_get (swapsG p sp) (n := sp.length) (i := i) (j := (upto (swapsH p sp i) d).length + j) [] hlt g0.2
      exact ⟨G0.1.trans g0.1, G0.2⟩
    have hGi : (swapsG p sp i).length = (upto (swapsH p sp i) (sp.length - (i + 1))).length := rfl
    rw [hGi] at hl
    have hH0 : ∀ d, swapsH p sp i d = (if (sp.getD i (0, 0, 0)).1 = (sp.getD (i + 1 + d) (0, 0, 0)).1 ∧ (sp.getD i (0, 0, 0)).2.2 = (sp.getD (i + 1 + d) (0, 0, 0)).2.1 then
      [p.take (sp.getD i (0, 0, 0)).2.1.toNat ++ ((p.take (sp.getD (i + 1 + d) (0, 0, 0)).2.2.toNat).drop (sp.getD (i + 1 + d) (0, 0, 0)).2.1.toNat ++ ((p.take (sp.getD i (0, 0, 0)).2.2.toNat).drop (sp.getD i (0, 0, 0)).2.1.toNat ++ p.drop (sp.getD (i + 1 + d) (0, 0, 0)).2.2.toNat))] else []) := fun d => rfl
    generalize sp.getD i (0, 0, 0) = x at hx hc i1 i2 i3 hH0
    obtain ⟨s, b, e⟩ := x
    obtain ⟨x1, x2, x3, x4⟩ := hx
    simp only [] at hc i1 i2 i3 x1 x2 x3 x4 hH0
    refine ⟨a, ha, by omega, by omega, _, rfl, by rw [Int.toNat_natCast]; exact hc, rfl, ?_⟩
    refine box_store W #[.int .i64 0, .int .i64 0, .int .i64 0] #[.int .i64 s, .int .i64 b, .int .i64 e] 168 rfl (by intro v hv; simp at hv; rcases hv with rfl | rfl | rfl <;> rfl) ?_
    have hE1 : Ext No W (W.alloc (.cells #[.int .i64 s, .int .i64 b, .int .i64 e] 168)) := (Ext.refl No W).alloc _
    have b1 : (W.alloc (.cells #[.int .i64 s, .int .i64 b, .int .i64 e] 168)).heap[W.heap.size]? = some (.cells #[.int .i64 s, .int .i64 b, .int .i64 e] 168) := heap_alloc_new W _
    generalize W.alloc (.cells #[.int .i64 s, .int .i64 b, .int .i64 e] 168) = W1 at hE1 b1
    have hw1 : IntKind.i64.wrap ((i : Int) + 1) = ((i + 1 : Nat) : Int) := by rw [wrap_id ⟨by omega, by omega⟩]; rfl
    have K' := abides_and (abides_spans sb SA sc sp) (abides_box W.heap.size (.cells #[.int .i64 s, .int .i64 b, .int .i64 e] 168))
    have hW1 : Btw l J (fun Y W' => SpansAt sb SA sc sp Y W' ∧ BoxAt W.heap.size (.cells #[.int .i64 s, .int .i64 b, .int .i64 e] 168) Y W') w Y0 pb PA pc p (upto (swapsG p sp) i).length W1 :=
      ⟨Y, hB.ext _ _ _ _ h1 hE1, ⟨h2.ext hE1.no (Upd.same _ _), abides_spans _ _ _ _ _ _ _ _ h2s hE1.no (Upd.same _ _), b1, fun hy => Nat.lt_irrefl _ (hlY h1 _ hy)⟩, h3, h4.then hE1⟩
    rw [hw1]
    have hb1 : W1.cell? ⟨sb, 0, none⟩ = some (.slice SA sp.length sc) := hE1.cell h2s.1 (fun h => h)
    refine ⟨_, hb1, _, _, _, rfl, by omega, by omega, ((0 : Int), ()), rfl,
      fun t s' W' => ∃ d : Nat, s' = ((d : Int), ()) ∧ d ≤ sp.length - (i + 1) ∧ t = sp.length - (i + 1) - d ∧ Btw l J (fun Y W' => SpansAt sb SA sc sp Y W' ∧ BoxAt W.heap.size (.cells #[.int .i64 s, .int .i64 b, .int .i64 e] 168) Y W') w Y0 pb PA pc p ((upto (swapsG p sp) i).length + (upto (swapsH p sp i) d).length) W',
      ⟨sp.length - (i + 1), 0, rfl, by omega, by omega, hW1⟩, ?_⟩
    rintro t s' W2 ⟨d, rfl, hd, rfl, hW2⟩ _r
    simp only [m133_B2]
    rw [Int.toNat_natCast]
    by_cases hlt2 : d < sp.length - (i + 1)
    · rw [if_pos (by simp; omega)]
      obtain ⟨Y2, h12, ⟨h22, h22s, h22b⟩, h32, h42⟩ := hW2.ex
      have hcap := h22.sl.cap
      -- y
      have hsub := h22s.2.2.sub (i + 1) sp.length (by omega) (Nat.le_refl _)
      have hsubl : ((sp.take sp.length).drop (i + 1)).length = sp.length - (i + 1) := by simp
      have hget : ((sp.take sp.length).drop (i + 1)).getD d (0, 0, 0) = sp.getD (i + 1 + d) (0, 0, 0) := by
        rw [List.take_of_length_le (Nat.le_refl _)]
        simp [List.getD_eq_getElem?_getD]
      rw [← hsubl] at hsub
      obtain ⟨a2, ha2, hc2, j1, j2, j3⟩ := spanGet hsub d (by rw [hsubl]; exact hlt2)
      rw [hget] at hc2 j1 j2 j3
      have hy := spOf (i + 1 + d) (by omega)
      have hHd := hH0 d
      have gGd := fun j => gG d j hlt2
      have hld := upto_len (swapsH p sp i) d
      rw [hHd] at gGd hld
      generalize sp.getD (i + 1 + d) (0, 0, 0) = y at hy hc2 j1 j2 j3 gGd hld
      obtain ⟨s2, b2, e2⟩ := y
      obtain ⟨y1, y2, y3, y4⟩ := hy
      simp only [] at hc2 j1 j2 j3 y1 y2 y3 y4 gGd hld
      refine ⟨a2, ha2, by omega, by omega, _, rfl, by rw [Int.toNat_natCast]; exact hc2, rfl, ?_⟩
      refine box_store W2 #[.int .i64 0, .int .i64 0, .int .i64 0] #[.int .i64 s2, .int .i64 b2, .int .i64 e2] 168 rfl (by intro v hv; simp at hv; rcases hv with rfl | rfl | rfl <;> rfl) ?_
      have hE3 : Ext No W2 (W2.alloc (.cells #[.int .i64 s2, .int .i64 b2, .int .i64 e2] 168)) := (Ext.refl No W2).alloc _
      have b3 : (W2.alloc (.cells #[.int .i64 s2, .int .i64 b2, .int .i64 e2] 168)).heap[W2.heap.size]? = some (.cells #[.int .i64 s2, .int .i64 b2, .int .i64 e2] 168) := heap_alloc_new W2 _
      generalize W2.alloc (.cells #[.int .i64 s2, .int .i64 b2, .int .i64 e2] 168) = W3 at hE3 b3
      have hd3 : Ext No W3 W3.drew := (Ext.refl No W3).drew
      have hE23 := hE3.trans hd3
      have hW3 := hW2.ext0 hB K' hE23
      have z3 : W2.heap.size < W3.heap.size := (Array.getElem?_eq_some_iff.1 b3).1
      -- what the loads ask
      have held : ∀ {k W'}, Btw l J (fun Y W' => SpansAt sb SA sc sp Y W' ∧ BoxAt W.heap.size (.cells #[.int .i64 s, .int .i64 b, .int .i64 e] 168) Y W') w Y0 pb PA pc p k W' → W'.heap[W2.heap.size]? = some (.cells #[.int .i64 s2, .int .i64 b2, .int .i64 e2] 168) →
          SwH pb PA p.length pc W.heap.size W2.heap.size s b e s2 b2 e2 W' := fun h hb => by
        obtain ⟨Y, _, ⟨h2, _, h2b⟩, _⟩ := h.ex
        exact ⟨h2.box, h2b.1, hb⟩
      have next : ∀ W', Btw l J (fun Y W' => SpansAt sb SA sc sp Y W' ∧ BoxAt W.heap.size (.cells #[.int .i64 s, .int .i64 b, .int .i64 e] 168) Y W') w Y0 pb PA pc p ((upto (swapsG p sp) i).length + (upto (swapsH p sp i) (d + 1)).length) W' →
          m133_K3 (Ret (fun v w' => v = .tuple #[] ∧ ∃ Y', J (swapsP p sp).length Y' w' ∧ Upd Y0 Y' w ∧ Ext Y0 w w') fun _ _ => False)
          (fun s' w' => ∃ m, m < sp.length - i ∧ ∃ i : Nat, s' = ((i : Int), ()) ∧ i ≤ sp.length ∧ m = sp.length - i ∧ Btw l J (SpansAt sb SA sc sp) w Y0 pb PA pc p (upto (swapsG p sp) i).length w')
          (fun s' w' => ∃ m, m < sp.length - (i + 1) - d ∧ ∃ d : Nat, s' = ((d : Int), ()) ∧ d ≤ sp.length - (i + 1) ∧ m = sp.length - (i + 1) - d ∧ Btw l J (fun Y W' => SpansAt sb SA sc sp Y W' ∧ BoxAt W.heap.size (.cells #[.int .i64 s, .int .i64 b, .int .i64 e] 168) Y W') w Y0 pb PA pc p ((upto (swapsG p sp) i).length + (upto (swapsH p sp i) d).length) w')
          l ⟨sb, 0, none⟩ ⟨pb, 0, none⟩ ⟨W.heap.size, 0, none⟩ SA sp.length sc (sp.length : Nat) (i : Nat) (sliceAddr SA (i + 1) sc 3) (sp.length - (i + 1)) (sc - (i + 1)) (sp.length - (i + 1) : Nat) (d : Nat) false W' := by
        intro W' hW'
        unfold m133_K3
        rw [if_neg (by simp)]
        exact ⟨(((d + 1 : Nat) : Int), ()), by rw [wrap_id ⟨by omega, by omega⟩]; rfl, sp.length - (i + 1) - (d + 1), by omega, d + 1, rfl, by omega, rfl, hW'⟩
      refine ⟨SwH pb PA p.length pc W.heap.size W2.heap.size s b e s2 b2 e2, held hW3 b3,
        by omega, by omega, _, fun W' h => (cells3 h.x).1, _, rfl, by omega, by omega, _, fun W' h => (cells3 h.y).1, _, rfl, ?_⟩
      have n0 : ¬ (s = s2 ∧ e = b2) → Btw l J (fun Y W' => SpansAt sb SA sc sp Y W' ∧ BoxAt W.heap.size (.cells #[.int .i64 s, .int .i64 b, .int .i64 e] 168) Y W') w Y0 pb PA pc p ((upto (swapsG p sp) i).length + (upto (swapsH p sp i) (d + 1)).length) W3.drew := by
        intro hcnd
        rw [hld, if_neg hcnd]
        exact hW3
      by_cases q1 : s = s2
      · rw [if_pos (by simpa using q1)]
        refine ⟨by omega, by omega, _, fun W' h => (cells3 h.x).2.2, _, rfl, by omega, by omega, _, fun W' h => (cells3 h.y).2.1, _, rfl, ?_⟩
        by_cases q2 : e = b2
        · rw [if_pos (by simpa using q2)]
          rw [if_pos ⟨q1, q2⟩] at hld
          refine ⟨_, fun W' h => h.box, _, _, _, rfl, by omega, by omega, _, fun W' h => (cells3 h.x).2.1, _, rfl, by omega, by omega, _, fun W' h => h.box, _, _, _, rfl, by omega, by omega, _, fun W' h => (cells3 h.y).2.1, _, rfl, by omega, by omega, _, fun W' h => (cells3 h.y).2.2, _, rfl, by omega, by omega, by omega, by omega,
            _, fun W' h => h.box, _, _, _, rfl, by omega, by omega, _, fun W' h => (cells3 h.x).2.1, _, rfl, by omega, by omega, _, fun W' h => (cells3 h.x).2.2, _, rfl, by omega, by omega, by omega, by omega, _, fun W' h => h.box, _, _, _, rfl, by omega, by omega, _, fun W' h => (cells3 h.y).2.2, _, rfl, by omega, by omega, ?_⟩
          obtain ⟨Y3, h13, ⟨h23, h23s, h23b⟩, h33, h43⟩ := hW3.ex
          have hall : All2 (fun v d => ∃ A n c, v = Value.slice A n c ∧ SlR intK Y3 W3.drew A n c d)
              [.slice (sliceAddr PA 0 pc 1) (b.toNat - 0) (pc - 0), .slice (sliceAddr PA b2.toNat pc 1) (e2.toNat - b2.toNat) (pc - b2.toNat), .slice (sliceAddr PA b.toNat pc 1) (e.toNat - b.toNat) (pc - b.toNat), .slice (sliceAddr PA e2.toNat pc 1) (p.length - e2.toNat) (pc - e2.toNat)]
              [(p.take b.toNat).drop 0, (p.take e2.toNat).drop b2.toNat, (p.take e.toNat).drop b.toNat, (p.take p.length).drop e2.toNat] :=
            ⟨⟨_, _, _, rfl, h23.sl.sub 0 b.toNat (by omega) (by omega)⟩, ⟨_, _, _, rfl, h23.sl.sub b2.toNat e2.toNat (by omega) (by omega)⟩, ⟨_, _, _, rfl, h23.sl.sub b.toNat e.toNat (by omega) (by omega)⟩, ⟨_, _, _, rfl, h23.sl.sub e2.toNat p.length (by omega) (Nat.le_refl _)⟩, trivial⟩
          have hrow := litSlices _ _ hall (hlY h13) (by simp [maxLen])
          have hE4 : Ext No W3.drew (W3.drew.alloc (.cells (flat [.slice (sliceAddr PA 0 pc 1) (b.toNat - 0) (pc - 0), .slice (sliceAddr PA b2.toNat pc 1) (e2.toNat - b2.toNat) (pc - b2.toNat), .slice (sliceAddr PA b.toNat pc 1) (e.toNat - b.toNat) (pc - b.toNat), .slice (sliceAddr PA e2.toNat pc 1) (p.length - e2.toNat) (pc - e2.toNat)]) 22)) := (Ext.refl No _).alloc _
          have hfl : ([(p.take b.toNat).drop 0, (p.take e2.toNat).drop b2.toNat, (p.take e.toNat).drop b.toNat, (p.take p.length).drop e2.toNat] : List (List Int)).flatten = p.take b.toNat ++ ((p.take e2.toNat).drop b2.toNat ++ ((p.take e.toNat).drop b.toNat ++ p.drop e2.toNat)) := by simp
          have hfll : (p.take b.toNat ++ ((p.take e2.toNat).drop b2.toNat ++ ((p.take e.toNat).drop b.toNat ++ p.drop e2.toNat))).length ≤ small := by
            simp only [List.length_append, List.length_take, List.length_drop]
            unfold small
            omega
          refine ⟨sizedSlices hall, held (hW3.ext0 hB K' hE4) ((hE4.block _ z3 (fun h => h)).trans b3), ?_⟩
          refine Fin.use (joined_ok _ _ hrow (by unfold small; simp) (by rw [hfl]; exact hfll)) fun r W5 hE5 hr => ?_
          obtain ⟨A', c', rfl, hsl⟩ := hr
          rw [hfl] at hsl ⊢
          have hE45 := hE4.trans hE5
          have hW5 := hW3.ext0 hB K' hE45
          have g0 := gGd 0 (by rw [if_pos ⟨q1, q2⟩]; simp)
          rw [if_pos ⟨q1, q2⟩, Nat.add_zero] at g0
          have b5 : W5.heap[W2.heap.size]? = some (.cells #[.int .i64 s2, .int .i64 b2, .int .i64 e2] 168) := (hE45.block _ z3 (fun h => h)).trans b3
          refine ⟨_, _, _, rfl, held hW5 b5, rfl, hW2.call hB K' (hE23.trans hE45) g0.2 (by rw [g0.1]; exact hsl.mono fun k hk => Nat.lt_of_lt_of_le hk (hE23.trans hE4).size) fun W6 hW6 hkeep _ _ => ⟨_, rfl, held hW6 (hkeep (Nat.le_refl _) b5), ?_⟩⟩
          refine next W6 ?_
          rw [hld]
          exact hW6
        · rw [if_neg (by simpa using q2)]
          exact next _ (n0 fun h => q2 h.2)
      · rw [if_neg (by simpa using q1)]
        exact next _ (n0 fun h => q1 h.1)
    · rw [if_neg (by simp; omega)]
      unfold m133_K2
      obtain rfl : d = sp.length - (i + 1) := by omega
      refine ⟨(((i + 1 : Nat) : Int), ()), by rw [wrap_id ⟨by omega, by omega⟩]; rfl, sp.length - (i + 1), by omega, i + 1, rfl, by omega, rfl, ?_⟩
      rw [hl]
      obtain ⟨Y2, h12, ⟨h22, h22s, h22b⟩, h32, h42⟩ := hW2.ex
      exact ⟨Y2, h12, ⟨h22, h22s⟩, h32, h42⟩
  · rw [if_neg (by simp; omega)]
    unfold m133_K1
    obtain rfl : i = sp.length := by omega
    obtain ⟨Y, h1, h2, h3, h4⟩ := hW.ex
    exact ⟨rfl, Y, h1, h3, h4⟩
end
end Go.Proofs.YtilacabmbjephaaGreatDoor
