/- Contracts: the iterators of package order over spans. -/
import Derived.Test.YtilacabmbjephaaGreatDoorCX
import Derived.Test.YtilacabmbjephaaGreatDoorCN
namespace Go.Proofs.YtilacabmbjephaaGreatDoor
open Go Go.GX
set_option linter.unusedVariables false
set_option linter.unusedSimpArgs false

/-- The spans lie in their box, out of the body's reach. -/
def SpansAt (sb : Nat) (SA : Option Addr) (sc : Nat) (sp : List Span) : (Nat → Prop) → World → Prop := fun Y W => W.cell? ⟨sb, 0, none⟩ = some (.slice SA sp.length sc) ∧ ¬ Y sb ∧ SlR spanK Y W SA sp.length sc sp
theorem abides_spans (sb : Nat) (SA : Option Addr) (sc : Nat) (sp : List Span) : Abides (SpansAt sb SA sc sp) := by
  rintro Y Y' W W' ⟨h1, h2, h3⟩ hE hU
  refine ⟨hE.cell h1 h2, fun hy => ?_, h3.ext hE hU⟩
  rcases hU _ hy with h | h
  · exact h2 h
  · have := cell_lt h1
    exact absurd this (Nat.not_lt.2 h)
/-- Spans of a path of n choices. -/
def spanOk (n : Nat) (x : Span) : Prop := 0 ≤ x.1 ∧ x.1 ≤ x.2.1 ∧ x.2.1 ≤ x.2.2 ∧ x.2.2 ≤ (n : Int)

def cutP (p : List Int) (b e : Nat) : List Int := p.take b ++ p.drop e
def deletesG (p : List Int) (sp : List Span) (i : Nat) : List (List Int) :=
  (cutP p (sp.getD i (0, 0, 0)).2.1.toNat (sp.getD i (0, 0, 0)).2.2.toNat) ::
    (if (sp.getD i (0, 0, 0)).1 > 0 ∧ p.getD ((sp.getD i (0, 0, 0)).1 - 1).toNat 0 > 0 then
      [p.take ((sp.getD i (0, 0, 0)).1 - 1).toNat ++ ([p.getD ((sp.getD i (0, 0, 0)).1 - 1).toNat 0 - 1] ++ ((p.take (sp.getD i (0, 0, 0)).2.1.toNat).drop (sp.getD i (0, 0, 0)).1.toNat ++ p.drop (sp.getD i (0, 0, 0)).2.2.toNat))] else [])
def deletesP (p : List Int) (sp : List Span) : List (List Int) := upto (deletesG p sp) sp.length

section
variable {l : Nat} {raws : List (List Int)} {J : Nat → (Nat → Prop) → World → Prop} {w : World} {Y0 : Nat → Prop} {pb sb : Nat} {PA SA : Option Addr} {pc sc : Nat} {p : List Int} {sp : List Span} {k : Nat} {W : World}
theorem spanGet {X : Nat → Prop} (h : SlR spanK X W SA sp.length sc sp) (i : Nat) (hi : i < sp.length) :
    ∃ a, SA = some a ∧ CellsAt W (a.add (i * 3)) #[.int .i64 (sp.getD i (0, 0, 0)).1, .int .i64 (sp.getD i (0, 0, 0)).2.1, .int .i64 (sp.getD i (0, 0, 0)).2.2] ∧ intOk (sp.getD i (0, 0, 0)).1 ∧ intOk (sp.getD i (0, 0, 0)).2.1 ∧ intOk (sp.getD i (0, 0, 0)).2.2 := by
  obtain ⟨a, cs, hA, hR, hc⟩ := h.get i hi
  obtain ⟨hcs, hok⟩ := hR
  have hd : sp.getD i (0, 0, 0) = sp[i] := by simp [List.getD_eq_getElem?_getD, hi]
  rw [hd, ← hcs]
  exact ⟨a, hA, hc, hok⟩
theorem cells3 {a b c : Int} {W : World} {g : Nat} {t : TypeId} (h : W.heap[g]? = some (.cells #[.int .i64 a, .int .i64 b, .int .i64 c] t)) :
    W.cell? ((⟨g, 0, none⟩ : Addr).add ((0 : Int).toNat * 1)) = some (.int .i64 a) ∧ W.cell? ((⟨g, 0, none⟩ : Addr).add ((1 : Int).toNat * 1)) = some (.int .i64 b) ∧ W.cell? ((⟨g, 0, none⟩ : Addr).add ((2 : Int).toNat * 1)) = some (.int .i64 c) := by
  refine ⟨?_, ?_, ?_⟩
  · exact row_cells h 0 _ rfl
  · exact row_cells h 1 _ rfl
  · exact row_cells h 2 _ rfl

set_option maxHeartbeats 1000000 in
theorem deletes1_ok (hB : Body l (deletesP p sp) J) (hJ : J 0 Y0 w) (hH : Held Y0 w pb PA pc p) (hS : SpansAt sb SA sc sp Y0 w) (hn : p.length ≤ small) (hok : ∀ x ∈ sp, spanOk p.length x) :
    Calls Tryz.prog 129 #[.func (.yield l) #[] #[], .pointer (some ⟨sb, 0, none⟩), .pointer (some ⟨pb, 0, none⟩)] w (Ret (fun v w' => v = .tuple #[] ∧ ∃ Y', J (deletesP p sp).length Y' w' ∧ Upd Y0 Y' w ∧ Ext Y0 w w') fun _ _ => False) := by
  apply c129
  unfold m129
  have hs : p.length ≤ 1099511627776 := hn
  have hlY : ∀ {k Y W}, J k Y W → ∀ b, Y b → b < W.heap.size := fun h => hB.lt _ _ _ h
  have hspm : sp.length ≤ 9223372036854775807 := by
    have h1 := hS.2.2.cap
    have h2 := hS.2.2.max
    rw [maxLen_eq] at h2
    omega
  refine ⟨_, hS.1, _, _, _, rfl, ((0 : Int), ()), rfl, fun t s W => ∃ i : Nat, s = ((i : Int), ()) ∧ i ≤ sp.length ∧ t = sp.length - i ∧ Btw l J (SpansAt sb SA sc sp) w Y0 pb PA pc p (upto (deletesG p sp) i).length W,
    ⟨sp.length, 0, rfl, by omega, by omega, ⟨Y0, hJ, ⟨hH, hS⟩, Upd.same _ _, Ext.refl _ _⟩⟩, ?_⟩
  rintro t s W ⟨i, rfl, hi, rfl, hW⟩ _r
  simp only [m129_B0]
  by_cases hlt : i < sp.length
  · rw [if_pos (by simp; omega)]
    obtain ⟨Y, h1, ⟨h2, h2s⟩, h3, h4⟩ := hW.ex
    obtain ⟨a, ha, hc, i1, i2, i3⟩ := spanGet h2s.2.2 i hlt
    have hl := upto_len (deletesG p sp) i
    have hx : spanOk p.length (sp.getD i (0, 0, 0)) := by
      rw [List.getD_eq_getElem?_getD, List.getElem?_eq_getElem hlt]
      exact hok _ (List.getElem_mem hlt)
    have gG : ∀ j, j < (deletesG p sp i).length → (deletesP p sp).getD ((upto (deletesG p sp) i).length + j) [] = (deletesG p sp i).getD j [] ∧ (upto (deletesG p sp) i).length + j < (deletesP p sp).length := fun j hj => upto_get (deletesG p sp) [] hlt hj
    have hgl : deletesG p sp i = (cutP p (sp.getD i (0, 0, 0)).2.1.toNat (sp.getD i (0, 0, 0)).2.2.toNat) ::
      (if (sp.getD i (0, 0, 0)).1 > 0 ∧ p.getD ((sp.getD i (0, 0, 0)).1 - 1).toNat 0 > 0 then
        [p.take ((sp.getD i (0, 0, 0)).1 - 1).toNat ++ ([p.getD ((sp.getD i (0, 0, 0)).1 - 1).toNat 0 - 1] ++ ((p.take (sp.getD i (0, 0, 0)).2.1.toNat).drop (sp.getD i (0, 0, 0)).1.toNat ++ p.drop (sp.getD i (0, 0, 0)).2.2.toNat))] else []) := rfl
    rw [hgl] at gG hl
    generalize sp.getD i (0, 0, 0) = x at hx hc i1 i2 i3 gG hl
    obtain ⟨s, b, e⟩ := x
    obtain ⟨x1, x2, x3, x4⟩ := hx
    simp only [] at hc i1 i2 i3 gG hl x1 x2 x3 x4
    refine ⟨a, ha, by omega, by omega, _, rfl, by rw [Int.toNat_natCast]; exact hc, rfl, ?_⟩
    refine box_store W #[.int .i64 0, .int .i64 0, .int .i64 0] #[.int .i64 s, .int .i64 b, .int .i64 e] 168 rfl (by intro v hv; simp at hv; rcases hv with rfl | rfl | rfl <;> rfl) ?_
    have hE1 : Ext No W (W.alloc (.cells #[.int .i64 s, .int .i64 b, .int .i64 e] 168)) := (Ext.refl No W).alloc _
    have b1 : (W.alloc (.cells #[.int .i64 s, .int .i64 b, .int .i64 e] 168)).heap[W.heap.size]? = some (.cells #[.int .i64 s, .int .i64 b, .int .i64 e] 168) := heap_alloc_new W _
    generalize W.alloc (.cells #[.int .i64 s, .int .i64 b, .int .i64 e] 168) = W1 at hE1 b1
    have hd1 : Ext No W1 W1.drew := (Ext.refl No W1).drew
    obtain ⟨q0, q1, q2⟩ := cells3 b1
    refine ⟨fun W' => Ext No W1 W', hd1, by omega, by omega, _, fun W' h => h.cell q0 (fun h => h), _, rfl, by omega, by omega, _, fun W' h => h.cell q1 (fun h => h), _, rfl, by omega, by omega, _, fun W' h => h.cell q2 (fun h => h), _, rfl, ?_⟩
    have hE2 : Ext No W W1.drew.drew := hE1.trans hd1.drew
    have hW2 := hW.ext0 hB (abides_spans _ _ _ _) hE2
    obtain ⟨Y2, h12, ⟨h22, h22s⟩, h32, h42⟩ := hW2.ex
    have hcap := h22.sl.cap
    -- what the loads ask of a world
    have held : ∀ {k W'}, Btw l J (SpansAt sb SA sc sp) w Y0 pb PA pc p k W' → W'.cell? ⟨pb, 0, none⟩ = some (.slice PA p.length pc) ∧ SlR intK No W' PA p.length pc p := fun h => by
      obtain ⟨Y, _, ⟨h2, _⟩, _⟩ := h.ex
      exact ⟨h2.box, h2.sl.mono fun k hk => hk.elim⟩
    have next : ∀ W', Btw l J (SpansAt sb SA sc sp) w Y0 pb PA pc p (upto (deletesG p sp) (i + 1)).length W' → m129_K2 (Ret (fun v w' => v = .tuple #[] ∧ ∃ Y', J (deletesP p sp).length Y' w' ∧ Upd Y0 Y' w ∧ Ext Y0 w w') fun _ _ => False)
        (fun s' w' => ∃ m, m < sp.length - i ∧ ∃ i : Nat, s' = ((i : Int), ()) ∧ i ≤ sp.length ∧ m = sp.length - i ∧ Btw l J (SpansAt sb SA sc sp) w Y0 pb PA pc p (upto (deletesG p sp) i).length w') l ⟨pb, 0, none⟩ SA sp.length sc (sp.length : Nat) (i : Nat) false W' := by
      intro W' hW'
      unfold m129_K2
      rw [if_neg (by simp)]
      exact ⟨(((i + 1 : Nat) : Int), ()), by rw [wrap_id ⟨by omega, by omega⟩]; rfl, sp.length - (i + 1), by omega, i + 1, rfl, by omega, rfl, hW'⟩
    refine ⟨fun W' => W'.cell? ⟨pb, 0, none⟩ = some (.slice PA p.length pc) ∧ SlR intK No W' PA p.length pc p, held hW2, _, fun W' h => h.1, _, _, _, rfl, by omega, by omega, _, fun W' h => h.1, _, _, _, rfl, by omega, by omega, ?_⟩
    have hall : All2 (fun v d => ∃ A n c, v = Value.slice A n c ∧ SlR intK Y2 W1.drew.drew A n c d)
        [.slice (sliceAddr PA 0 pc 1) (b.toNat - 0) (pc - 0), .slice (sliceAddr PA e.toNat pc 1) (p.length - e.toNat) (pc - e.toNat)]
        [(p.take b.toNat).drop 0, (p.take p.length).drop e.toNat] :=
      ⟨⟨_, _, _, rfl, h22.sl.sub 0 b.toNat (by omega) (by omega)⟩, ⟨_, _, _, rfl, h22.sl.sub e.toNat p.length (by omega) (Nat.le_refl _)⟩, trivial⟩
    have hrow := litSlices _ _ hall (hlY h12) (by simp [maxLen])
    have hE3 : Ext No W1.drew.drew (W1.drew.drew.alloc (.cells (flat [.slice (sliceAddr PA 0 pc 1) (b.toNat - 0) (pc - 0), .slice (sliceAddr PA e.toNat pc 1) (p.length - e.toNat) (pc - e.toNat)]) 22)) := (Ext.refl No _).alloc _
    have hfl : ([(p.take b.toNat).drop 0, (p.take p.length).drop e.toNat] : List (List Int)).flatten = cutP p b.toNat e.toNat := by simp [cutP]
    have hfll : (cutP p b.toNat e.toNat).length ≤ small := by
      simp only [cutP, List.length_append, List.length_take, List.length_drop]
      unfold small
      omega
    refine ⟨sizedSlices hall, held (hW2.ext0 hB (abides_spans _ _ _ _) hE3), ?_⟩
    refine Fin.use (joined_ok _ _ hrow (by unfold small; simp) (by rw [hfl]; exact hfll)) fun r W3 hE4 hr => ?_
    obtain ⟨A', c', rfl, hsl⟩ := hr
    rw [hfl] at hsl ⊢
    have hE34 := hE3.trans hE4
    have hW3 := hW2.ext0 hB (abides_spans _ _ _ _) hE34
    have g0 := gG 0 (by simp)
    rw [Nat.add_zero] at g0
    refine ⟨_, _, _, rfl, held hW3, rfl, hW2.call hB (abides_spans _ _ _ _) hE34 g0.2 (by rw [g0.1]; exact hsl.mono fun k hk => Nat.lt_of_lt_of_le hk hE3.size) fun W4 hW4 _ _ _ => ⟨_, rfl, held hW4, ?_⟩⟩
    rw [if_neg (by simp)]
    have hd4 : Ext No W4 W4.drew := (Ext.refl No W4).drew
    have hW4d := hW4.ext0 hB (abides_spans _ _ _ _) hd4
    refine ⟨fun W' => W'.cell? ⟨pb, 0, none⟩ = some (.slice PA p.length pc) ∧ SlR intK No W' PA p.length pc p, held hW4d, ?_⟩
    have n1 : ∀ W', Btw l J (SpansAt sb SA sc sp) w Y0 pb PA pc p ((upto (deletesG p sp) i).length + 1) W' → ¬ (s > 0 ∧ p.getD (s - 1).toNat 0 > 0) → Btw l J (SpansAt sb SA sc sp) w Y0 pb PA pc p (upto (deletesG p sp) (i + 1)).length W' := by
      intro W' h hc
      rw [hl, if_neg hc]
      exact h
    by_cases hs0 : s > 0
    · rw [if_pos (by simpa using hs0)]
      have hws : IntKind.i64.wrap (s - 1) = s - 1 := wrap_id ⟨by omega, by omega⟩
      rw [hws]
      obtain ⟨pa, hpa, _, _⟩ := (held hW4d).2.int (s - 1).toNat (by omega)
      have hpc : ∀ W', SlR intK No W' PA p.length pc p → W'.cell? (pa.add ((s - 1).toNat * 1)) = some (.int .i64 (p.getD (s - 1).toNat 0)) ∧ intOk (p.getD (s - 1).toNat 0) := fun W' h => by
        obtain ⟨pa', hpa', h', ho⟩ := h.int (s - 1).toNat (by omega)
        rw [hpa] at hpa'
        cases hpa'
        exact ⟨h', ho⟩
      refine ⟨_, fun W' h => h.1, _, _, _, rfl, pa, hpa, by omega, by omega, _, fun W' h => (hpc W' h.2).1, _, rfl, ?_⟩
      by_cases hp0 : p.getD (s - 1).toNat 0 > 0
      · rw [if_pos (by simpa using hp0)]
        have hio := (hpc W4 ((held hW4).2)).2
        unfold intOk at hio
        have hwp : IntKind.i64.wrap (p.getD (s - 1).toNat 0 - 1) = p.getD (s - 1).toNat 0 - 1 := wrap_id ⟨by omega, by omega⟩
        refine ⟨_, fun W' h => h.1, _, _, _, rfl, by omega, by omega, _, fun W' h => h.1, _, _, _, rfl, pa, hpa, by omega, by omega, _, fun W' h => (hpc W' h.2).1, _, rfl, _, fun W' h => h.1, _, _, _, rfl, by omega, by omega, by omega, by omega, _, fun W' h => h.1, _, _, _, rfl, by omega, by omega, ?_⟩
        rw [hwp]
        have hE5 : Ext No W4.drew (W4.drew.alloc (.cells (flat [.int .i64 (p.getD (s - 1).toNat 0 - 1)]) 3)) := (Ext.refl No _).alloc _
        obtain ⟨Y4, h14, ⟨h24, h24s⟩, h34, h44⟩ := hW4d.ex
        have hl1 : SlR intK Y4 (W4.drew.alloc (.cells (flat [.int .i64 (p.getD (s - 1).toNat 0 - 1)]) 3)) (some ⟨W4.drew.heap.size, 0, none⟩) 1 1 [p.getD (s - 1).toNat 0 - 1] :=
          litSl (css := [#[.int .i64 (p.getD (s - 1).toNat 0 - 1)]]) 3 1 rfl ⟨⟨rfl, by constructor <;> omega⟩, trivial⟩ (hlY h14) rfl (by simp [maxLen])
        have hW5 := hW4d.ext0 hB (abides_spans _ _ _ _) hE5
        have hp5 := h24.sl.ext hE5.no (Upd.same _ _)
        have hY5 : ∀ b, Y4 b → b < (W4.drew.alloc (.cells (flat [.int .i64 (p.getD (s - 1).toNat 0 - 1)]) 3)).heap.size := fun b hb => Nat.lt_of_lt_of_le (hlY h14 b hb) hE5.size
        refine ⟨by intro u hu; simp at hu; subst hu; rfl, held hW5, ?_⟩
        generalize W4.drew.alloc (.cells (flat [.int .i64 (p.getD (s - 1).toNat 0 - 1)]) 3) = W5 at hE5 hl1 hW5 hp5 hY5
        have hall2 : All2 (fun v d => ∃ A n c, v = Value.slice A n c ∧ SlR intK Y4 W5 A n c d)
            [.slice (sliceAddr PA 0 pc 1) ((s - 1).toNat - 0) (pc - 0), .slice (some ⟨W4.drew.heap.size, 0, none⟩) 1 1, .slice (sliceAddr PA s.toNat pc 1) (b.toNat - s.toNat) (pc - s.toNat), .slice (sliceAddr PA e.toNat pc 1) (p.length - e.toNat) (pc - e.toNat)]
            [(p.take (s - 1).toNat).drop 0, [p.getD (s - 1).toNat 0 - 1], (p.take b.toNat).drop s.toNat, (p.take p.length).drop e.toNat] :=
          ⟨⟨_, _, _, rfl, hp5.sub 0 (s - 1).toNat (by omega) (by omega)⟩, ⟨_, _, _, rfl, hl1⟩, ⟨_, _, _, rfl, hp5.sub s.toNat b.toNat (by omega) (by omega)⟩, ⟨_, _, _, rfl, hp5.sub e.toNat p.length (by omega) (Nat.le_refl _)⟩, trivial⟩
        have hrow2 := litSlices _ _ hall2 hY5 (by simp [maxLen])
        have hE6 : Ext No W5 (W5.alloc (.cells (flat [.slice (sliceAddr PA 0 pc 1) ((s - 1).toNat - 0) (pc - 0), .slice (some ⟨W4.drew.heap.size, 0, none⟩) 1 1, .slice (sliceAddr PA s.toNat pc 1) (b.toNat - s.toNat) (pc - s.toNat), .slice (sliceAddr PA e.toNat pc 1) (p.length - e.toNat) (pc - e.toNat)]) 22)) := (Ext.refl No _).alloc _
        have hfl2 : ([(p.take (s - 1).toNat).drop 0, [p.getD (s - 1).toNat 0 - 1], (p.take b.toNat).drop s.toNat, (p.take p.length).drop e.toNat] : List (List Int)).flatten = p.take (s - 1).toNat ++ ([p.getD (s - 1).toNat 0 - 1] ++ ((p.take b.toNat).drop s.toNat ++ p.drop e.toNat)) := by simp
        have hfll2 : (p.take (s - 1).toNat ++ ([p.getD (s - 1).toNat 0 - 1] ++ ((p.take b.toNat).drop s.toNat ++ p.drop e.toNat))).length ≤ small := by
          simp only [List.length_append, List.length_take, List.length_drop, List.length_cons, List.length_nil]
          unfold small
          omega
        refine ⟨sizedSlices hall2, held (hW5.ext0 hB (abides_spans _ _ _ _) hE6), ?_⟩
        refine Fin.use (joined_ok _ _ hrow2 (by unfold small; simp) (by rw [hfl2]; exact hfll2)) fun r W6 hE7 hr => ?_
        obtain ⟨A2, c2, rfl, hsl2⟩ := hr
        rw [hfl2] at hsl2 ⊢
        have hE47 := (hE5.trans hE6).trans hE7
        have hW6 := hW4d.ext0 hB (abides_spans _ _ _ _) hE47
        have g1 := gG 1 (by rw [if_pos ⟨hs0, hp0⟩]; simp)
        rw [if_pos ⟨hs0, hp0⟩] at g1
        rw [if_pos ⟨hs0, hp0⟩] at hl
        refine ⟨_, _, _, rfl, held hW6, rfl, hW4d.call hB (abides_spans _ _ _ _) hE47 g1.2 (by rw [g1.1]; exact hsl2.mono fun k hk => Nat.lt_of_lt_of_le hk (hE5.trans hE6).size) fun W7 hW7 _ _ _ => ⟨_, rfl, held hW7, ?_⟩⟩
        refine next W7 ?_
        rw [hl]
        exact hW7
      · rw [if_neg (by simpa using hp0)]
        exact next _ (n1 _ hW4d fun h => hp0 h.2)
    · rw [if_neg (by simpa using hs0)]
      exact next _ (n1 _ hW4d fun h => hs0 h.1)
  · rw [if_neg (by simp; omega)]
    unfold m129_K1
    obtain rfl : i = sp.length := by omega
    obtain ⟨Y, h1, h2, h3, h4⟩ := hW.ex
    exact ⟨rfl, Y, h1, h3, h4⟩
end
end Go.Proofs.YtilacabmbjephaaGreatDoor
