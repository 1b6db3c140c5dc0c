/- The results of passes (package order): the whole function. -/
import Derived.Test.YtilacabmbjephaaGreatDoorDF
namespace Go.Proofs.YtilacabmbjephaaGreatDoor
open Go Go.GX
set_option linter.unusedVariables false
set_option linter.unusedSimpArgs false

set_option maxHeartbeats 1000000 in
theorem results_ok {X : Nat → Prop} (cs : Array Value) (t : List Nod) (PA : Option Addr) (pn pc : Nat) (p : List Int) (NA : Option Addr) (nn nc : Nat) (ids : List Nat) (w : World) (e : Int) (f : Nat) (sp : List Span) (er : Int)
    (ht : TreeR X w cs t) (hp : SlR intK X w PA pn pc p) (hnm : SlR strK X w NA nn nc (ids.map nameOf)) (hX : ∀ k, X k → k < w.heap.size) (hU : Used w)
    (val : ∀ W cs X, Used W → TreeR X W cs t → Calls Tryz.prog 47 #[.agg cs] W (Fin W fun v _ => v = .int .i64 e)) (hsp : spansP t e p f = some (sp, er)) (hsmall : p.length ≤ small)
    (hok : er = 0 → ∀ x ∈ sp, spanOk p.length x) (hid : ∀ id ∈ ids, id < 4) (hfit : er = 0 → ∀ id ∈ ids, ∀ raw ∈ rawsOf p sp id, ∃ q e', fitP t e raw f = some (q, e')) (hbig : er = 0 → (ids.flatMap (rawsOf p sp)).length ≤ small) (hids : ids.length ≤ small)
    (h12 : er = 0 → (outsOf t e p sp f ids).length ≤ 12) :
    Calls Tryz.prog 51 #[.agg cs, .slice PA pn pc, .slice NA nn nc] w (Fin w fun v w' => ∃ A n c, v = .tuple #[.slice A n c, .int .i64 er] ∧ SlR (sliceK intK) No w' A n c (if er = 0 then sortL (outsOf t e p sp f ids) else [])) := by
  obtain ⟨TA, tc, rfl, hs⟩ := id ht
  have hpl := hp.len
  subst hpl
  have hnl := hnm.len
  simp only [List.length_map] at hnl
  subst hnl
  have hb : Tryz.f51.body = some (bodyOf Tryz.f51) := by kernel_rfl
  have hc51 : bodyOf Tryz.f51 = .seq (cAt [1] (bodyOf Tryz.f51)) (.seq (cAt [2, 1] (bodyOf Tryz.f51)) (.seq (cAt [2, 2, 1] (bodyOf Tryz.f51)) (.seq (cAt [2, 2, 2, 1] (bodyOf Tryz.f51)) (.seq (cAt [2, 2, 2, 2, 1] (bodyOf Tryz.f51))
      (.seq (.seq (cAt [2, 2, 2, 2, 2, 1, 1] (bodyOf Tryz.f51)) (.block 0 (.loop (cAt [2, 2, 2, 2, 2, 1, 2, 2, 1] (bodyOf Tryz.f51))))) (.seq (cAt [2, 2, 2, 2, 2, 2, 1] (bodyOf Tryz.f51)) (cAt [2, 2, 2, 2, 2, 2, 2] (bodyOf Tryz.f51)))))))) := by kernel_rfl
  refine callsIn_wide.1 (callsIn_of_wp_marks (F := Fence.wide) (n := 0) Tryz.func51 hb trivial ?_ rfl)
  obtain ⟨R, hR⟩ : ∃ R, R = Fin w fun v w' => ∃ A n c, v = .tuple #[.slice A n c, .int .i64 er] ∧ SlR (sliceK intK) No w' A n c (if er = 0 then sortL (outsOf t e p sp f ids) else []) := ⟨_, rfl⟩
  rw [← hR, hc51]
  obtain ⟨a0, ha0⟩ : ∃ a0 : Act, a0 = { tmps := #[.agg #[.slice TA t.length tc], .slice PA p.length pc, .slice NA ids.length nc] ++ Array.replicate (Tryz.f51.ntmps - (#[.agg #[.slice TA t.length tc], .slice PA p.length pc, .slice NA ids.length nc] : Array Value).size) undef, defers := [] } := ⟨_, rfl⟩
  rw [← ha0]
  have hz : a0.tmps.size = 62 := by rw [ha0]; simp [Tryz.ntmps51]
  have z0 : a0.tmps.getD 0 undef = .agg #[.slice TA t.length tc] := by rw [ha0]; simp [Array.getD_eq_getD_getElem?]
  have z1 : a0.tmps.getD 1 undef = .slice PA p.length pc := by rw [ha0]; simp [Array.getD_eq_getD_getElem?]
  have z2 : a0.tmps.getD 2 undef = .slice NA ids.length nc := by rw [ha0]; simp [Array.getD_eq_getD_getElem?]
  have hd0 : a0.defers = [] := by rw [ha0]
  have hA0 := agSelf a0 62 hz
  rw [hd0] at hA0
  let K : Value → Value → Value → Value → Value → Value → Value → Value → World → Prop := fun v3 v4 v8 v10 v11 v28 v29 v30 W => er = 0 ∧ ∃ S : RS, RSo S ∧ S.t = t ∧ S.p = p ∧ S.sp = sp ∧ S.ids = ids ∧ S.e = e ∧ S.f = f ∧ w.heap.size ≤ S.ob ∧
    v3 = .pointer (some ⟨S.tb, 0, none⟩) ∧ v4 = .pointer (some ⟨S.pb, 0, none⟩) ∧ v8 = .slice S.SA S.sp.length S.sc ∧ v10 = .map (some S.mb) ∧ v11 = .pointer (some ⟨S.ob, 0, none⟩) ∧ v28 = .slice S.NA S.ids.length S.nc ∧ v29 = .int .i64 (S.ids.length : Nat) ∧ v30 = .int .i64 0 ∧
    Inv S [] [S.ob] [] W none 0 ∧ Ext No w W
  have hp1 := m51_P1_e R K #[.slice TA t.length tc] PA p.length pc NA ids.length nc (fun t => a0.tmps.getD t undef) w
  rw [wr_self _ _ _ (by simp only [List.map_cons, List.map_nil]; rw [z0, z1, z2])] at hp1
  have hP1 : m51_P1 R K #[.slice TA t.length tc] PA p.length pc NA ids.length nc w := by
    unfold m51_P1
    have hE1 : Ext No w (w.alloc (.cells #[.slice TA t.length tc] 40)) := (Ext.refl No w).alloc _
    have b1 : (w.alloc (.cells #[.slice TA t.length tc] 40)).heap[w.heap.size]? = some (.cells #[.slice TA t.length tc] 40) := heap_alloc_new w _
    have s1 : (w.alloc (.cells #[.slice TA t.length tc] 40)).heap.size = w.heap.size + 1 := by simp
    generalize w.alloc (.cells #[.slice TA t.length tc] 40) = w1 at hE1 b1 s1
    have hE2 : Ext No w1 (w1.alloc (.cells #[.slice PA p.length pc] 22)) := (Ext.refl No w1).alloc _
    have b2 : (w1.alloc (.cells #[.slice PA p.length pc] 22)).heap[w1.heap.size]? = some (.cells #[.slice PA p.length pc] 22) := heap_alloc_new w1 _
    have s2 : (w1.alloc (.cells #[.slice PA p.length pc] 22)).heap.size = w1.heap.size + 1 := by simp
    generalize w1.alloc (.cells #[.slice PA p.length pc] 22) = w2 at hE2 b2 s2
    have b1' := (hE2.block _ (by omega) (fun h => h)).trans b1
    have hw2 := hE1.trans hE2
    refine ⟨_, rfl, row_cells b1', _, row_cell b2 0 _ rfl, _, _, _, rfl, Fin.use (spans_ok (X := X) _ t PA p.length pc p w2 e f sp er (ht.ext hw2.no (Upd.same _ _)) (hp.ext hw2.no (Upd.same _ _)) (fun k hk => Nat.lt_of_lt_of_le (hX k hk) hw2.size) (fun w' cs' X' h h' => val w' cs' X' ((hU.ext hw2).ext h) h') hsp) fun v w3 hE3 hv => ?_⟩
    obtain ⟨SA, sn, sc, rfl, hss⟩ := hv
    have hsl := hss.len
    subst hsl
    have hw3 := hw2.trans hE3
    refine ⟨_, _, rfl, _, _, _, rfl, _, rfl, ?_⟩
    by_cases he : er = 0
    · rw [if_neg (by simpa using he)]
      refine map_made w3 fun w4 hE4 b4 s4 => ?_
      have hE5 : Ext No w4 (w4.alloc (.cells #[.slice none 0 0] 23)) := (Ext.refl No w4).alloc _
      have b5 : (w4.alloc (.cells #[.slice none 0 0] 23)).heap[w4.heap.size]? = some (.cells #[.slice none 0 0] 23) := heap_alloc_new w4 _
      have s5 : (w4.alloc (.cells #[.slice none 0 0] 23)).heap.size = w4.heap.size + 1 := by simp
      generalize w4.alloc (.cells #[.slice none 0 0] 23) = w5 at hE5 b5 s5
      have z3 := hE3.size
      have hE35 := hE4.trans hE5
      have hw5 := hw3.trans hE35
      have c1 := ((hE3.trans hE35).block _ (by omega) (fun h => h)).trans b1'
      have c2 := ((hE3.trans hE35).block _ (by omega) (fun h => h)).trans b2
      have c4 := (hE5.block _ (by omega) (fun h => h)).trans b4
      have up : ∀ {k}, w3.heap.size ≤ k → X k ∨ w.heap.size ≤ k := fun h => .inr (Nat.le_trans hw3.size h)
      refine ⟨he, ⟨w3.heap.size, w5.heap.size, w.heap.size, w1.heap.size, w3.heap.size, w4.heap.size, TA, tc, t, PA, pc, p, SA, sc, sp, NA, nc, ids, e, f⟩, ⟨?_, ?_, ?_, Nat.le_refl _, ?_, ?_, val, hsmall⟩, rfl, rfl, rfl, rfl, rfl, rfl, ?_, rfl, rfl, rfl, rfl, rfl, rfl, rfl, rfl, ?_, hw5⟩
      · show 0 < w3.heap.size
        omega
      · show w.heap.size < w3.heap.size
        omega
      · show w1.heap.size < w3.heap.size
        omega
      · show w3.heap.size < w4.heap.size
        omega
      · show w4.heap.size < w5.heap.size
        omega
      · show w.heap.size ≤ w4.heap.size
        have := hw3.size
        omega
      · refine ⟨⟨c1, c2, ?_, ?_, ?_, ?_, c4, hU.ext hw5⟩, fun r hr => (by cases hr), fun r hr => (by cases hr), List.mem_singleton.2 rfl, fun k hk => ?_, b5, OwnR.nil _ _ _ _ _, Nat.le_refl _⟩
        · exact hs.ext hw5.no fun k hk => up hk
        · exact hp.ext hw5.no fun k hk => up hk
        · have h1 : SlR spanK (fun k => w3.heap.size ≤ k) w3 SA sp.length sc sp := hss.ext (Ext.refl _ _) fun k hk => .inr hk
          exact h1.ext hE35.no (Upd.same _ _)
        · have := hnm.ext (X' := fun k => w3.heap.size ≤ k) hw5.no fun k hk => up hk
          exact this
        · rw [List.mem_singleton.1 hk]
          exact ⟨Nat.le_refl _, by show w4.heap.size < w5.heap.size; omega, own_none _⟩
    · rw [if_pos (by simpa using he)]
      rw [hR]
      exact Fin.ret hw3 ⟨_, _, _, rfl, by rw [if_neg he]; exact SlR.nil _ _ _ _ _ (by simp) fun _ => rfl⟩
  have hc1 := Eq.mpr hp1 hP1
  -- the ways out of the beginning
  have he1 : ∀ (kn : Env → World → Prop) (e : Exit) (a' : Act) (w' : World), e ≠ .normal → QOf [] 62 [] (fun t => a0.tmps.getD t undef) (fun i ρ w => False) kn (fun ρ w => resP Tryz.prog T Tryz.f51.results.toList ρ w fun v => R (.returned v) w) (fun ch w => R (.panicked ch) w) e a' w' →
      bodyPostM Fence.wide 0 Tryz.prog Tryz.f51 R e a' w' := by
    intro kn e a' w' hne hq
    cases e with
    | normal => exact absurd rfl hne
    | goto l => exact hq.elim
    | outgrown => exact hq.elim
    | panic ch =>
      have h2 := hq.2
      rw [hR] at h2
      exact h2.elim
    | exit j =>
      obtain ⟨ρ, hA, h⟩ := hq
      exact h.elim
    | ret =>
      obtain ⟨ρ, hA, h⟩ := hq
      show LeavesInM _ _ _ _ _ _ a'.defers _ _
      rw [hA.defers]
      exact resP_sound hT hA h
  refine seq1_sound (r := none) (n := 62) (C := []) (kx := fun i ρ w => False) (kr := fun ρ w => resP Tryz.prog T Tryz.f51.results.toList ρ w fun v => R (.returned v) w) (kp := fun ch w => R (.panicked ch) w) (by kernel_rfl) hA0 hc1 (fun a1 ρ1 w1 hA1 h1 => ?_) (he1 _)
  refine seq1_sound (n := 62) (C := []) (by kernel_rfl) hA1 h1 (fun a2 ρ2 w2 hA2 h2 => ?_) (he1 _)
  refine seq1_sound (n := 62) (C := []) (by kernel_rfl) hA2 h2 (fun a3 ρ3 w3 hA3 h3 => ?_) (he1 _)
  refine seq1_sound (n := 62) (C := []) (by kernel_rfl) hA3 h3 (fun a4 ρ4 w4 hA4 h4 => ?_) (he1 _)
  refine seq1_sound (n := 62) (C := []) (by kernel_rfl) hA4 h4 (fun a5 ρ5 w5 hA5 h5 => ?_) (he1 _)
  refine wpIn_seq (seq1_sound (n := 62) (C := []) (by kernel_rfl) hA5 h5 (fun a6 ρ6 w6 hA6 h6 => ?_) (fun e a' w' hne hq => ?_))
  rotate_left
  · have := he1 _ e a' w' hne hq
    cases e with
    | normal => exact absurd rfl hne
    | _ => exact this
  obtain ⟨her, S, o, rfl, rfl, rfl, rfl, rfl, rfl, hob, y3, y4, y8, y10, y11, y28, y29, y30, hI, hEw⟩ := h6
  have hTm : TmL S a6.tmps := ⟨hA6.size, (hA6.tmp 3).trans y3, (hA6.tmp 4).trans y4, (hA6.tmp 8).trans y8, (hA6.tmp 10).trans y10, (hA6.tmp 11).trans y11, (hA6.tmp 28).trans y28, (hA6.tmp 29).trans y29⟩
  refine loop51 o (hok her) hid (hfit her) (hbig her) hids hTm ((hA6.tmp 30).trans y30) hA6.defers hI fun a7 W7 Rm Qs A c hT7 hd7 hnd hI7 hE7 => ?_
  show (Code.seq (cAt [2, 2, 2, 2, 2, 2, 1] (bodyOf Tryz.f51)) (cAt [2, 2, 2, 2, 2, 2, 2] (bodyOf Tryz.f51))).wpIn (fen none) 0 Tryz.prog _ a7 W7
  have hA7 := agL hT7 []
  have hp7 := m51_P7_e (fun e w => (∀ r ∈ Rm, w.heap[r]? = some (.deferred (some []))) ∧ ∀ w'', Ext (fun k => k ∈ Rm) w w'' → R e w'') (fun _ => False) ⟨S.ob, 0, none⟩ (fun t => a7.tmps.getD t undef) W7
  rw [wr_self _ _ _ (by simp only [List.map_cons, List.map_nil]; rw [hT7.t11])] at hp7
  have hP7 : m51_P7 (fun e w => (∀ r ∈ Rm, w.heap[r]? = some (.deferred (some []))) ∧ ∀ w'', Ext (fun k => k ∈ Rm) w w'' → R e w'') (fun _ => False) ⟨S.ob, 0, none⟩ W7 := by
    unfold m51_P7
    refine ⟨_, row_cell hI7.ob 0 _ rfl, _, _, _, rfl, Fin.use (sort_ok (X := fun k => k ∈ Qs) _ (hI7.ow.sl' (fun k hk => .inl hk) fun k hk hq => (hI7.q k hq).2.2 hk) (fun k hk => (hI7.q k hk).2.1) (h12 her)) fun v w8 hE8 hv => ?_⟩
    obtain ⟨A', k', c', rfl, hs8⟩ := hv
    refine ⟨_, _, _, rfl, fun r hr => (hE8.block _ (hI7.q r (hI7.rq r hr).1).2.1 (fun h => h)).trans (hI7.mks r hr), fun w9 hE9 => ?_⟩
    rw [hR]
    have hE9' : Ext (fun k => k ∈ Qs) w8 w9 := hE9.mono fun k _ hk => (hI7.rq k hk).1
    refine Fin.ret (((hEw.trans' hE7 fun k hk h => by omega).trans hE8).trans' hE9' fun k hk h => by have := (hI7.q k h).1; omega) ⟨A', k', c', by rw [her], ?_⟩
    rw [if_pos her]
    exact (hs8.ext hE9' (Upd.same _ _)).mono fun k hk => hk.elim
  refine wpIn_mono (codeP_sound (r := none) hT hB hD _ [] _ 0 _ _ _ _ W7 (by kernel_rfl) hA7 (Eq.mpr hp7 hP7)) ?_
  intro e a8 w8 hq
  cases e with
  | goto l => exact hq.elim
  | outgrown => exact hq.elim
  | exit j =>
    obtain ⟨ρ, hA, h⟩ := hq
    exact h.elim
  | normal =>
    obtain ⟨ρ, hA, h⟩ := hq
    exact h.elim
  | panic ch =>
    have h2 := hq.2.2 w8 (Ext.refl _ _)
    rw [hR] at h2
    exact h2.elim
  | ret =>
    obtain ⟨ρ, hA, h⟩ := hq
    have h' : (∀ r ∈ Rm, w8.heap[r]? = some (.deferred (some []))) ∧ ∀ w'', Ext (fun k => k ∈ Rm) w8 w'' → R (.returned (.tuple #[ρ 6, ρ 7])) w'' := h
    show LeavesInM _ _ _ _ _ _ a8.defers _ _
    rw [hA.defers, hd7]
    refine marks_leave Rm w8 hnd h'.1 fun w9 hE9 => ?_
    have hres := resP_sound hT (fn := Tryz.f51) (w := w9) (k := fun v => R (.returned v) w9) hA (show R (.returned (.tuple #[ρ 6, ρ 7])) w9 from h'.2 w9 hE9)
    exact hres
end Go.Proofs.YtilacabmbjephaaGreatDoor
