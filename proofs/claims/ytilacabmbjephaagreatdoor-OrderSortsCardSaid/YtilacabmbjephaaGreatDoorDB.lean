/- The results of passes (package order): one round of the loop over a pass. -/
import Derived.Test.YtilacabmbjephaaGreatDoorDA
namespace Go.Proofs.YtilacabmbjephaaGreatDoor
open Go Go.GX
set_option linter.unusedVariables false
set_option linter.unusedSimpArgs false

/-- What the call of results knows: where things lie. -/
structure RS where
  bs : Nat
  bo : Nat
  tb : Nat
  pb : Nat
  mb : Nat
  ob : Nat
  TA : Option Addr
  tc : Nat
  t : List Nod
  PA : Option Addr
  pc : Nat
  p : List Int
  SA : Option Addr
  sc : Nat
  sp : List Span
  NA : Option Addr
  nc : Nat
  ids : List Nat
  e : Int
  f : Nat
structure RSo (S : RS) : Prop where
  pos : 0 < S.bs
  tb : S.tb < S.bs
  pb : S.pb < S.bs
  mb : S.bs ≤ S.mb
  ob : S.mb < S.ob
  bo : S.ob < S.bo
  val : ∀ W cs X, Used W → TreeR X W cs S.t → Calls Tryz.prog 47 #[.agg cs] W (Fin W fun v _ => v = .int .i64 S.e)
  small : S.p.length ≤ small
structure Stat (S : RS) (W : World) : Prop where
  tb : W.heap[S.tb]? = some (.cells #[.slice S.TA S.t.length S.tc] 40)
  pb : W.heap[S.pb]? = some (.cells #[.slice S.PA S.p.length S.pc] 22)
  nd : SlR nodeK (fun k => S.bs ≤ k) W S.TA S.t.length S.tc S.t
  pa : SlR intK (fun k => S.bs ≤ k) W S.PA S.p.length S.pc S.p
  sp : SlR spanK (fun k => S.bs ≤ k) W S.SA S.sp.length S.sc S.sp
  nm : SlR strK (fun k => S.bs ≤ k) W S.NA S.ids.length S.nc (S.ids.map nameOf)
  mp : W.heap[S.mb]? = some (.map passMap 4)
  us : Used W
theorem Stat.ext {S : RS} {W W' : World} {Y : Nat → Prop} (h : Stat S W) (o : RSo S) (hE : Ext Y W W') (hY : ∀ k, k < W.heap.size → Y k → S.bs ≤ k ∧ k ≠ S.mb) : Stat S W' := by
  have keep : ∀ {k ob}, W.heap[k]? = some ob → (k < S.bs ∨ k = S.mb) → W'.heap[k]? = some ob := fun hk hc => by
    refine (hE.block _ (Array.getElem?_eq_some_iff.1 hk).1 fun hy => ?_).trans hk
    have := hY _ (Array.getElem?_eq_some_iff.1 hk).1 hy
    omega
  have hE' : Ext (fun k => S.bs ≤ k) W W' := hE.mono fun k hk hy => (hY k hk hy).1
  have := o.pos
  exact ⟨keep h.tb (.inl o.tb), keep h.pb (.inl o.pb), h.nd.ext hE' (Upd.same _ _), h.pa.ext hE' (Upd.same _ _), h.sp.ext hE' (Upd.same _ _), h.nm.ext hE' (Upd.same _ _), keep h.mp (.inr rfl), hE'.cells h.us (by show ¬ S.bs ≤ 0; omega)⟩
structure Inv (S : RS) (R Q : List Nat) (outs : List (List Int)) (W : World) (A : Option Addr) (c : Nat) : Prop where
  st : Stat S W
  mks : ∀ r ∈ R, W.heap[r]? = some (.deferred (some []))
  rq : ∀ r ∈ R, r ∈ Q ∧ r ≠ S.ob
  qo : S.ob ∈ Q
  q : ∀ k ∈ Q, S.ob ≤ k ∧ k < W.heap.size ∧ ¬ own A k
  ob : W.heap[S.ob]? = some (.cells #[.slice A outs.length c] 23)
  ow : OwnR (sliceK intK) 22 S.bo (fun k => k ∈ Q) W A outs.length c outs
  bo : S.bo ≤ W.heap.size
section
variable {S : RS} {R Q : List Nat} {outs : List (List Int)} {W W' : World} {A : Option Addr} {c : Nat} {Y : Nat → Prop}
theorem Inv.ext (h : Inv S R Q outs W A c) (o : RSo S) (hE : Ext Y W W') (hY : ∀ k, k < W.heap.size → Y k → k ∈ Q ∧ k ∉ R ∧ k ≠ S.ob) : Inv S R Q outs W' A c := by
  have hm := o.mb
  have ho := o.ob
  refine ⟨h.st.ext o hE fun k hk hy => ?_, fun r hr => ?_, h.rq, h.qo, fun k hk => ⟨(h.q k hk).1, Nat.lt_of_lt_of_le (h.q k hk).2.1 hE.size, (h.q k hk).2.2⟩, ?_, h.ow.ext hE (fun k hk hy => (hY k hk hy).1) (fun k hk hy => (h.q k (hY k (h.ow.lt k hk).2 hy).1).2.2 hk), Nat.le_trans h.bo hE.size⟩
  · have := (h.q k (hY k hk hy).1).1
    omega
  · have hlt := (Array.getElem?_eq_some_iff.1 (h.mks r hr)).1
    exact (hE.block _ hlt fun hy => (hY _ hlt hy).2.1 hr).trans (h.mks r hr)
  · have hlt := (Array.getElem?_eq_some_iff.1 h.ob).1
    exact (hE.block _ hlt fun hy => (hY _ hlt hy).2.2 rfl).trans h.ob
theorem Inv.ext0 (h : Inv S R Q outs W A c) (o : RSo S) (hE : Ext No W W') : Inv S R Q outs W' A c := h.ext o hE fun _ _ hy => hy.elim
/-- One more path. -/
theorem Inv.push (h : Inv S R Q outs W A c) (o : RSo S) {q : List Int} {W1 : World} {A1 : Option Addr} {c1 : Nat} (hE : Ext (own A) W W1) (hO : OwnR (sliceK intK) 22 S.bo (fun k => k ∈ Q) W1 A1 (outs.length + 1) c1 (outs ++ [q])) (hf : ∀ k, own A1 k → own A k ∨ W.heap.size ≤ k) :
    Inv S R Q (outs ++ [q]) (W1.setCell ⟨S.ob, 0, none⟩ (.slice A1 (outs.length + 1) c1)) A1 c1 ∧ W1.heap[S.ob]? = some (.cells #[.slice A outs.length c] 23) := by
  have hm := o.mb
  have ho := o.ob
  have hbo := o.bo
  have nob : ¬ own A S.ob := (h.q _ h.qo).2.2
  have obs := (Array.getElem?_eq_some_iff.1 h.ob).1
  have b1 := (hE.block _ obs nob).trans h.ob
  refine ⟨?_, b1⟩
  have hE2 : Ext (fun k => k = S.ob) W1 (W1.setCell ⟨S.ob, 0, none⟩ (.slice A1 (outs.length + 1) c1)) := (Ext.refl _ _).setCell _ fun _ => rfl
  have b2 := setCell_row (o := 0) (v := .slice A1 (outs.length + 1) c1) b1
  have s2 : (W1.setCell ⟨S.ob, 0, none⟩ (.slice A1 (outs.length + 1) c1)).heap.size = W1.heap.size := by simp [World.setCell]
  generalize W1.setCell ⟨S.ob, 0, none⟩ (.slice A1 (outs.length + 1) c1) = W2 at hE2 b2 s2
  have nob1 : ¬ own A1 S.ob := fun hh => by
    rcases hf _ hh with h' | h'
    · exact nob h'
    · omega
  have ownlt := h.ow.lt
  refine ⟨(h.st.ext o hE fun k hk hy => ?_).ext o hE2 fun k hk hy => ?_, fun r hr => ?_, h.rq, h.qo, fun k hk => ⟨(h.q k hk).1, ?_, fun hh => ?_⟩, ?_, ?_, ?_⟩
  · have := (ownlt k hy).1; omega
  · have hy' : k = S.ob := hy
    omega
  · have hlt := (Array.getElem?_eq_some_iff.1 (h.mks r hr)).1
    have e1 := (hE.block _ hlt (h.q r (h.rq r hr).1).2.2).trans (h.mks r hr)
    exact (hE2.block _ (Array.getElem?_eq_some_iff.1 e1).1 (h.rq r hr).2).trans e1
  · have := (h.q k hk).2.1
    have := hE.size
    omega
  · rcases hf _ hh with h' | h'
    · exact (h.q k hk).2.2 h'
    · have := (h.q k hk).2.1; omega
  · rw [b2]; simp
  · have := hO.ext hE2 (fun k _ hy => by have hy' : k = S.ob := hy; rw [hy']; exact h.qo) fun k hk hy => by have hy' : k = S.ob := hy; rw [hy'] at hk; exact nob1 hk
    simpa using this
  · have := h.bo
    have := hE.size
    omega
end

/-- The record of the loop over a pass. -/
noncomputable def recOf (D : Nat) (fn : Nat) (tmps : Array Value) : Loop :=
  { state := .ready, pending := none, fn, tmps, params := #[40], assign := cAt [2, 2, 2, 2, 2, 1, 2, 2, 1, 2, 2, 1, 2, 2, 2, 2, 3] (bodyOf Tryz.f51), body := cAt [2, 2, 2, 2, 2, 1, 2, 2, 1, 2, 2, 1, 2, 2, 2, 2, 4] (bodyOf Tryz.f51), defers := D }
/-- The temporaries that the rounds read. -/
structure Tm (S : RS) (a : Array Value) : Prop where
  size : a.size = 62
  t3 : a.getD 3 undef = .pointer (some ⟨S.tb, 0, none⟩)
  t4 : a.getD 4 undef = .pointer (some ⟨S.pb, 0, none⟩)
  t11 : a.getD 11 undef = .pointer (some ⟨S.ob, 0, none⟩)
theorem getD_set_ne' {a : Array Value} {i j : Nat} {v : Value} (h : i ≠ j) : (a.setIfInBounds i v).getD j undef = a.getD j undef := by
  simp only [Array.getD_eq_getD_getElem?, Array.getElem?_setIfInBounds_ne h]
theorem getD_set_eq {a : Array Value} {i : Nat} {v : Value} (h : i < a.size) : (a.setIfInBounds i v).getD i undef = v := by
  simp [Array.getD_eq_getD_getElem?, h]
theorem agSelf (a : Act) (n : Nat) (h : a.tmps.size = n) : Ag a.defers n [] (fun t => a.tmps.getD t undef) a (fun t => a.tmps.getD t undef) := ⟨h, fun _ => rfl, rfl, fun _ _ => rfl⟩

def JOf (S : RS) (R Q : List Nat) (outs : List (List Int)) (raws : List (List Int)) (l D fn : Nat) (tmps : Array Value) : Nat → (Nat → Prop) → World → Prop := fun k Y W =>
  ∃ A c, Y = (fun b => b = l ∨ b = S.ob ∨ own A b) ∧ W.heap[l]? = some (.loop (recOf D fn tmps)) ∧ Inv S (D :: R) (l :: D :: Q) (outs ++ (raws.take k).flatMap (fitR S.t S.e S.p S.f)) W A c

theorem take_succ_getD {α : Type} (l : List α) (k : Nat) (d : α) (h : k < l.length) : l.take (k + 1) = l.take k ++ [l.getD k d] := by
  rw [List.take_succ_eq_append_getElem h, List.getD_eq_getElem?_getD, List.getElem?_eq_getElem h]
  rfl
theorem slInts {X : Nat → Prop} {W : World} {A : Option Addr} {n c : Nat} {ds : List Int} (h : SlR intK X W A n c ds) : ∀ x ∈ ds, intOk x := by
  intro x hx
  obtain ⟨i, hi, rfl⟩ := List.getElem_of_mem hx
  obtain ⟨a, cs, _, hR, _⟩ := h.get i (by rw [← h.len]; exact hi)
  exact hR.2

set_option maxHeartbeats 1000000 in
theorem body51 {S : RS} (o : RSo S) {R Q : List Nat} {outs raws : List (List Int)} {l D fn : Nat} {tmps : Array Value} (hT51 : Tm S tmps) (hne : l ≠ S.ob ∧ l ≠ D ∧ l ∉ R) (hfit : ∀ raw ∈ raws, ∃ q e', fitP S.t S.e raw S.f = some (q, e')) (hmax : outs.length + raws.length ≤ small) :
    Body l raws (JOf S R Q outs raws l D fn tmps) := by
  have hm := o.mb
  have hob := o.ob
  have hbo := o.bo
  refine ⟨?_, ?_, ?_⟩
  · rintro k Y W W' ⟨A, c, rfl, hl, hI⟩ hE
    exact ⟨A, c, rfl, (hE.block _ (Array.getElem?_eq_some_iff.1 hl).1 (fun h => h)).trans hl, hI.ext0 o hE⟩
  · rintro k Y W ⟨A, c, rfl, hl, hI⟩ b (rfl | rfl | hb)
    · exact (Array.getElem?_eq_some_iff.1 hl).1
    · exact (Array.getElem?_eq_some_iff.1 hI.ob).1
    · exact (hI.ow.lt b hb).2
  · rintro k Y W A' n c' hk ⟨A, c, rfl, hl, hI⟩ hs
    have hll := (Array.getElem?_eq_some_iff.1 hl).1
    refine ⟨_, _, _, _, W, run_yield hl rfl, roundIn_of_wpIn (F := Fence.wide) (n := 0) trivial ?_⟩
    have hz : (recOf D fn tmps).params.zip #[Value.slice A' n c'] = #[(40, Value.slice A' n c')] := by simp [recOf]
    rw [hz]
    obtain ⟨T1, hT1'⟩ : ∃ T1, T1 = tmps.setIfInBounds 40 (.slice A' n c') := ⟨_, rfl⟩
    have z1 : T1.size = 62 := by rw [hT1']; simp [hT51.size]
    have r3 : T1.getD 3 undef = .pointer (some ⟨S.tb, 0, none⟩) := by rw [hT1', getD_set_ne' (by decide)]; exact hT51.t3
    have r4 : T1.getD 4 undef = .pointer (some ⟨S.pb, 0, none⟩) := by rw [hT1', getD_set_ne' (by decide)]; exact hT51.t4
    have r11 : T1.getD 11 undef = .pointer (some ⟨S.ob, 0, none⟩) := by rw [hT1', getD_set_ne' (by decide)]; exact hT51.t11
    have r40 : T1.getD 40 undef = .slice A' n c' := by rw [hT1', getD_set_eq (by rw [hT51.size]; decide)]
    have hact : ({ tmps := (#[(40, Value.slice A' n c')] : Array (Nat × Value)).foldl (fun tmps (x : Nat × Value) => match x with | (t, a) => tmps.setIfInBounds t a) (recOf D fn tmps).tmps, defers := [] } : Act) = { tmps := T1, defers := [] } := by rw [hT1']; simp [recOf]
    show (cAt [2, 2, 2, 2, 2, 1, 2, 2, 1, 2, 2, 1, 2, 2, 2, 2, 3] (bodyOf Tryz.f51)).wpIn (fen (some l)) 0 Tryz.prog _ ({ tmps := (#[(40, Value.slice A' n c')] : Array (Nat × Value)).foldl (fun tmps (x : Nat × Value) => match x with | (t, a) => tmps.setIfInBounds t a) (recOf D fn tmps).tmps, defers := [] } : Act) W
    rw [hact]
    have hA1 := agSelf { tmps := T1, defers := [] } 62 z1
    have hp4 := m51_P4_e (fun _ _ => False) (fun v3 v4 v11 v14 w => v3 = .pointer (some ⟨S.tb, 0, none⟩) ∧ v4 = .pointer (some ⟨S.pb, 0, none⟩) ∧ v11 = .pointer (some ⟨S.ob, 0, none⟩) ∧ v14 = .slice A' n c' ∧ w = W) ⟨S.tb, 0, none⟩ ⟨S.pb, 0, none⟩ ⟨S.ob, 0, none⟩ A' n c' (fun t => T1.getD t undef) W
    rw [wr_self _ _ _ (by simp only [List.map_cons, List.map_nil]; rw [r3, r4, r11, r40])] at hp4
    refine wpIn_mono (codeP_sound (r := some l) hT hB hD _ [] _ 0 _ _ _ _ W (by kernel_rfl) hA1 (Eq.mpr hp4 (by unfold m51_P4; exact ⟨rfl, rfl, rfl, rfl, rfl⟩))) ?_
    intro e a2 W2 hq
    cases e with
    | panic ch => exact hq.2.elim
    | goto _ => exact hq.elim
    | outgrown => exact hq.elim
    | exit _ => obtain ⟨_, _, h⟩ := hq; exact h.elim
    | ret =>
      obtain ⟨ρ, hA, h⟩ := hq
      obtain ⟨_, _, h⟩ := resP_sound hT hA h
      exact h.elim
    | normal =>
    obtain ⟨ρ2, hA2, q3, q4, q11, q14, rfl⟩ := hq
    have hrb := run_beginRound (P := Tryz.prog) hl rfl
    refine ⟨_, hrb, ?_⟩
    -- the body
    have hE1 : Ext (fun b => b = l) W2 (W2.putObj l (.loop { recOf D fn tmps with state := .busy })) := putObj_ext _ _ _
    have b1 : (W2.putObj l (.loop { recOf D fn tmps with state := .busy })).heap[l]? = some (.loop { recOf D fn tmps with state := .busy }) := World.putObj_heap_same hll
    have s1 : (W2.putObj l (.loop { recOf D fn tmps with state := .busy })).heap.size = W2.heap.size := by simp
    generalize W2.putObj l (.loop { recOf D fn tmps with state := .busy }) = W3 at hE1 b1 s1
    have hlR : l ∉ D :: R := by
      intro h
      rcases List.mem_cons.1 h with h | h
      · exact hne.2.1 h
      · exact hne.2.2 h
    have hI3 : Inv S (D :: R) (l :: D :: Q) (outs ++ (raws.take k).flatMap (fitR S.t S.e S.p S.f)) W3 A c := hI.ext o hE1 fun b _ hb => by
      have hb' : b = l := hb
      rw [hb']
      exact ⟨List.mem_cons_self, hlR, hne.1⟩
    have hs3 : SlR intK No W3 A' n c' (raws.getD k []) := by
      have h0 : SlR intK (fun b => b = l) W2 A' n c' (raws.getD k []) := hs.mono fun b hb => .inl hb
      exact (h0.ext hE1 (Upd.same _ _)).mono fun b hb => hb.elim
    have hraw : raws.getD k [] ∈ raws := by
      rw [List.getD_eq_getElem?_getD, List.getElem?_eq_getElem hk]
      exact List.getElem_mem hk
    obtain ⟨q, e', hq⟩ := hfit _ hraw
    have hrl : (fitR S.t S.e S.p S.f (raws.getD k [])) = if e' = 0 ∧ pathCmp q S.p < 0 then [q] else [] := by simp only [fitR, hq]
    -- what holds behind the round, but for the record
    let Post : World → Prop := fun w => ∃ A2 c2, w.heap[l]? = some (.loop { recOf D fn tmps with state := .busy }) ∧ Inv S (D :: R) (l :: D :: Q) (outs ++ (raws.take (k + 1)).flatMap (fitR S.t S.e S.p S.f)) w A2 c2 ∧ (∀ b, own A2 b → own A b ∨ W2.heap.size ≤ b) ∧ Ext (fun b => b = l ∨ b = S.ob ∨ own A b) W2 w
    have htk : (raws.take (k + 1)).flatMap (fitR S.t S.e S.p S.f) = (raws.take k).flatMap (fitR S.t S.e S.p S.f) ++ (if e' = 0 ∧ pathCmp q S.p < 0 then [q] else []) := by
      rw [take_succ_getD raws k [] hk, List.flatMap_append, List.flatMap_singleton, hrl]
    have hE3l : Ext (fun b => b = l ∨ b = S.ob ∨ own A b) W2 W3 := hE1.mono fun b _ h => .inl h
    have same : ∀ w, Ext No W3 w → ¬ (e' = 0 ∧ pathCmp q S.p < 0) → Post w := by
      intro w hE hc
      refine ⟨A, c, (hE.block _ (Array.getElem?_eq_some_iff.1 b1).1 (fun h => h)).trans b1, ?_, fun b h => .inl h, hE3l.then hE⟩
      rw [htk, if_neg hc, List.append_nil]
      exact hI3.ext0 o hE
    have hfl : ((raws.take k).flatMap (fitR S.t S.e S.p S.f)).length ≤ k := by
      have : ∀ l : List (List Int), (l.flatMap (fitR S.t S.e S.p S.f)).length ≤ l.length := by
        intro l
        induction l with
        | nil => simp
        | cons x l ih =>
          rw [List.flatMap_cons, List.length_append, List.length_cons]
          have : (fitR S.t S.e S.p S.f x).length ≤ 1 := by
            unfold fitR
            split
            · split <;> simp
            · simp
          omega
      exact Nat.le_trans (this _) (List.length_take_le _ _)
    have K2 : ∀ (w : World) (b : Bool) (A1 : Option Addr) (n1 c1 : Nat), Ext No W3 w → SlR intK (Old W3) w A1 n1 c1 q → (b = true ↔ (e' = 0 ∧ pathCmp q S.p < 0)) → m51_P5_K2 (fun _ _ => False) Post ⟨S.ob, 0, none⟩ A1 n1 c1 b w := by
      intro w b A1 n1 c1 hE hq1 hb
      unfold m51_P5_K2 m51_P5_K1
      cases b with
      | false =>
        rw [if_neg (by simp)]
        exact same w hE (fun h => by have := hb.2 h; cases this)
      | true =>
        rw [if_pos rfl]
        have hI4 := hI3.ext0 o hE
        refine ⟨_, row_cell hI4.ob 0 _ rfl, _, _, _, rfl, by intro v hv; simp at hv; subst hv; rfl, ?_⟩
        have hlen : (outs ++ (raws.take k).flatMap (fitR S.t S.e S.p S.f)).length ≤ small := by
          rw [List.length_append]
          omega
        unfold small at hlen
        refine hI4.ow.push' elPath (v := .slice A1 n1 c1) (x := q) rfl ⟨_, _, _, rfl, hq1.mono fun b hb => ?_⟩ hI4.bo (by rw [maxLen_eq]; omega) (by omega) fun A5 c5 w5 hE5 hO5 hf5 => ?_
        · rcases hb with hb | hb
          · exact (hI3.q b hb).2.1
          · exact (hI3.ow.lt b hb).2
        obtain ⟨hI6, b5⟩ := hI4.push o hE5 hO5 hf5
        refine ⟨_, _, _, rfl, ⟨_, row_cell b5 0 _ rfl⟩, row_free b5 0, ?_⟩
        have hE6 : Ext (fun b => b = l ∨ b = S.ob ∨ own A b) W2 (w5.setCell ⟨S.ob, 0, none⟩ (.slice A5 ((outs ++ (raws.take k).flatMap (fitR S.t S.e S.p S.f)).length + 1) c5)) :=
          ((hE3l.then hE).trans (hE5.mono fun b _ h => .inr (.inr h))).setCell _ fun _ => .inr (.inl rfl)
        have hlw : w.heap[l]? = some (.loop { recOf D fn tmps with state := .busy }) := (hE.block _ (Array.getElem?_eq_some_iff.1 b1).1 (fun h => h)).trans b1
        have hl5 := (hE5.block _ (Array.getElem?_eq_some_iff.1 hlw).1 (hI4.q l List.mem_cons_self).2.2).trans hlw
        have hE7 : Ext (fun b => b = S.ob) w5 (w5.setCell ⟨S.ob, 0, none⟩ (.slice A5 ((outs ++ (raws.take k).flatMap (fitR S.t S.e S.p S.f)).length + 1) c5)) := (Ext.refl _ _).setCell _ fun _ => rfl
        refine ⟨A5, c5, (hE7.block _ (Array.getElem?_eq_some_iff.1 hl5).1 hne.1).trans hl5, ?_, fun b h => ?_, hE6⟩
        · rw [htk, if_pos (hb.1 rfl), ← List.append_assoc]
          exact hI6
        · rcases hf5 b h with h | h
          · exact .inl h
          · have := hE.size
            exact .inr (by omega)
    have hp5 := m51_P5_e (fun _ _ => False) Post ⟨S.tb, 0, none⟩ ⟨S.pb, 0, none⟩ ⟨S.ob, 0, none⟩ A' n c' ρ2 W3
    rw [wr_self _ _ _ (by simp only [List.map_cons, List.map_nil]; rw [q3, q4, q11, q14])] at hp5
    have hst := hI3.st
    have hn := hs.len
    have hP5 : m51_P5 (fun _ _ => False) Post ⟨S.tb, 0, none⟩ ⟨S.pb, 0, none⟩ ⟨S.ob, 0, none⟩ A' n c' W3 := by
      unfold m51_P5
      refine ⟨_, rfl, row_cells hst.tb, Fin.use (fit_ok (X := No) _ S.t A' n c' (raws.getD k []) W3 S.e S.f q e' ⟨_, _, rfl, hst.nd.mono fun b hb => hb.elim⟩ hs3 (fun b hb => hb.elim) (slInts hs3) (fun w' cs' X' hE' ht' => o.val w' cs' X' (hst.us.ext hE') ht') hq) fun v W4 hE4 hv => ?_⟩
      obtain ⟨A1, n1, c1, rfl, hq1⟩ := hv
      refine ⟨_, _, rfl, _, _, _, rfl, _, rfl, ?_⟩
      by_cases he : e' = 0
      · rw [if_pos (by simpa using he)]
        have hst4 := hst.ext o hE4 fun k _ h => h.elim
        refine ⟨_, row_cell hst4.pb 0 _ rfl, _, _, _, rfl, Fin.use (compare_ok (Old W3) (fun k => S.bs ≤ k) A1 S.PA n1 c1 _ S.pc q S.p W4 hq1 hst4.pa) fun v W5 hE5 hv => ⟨_, hv, ?_⟩⟩
        refine K2 W5 _ A1 n1 c1 (hE4.trans hE5) (hq1.ext hE5.no (Upd.same _ _)) ?_
        rw [decide_eq_true_eq]
        exact ⟨fun h => ⟨he, h⟩, fun h => h.2⟩
      · rw [if_neg (by simpa using he)]
        exact K2 W4 false A1 n1 c1 hE4 hq1 ⟨fun h => (by cases h), fun h => absurd h.1 he⟩
    have hA2' : Ag [] 62 [] ρ2 a2 ρ2 := ⟨hA2.size, hA2.tmp, hA2.defers, fun _ _ => rfl⟩
    refine wpIn_mono (codeP_sound (r := some l) hT hB hD (cAt [2, 2, 2, 2, 2, 1, 2, 2, 1, 2, 2, 1, 2, 2, 2, 2, 4] (bodyOf Tryz.f51)) [] _ 0 _ _ _ _ W3 (by kernel_rfl) hA2' (Eq.mpr hp5 hP5)) ?_
    intro e a3 W6 hq
    cases e with
    | panic ch => exact hq.2.elim
    | goto _ => exact hq.elim
    | outgrown => exact hq.elim
    | exit _ => obtain ⟨_, _, h⟩ := hq; exact h.elim
    | ret =>
      obtain ⟨ρ, hA, h⟩ := hq
      obtain ⟨_, _, h⟩ := resP_sound hT hA h
      exact h.elim
    | normal =>
    obtain ⟨ρ3, hA3, A2, c2, hl6, hI6, hf6, hE6⟩ := hq
    have hre := run_endRound (P := Tryz.prog) none hl6
    refine ⟨_, _, hre, rfl, (fun b => b = l ∨ b = S.ob ∨ own A2 b), ⟨A2, c2, rfl, World.putObj_heap_same (Array.getElem?_eq_some_iff.1 hl6).1, ?_⟩, ?_, ?_⟩
    · exact hI6.ext o (putObj_ext _ _ _) fun b _ hb => by
        have hb' : b = l := hb
        rw [hb']
        exact ⟨List.mem_cons_self, hlR, hne.1⟩
    · rintro b (h | h | h)
      · exact .inl (.inl h)
      · exact .inl (.inr (.inl h))
      · exact (hf6 b h).imp (fun h => .inr (.inr h)) id
    · exact hE6.trans ((putObj_ext _ _ _).mono fun b _ h => .inl h)
end Go.Proofs.YtilacabmbjephaaGreatDoor
