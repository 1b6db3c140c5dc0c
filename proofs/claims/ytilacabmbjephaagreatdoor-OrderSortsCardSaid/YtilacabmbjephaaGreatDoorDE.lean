/- The results of passes (package order): the loop over a pass, the loop over the passes. -/
import Derived.Test.YtilacabmbjephaaGreatDoorDC
namespace Go.Proofs.YtilacabmbjephaaGreatDoor
open Go Go.GX
set_option linter.unusedVariables false
set_option linter.unusedSimpArgs false

section
variable {r : Option Nat} {Df : List Deferred} {n : Nat} {C : List Nat} {ρ0 : Env} {kx : Nat → Env → World → Prop} {kn kr : Env → World → Prop} {kp : List PanicEntry → World → Prop} {a : Act} {ρ : Env} {w : World} {Q : Exit → Act → World → Prop}
/-- A piece, then the rest. -/
theorem seq1_sound {x rest : Code} (hok : codeOk (fun _ => ([], [])) n C 0 x = true) (hA : Ag Df n C ρ0 a ρ) (h : codeP Tryz.prog T B (drawP Tryz.prog T B) (fun _ => ([], [])) kp kr x 0 kx kn ρ w)
    (hn : ∀ a' ρ' w', Ag Df n C ρ0 a' ρ' → kn ρ' w' → rest.wpIn (fen r) 0 Tryz.prog Q a' w') (he : ∀ e a' w', e ≠ .normal → QOf Df n C ρ0 kx kn kr kp e a' w' → Q e a' w') : (Code.seq x rest).wpIn (fen r) 0 Tryz.prog Q a w := by
  refine wpIn_seq (wpIn_mono (codeP_sound (r := r) hT hB hD x C ρ0 0 kx kn a ρ w hok hA h) fun e a' w' hq => ?_)
  cases e with
  | normal => obtain ⟨ρ', hA', h'⟩ := hq; exact hn a' ρ' w' hA' h'
  | exit i => exact he (.exit i) a' w' (by simp) hq
  | goto l => exact he (.goto l) a' w' (by simp) hq
  | ret => exact he .ret a' w' (by simp) hq
  | panic ch => exact he (.panic ch) a' w' (by simp) hq
  | outgrown => exact he .outgrown a' w' (by simp) hq
end

/-- The temporaries of the loop over the passes. -/
structure TmL (S : RS) (a : Array Value) : Prop where
  size : a.size = 62
  t3 : a.getD 3 undef = .pointer (some ⟨S.tb, 0, none⟩)
  t4 : a.getD 4 undef = .pointer (some ⟨S.pb, 0, none⟩)
  t8 : a.getD 8 undef = .slice S.SA S.sp.length S.sc
  t10 : a.getD 10 undef = .map (some S.mb)
  t11 : a.getD 11 undef = .pointer (some ⟨S.ob, 0, none⟩)
  t28 : a.getD 28 undef = .slice S.NA S.ids.length S.nc
  t29 : a.getD 29 undef = .int .i64 (S.ids.length : Nat)
def CL : List Nat := [3, 4, 8, 10, 11, 28, 29]
theorem TmL.keep {S : RS} {a a' : Act} {Df : List Deferred} {ρ' : Env} {C : List Nat} (h : TmL S a.tmps) (hC : ∀ d ∈ CL, d ∈ C) (hA : Ag Df 62 C (fun t => a.tmps.getD t undef) a' ρ') : TmL S a'.tmps := by
  have k : ∀ d ∈ CL, a'.tmps.getD d undef = a.tmps.getD d undef := fun d hd => (hA.tmp d).trans (hA.keep d (hC d hd))
  exact ⟨hA.size, (k 3 (by decide)).trans h.t3, (k 4 (by decide)).trans h.t4, (k 8 (by decide)).trans h.t8, (k 10 (by decide)).trans h.t10, (k 11 (by decide)).trans h.t11, (k 28 (by decide)).trans h.t28, (k 29 (by decide)).trans h.t29⟩
theorem agL {S : RS} {a : Act} (h : TmL S a.tmps) (C : List Nat) : Ag a.defers 62 C (fun t => a.tmps.getD t undef) a (fun t => a.tmps.getD t undef) := ⟨h.size, fun _ => rfl, rfl, fun _ _ => rfl⟩

theorem range51 {S : RS} (o : RSo S) {R Qs : List Nat} {outs : List (List Int)} {a : Act} {W : World} {A : Option Addr} {c : Nat} (hTm : TmL S a.tmps) (hI : Inv S R Qs outs W A c) {g : Nat} {caps : Array Value} {id lo hi : Nat} {W1 : World}
    (h39 : a.tmps.getD 39 undef = .func (.func g) #[] caps) (hg : B g = true) (hit : IterOk g caps S id W1 lo hi) (hE1 : Ext No W1 W) (hlo : S.bo ≤ lo) (hhi : hi ≤ W.heap.size) (hown : ∀ b, lo ≤ b → b < hi → ¬ own A b)
    (hfit : ∀ raw ∈ rawsOf S.p S.sp id, ∃ q e', fitP S.t S.e raw S.f = some (q, e')) (hmax : outs.length + (rawsOf S.p S.sp id).length ≤ small) {Q : Exit → Act → World → Prop}
    (hk : ∀ a' W' A' c' D l, a'.tmps = a.tmps → a'.defers = { target := .collected D, args := #[] } :: a.defers → W.heap.size ≤ D → Inv S (D :: R) (l :: D :: Qs) (outs ++ (rawsOf S.p S.sp id).flatMap (fitR S.t S.e S.p S.f)) W' A' c' → Ext (fun b => b = S.ob ∨ own A b) W W' → Q .normal a' W') :
    (cAt [2, 2, 2, 2, 2, 1, 2, 2, 1, 2, 2, 1, 2, 2, 2, 2] (bodyOf Tryz.f51)).wpIn (fen none) 0 Tryz.prog Q a W := by
  have hc : cAt [2, 2, 2, 2, 2, 1, 2, 2, 1, 2, 2, 1, 2, 2, 2, 2] (bodyOf Tryz.f51) = .rangeFunc (.tmp 39) #[40] (cAt [2, 2, 2, 2, 2, 1, 2, 2, 1, 2, 2, 1, 2, 2, 2, 2, 3] (bodyOf Tryz.f51)) (cAt [2, 2, 2, 2, 2, 1, 2, 2, 1, 2, 2, 1, 2, 2, 2, 2, 4] (bodyOf Tryz.f51)) := by kernel_rfl
  rw [hc]
  have hev : a.eval (.tmp 39) = .func (.func g) #[] caps := h39
  refine wpIn_rangeFunc (F := Fence.wide) fun fn hfn => ?_
  have hel := run_enterLoop_outer (P := Tryz.prog) (w := W) fn a.tmps #[40] (cAt [2, 2, 2, 2, 2, 1, 2, 2, 1, 2, 2, 1, 2, 2, 2, 2, 3] (bodyOf Tryz.f51)) (cAt [2, 2, 2, 2, 2, 1, 2, 2, 1, 2, 2, 1, 2, 2, 2, 2, 4] (bodyOf Tryz.f51))
  have hEd : Ext No W (W.alloc (.deferred (some []))) := (Ext.refl No W).alloc _
  have bd : (W.alloc (.deferred (some []))).heap[W.heap.size]? = some (.deferred (some [])) := heap_alloc_new W _
  have sd : (W.alloc (.deferred (some []))).heap.size = W.heap.size + 1 := by simp
  have hEl : Ext No (W.alloc (.deferred (some []))) ((W.alloc (.deferred (some []))).alloc (.loop (recOf W.heap.size fn a.tmps))) := (Ext.refl No _).alloc _
  have bl : ((W.alloc (.deferred (some []))).alloc (.loop (recOf W.heap.size fn a.tmps))).heap[W.heap.size + 1]? = some (.loop (recOf W.heap.size fn a.tmps)) := by rw [← sd]; exact heap_alloc_new _ _
  have sl : ((W.alloc (.deferred (some []))).alloc (.loop (recOf W.heap.size fn a.tmps))).heap.size = W.heap.size + 2 := by simp
  have hel' : (Instr.enterLoop fn a.tmps #[40] (cAt [2, 2, 2, 2, 2, 1, 2, 2, 1, 2, 2, 1, 2, 2, 2, 2, 3] (bodyOf Tryz.f51)) (cAt [2, 2, 2, 2, 2, 1, 2, 2, 1, 2, 2, 1, 2, 2, 2, 2, 4] (bodyOf Tryz.f51)) Fence.wide.round).run Tryz.prog W =
      .ok (W.heap.size + 1, [{ target := .collected W.heap.size, args := #[] }]) ((W.alloc (.deferred (some []))).alloc (.loop (recOf W.heap.size fn a.tmps))) := hel
  generalize hW2 : (W.alloc (.deferred (some []))).alloc (.loop (recOf W.heap.size fn a.tmps)) = W2 at hEl bl sl hel'
  have bd2 : W2.heap[W.heap.size]? = some (.deferred (some [])) := (hEl.block _ (by omega) (fun h => h)).trans bd
  have hE2 := hEd.trans hEl
  refine ⟨W.heap.size + 1, [{ target := .collected W.heap.size, args := #[] }], W2, { target := .fn (.func g) caps, args := #[.func (.yield (W.heap.size + 1)) #[] #[]] }, W2, g, #[.func (.yield (W.heap.size + 1)) #[] #[]] ++ caps, W2, hel', ?_, fun _ _ => trivial, ?_, fun h => (by cases h), ?_⟩
  · simp only [resolve, rangeCall, hev]
    simp [go_sem]
  · obtain ⟨fnn, hfnn, hbody, hname⟩ := hB g hg
    have hp : (program : Sem Program).run Tryz.prog W2 = .ok Tryz.prog W2 := rfl
    simp only [invoke, callFunc, Sem.run_bind, hp, Result.andThen_ok, hfnn, hname, hbody, Bool.false_eq_true, if_false]
    rfl
  · have hTm51 : Tm S a.tmps := ⟨hTm.size, hTm.t3, hTm.t4, hTm.t11⟩
    have hI2 : Inv S (W.heap.size :: R) ((W.heap.size + 1) :: W.heap.size :: Qs) outs W2 A c := by
      have h := hI.ext0 o hE2
      have hbo := h.bo
      have hbo2 := hI.bo
      have hbo3 := o.bo
      have hqlt : ∀ k ∈ Qs, k < W.heap.size := fun k hk => (hI.q k hk).2.1
      refine ⟨h.st, fun r hr => ?_, fun r hr => ?_, List.mem_cons_of_mem _ (List.mem_cons_of_mem _ h.qo), fun k hk => ?_, h.ob, (hI.ow.weak fun k hk => ?_).ext0 hE2, h.bo⟩
      · rcases List.mem_cons.1 hr with rfl | hr
        · exact bd2
        · exact h.mks r hr
      · rcases List.mem_cons.1 hr with rfl | hr
        · exact ⟨List.mem_cons_of_mem _ List.mem_cons_self, by omega⟩
        · exact ⟨List.mem_cons_of_mem _ (List.mem_cons_of_mem _ (h.rq r hr).1), (h.rq r hr).2⟩
      · rcases List.mem_cons.1 hk with rfl | hk
        · exact ⟨by omega, by omega, fun ho => by have := (hI.ow.lt _ ho).2; omega⟩
        · rcases List.mem_cons.1 hk with rfl | hk
          · exact ⟨by omega, by omega, fun ho => by have := (hI.ow.lt _ ho).2; omega⟩
          · exact h.q k hk
      · rcases List.mem_cons.1 hk with rfl | hk
        · exact .inr (.inr (by omega))
        · rcases List.mem_cons.1 hk with rfl | hk
          · exact .inr (.inr (Nat.le_refl _))
          · exact .inl hk
    have hB51 := body51 o hTm51 (R := R) (Q := Qs) (outs := outs) (raws := rawsOf S.p S.sp id) (l := W.heap.size + 1) (D := W.heap.size) (fn := fn) ⟨by have := hI.bo; have := o.bo; omega, by omega, fun h => by have := (hI.q _ (hI.rq _ h).1).2.1; omega⟩ hfit hmax
    have hJ0 : JOf S R Qs outs (rawsOf S.p S.sp id) (W.heap.size + 1) W.heap.size fn a.tmps 0 (fun b => b = W.heap.size + 1 ∨ b = S.ob ∨ own A b) W2 :=
      ⟨A, c, rfl, bl, by simpa using hI2⟩
    have hYbs : ∀ b, (fun b => b = W.heap.size + 1 ∨ b = S.ob ∨ own A b) b → S.bs ≤ b := by
      have h1 := o.mb
      have h2 := o.ob
      have h3 := o.bo
      have h4 := hI.bo
      rintro b (rfl | rfl | h)
      · omega
      · omega
      · have := (hI.ow.lt b h).1; omega
    refine fen_calls (r := none) (n := 0 - 1) ((hit (W.heap.size + 1) _ _ W2 (hE1.trans hE2) hB51 hJ0 ?_ (hI2.st.pa.mono hYbs) (hI2.st.sp.mono hYbs)).mono fun e W3 hQ => ?_)
    · rintro b (rfl | rfl | h) ⟨h1, h2⟩
      · omega
      · have := o.bo; omega
      · exact hown b h1 h2 h
    · cases e with
      | outgrown => exact hQ.elim
      | panicked ch => exact hQ.elim
      | returned v =>
        obtain ⟨rfl, Y', ⟨A', c', rfl, hl3, hI3⟩, hU, hE3⟩ := hQ
        rw [List.take_of_length_le (Nat.le_refl _)] at hI3
        have hle := run_endLoop (P := Tryz.prog) hl3 (by simp [recOf])
        refine ⟨none, _, hle, ?_⟩
        refine hk _ _ A' c' W.heap.size (W.heap.size + 1) rfl rfl (Nat.le_refl _) (hI3.ext o (putObj_ext _ _ _) fun b _ hb => ?_) ?_
        · have hb' : b = W.heap.size + 1 := hb
          rw [hb']
          refine ⟨List.mem_cons_self, fun h => ?_, by have := hI.bo; have := o.bo; omega⟩
          rcases List.mem_cons.1 h with h | h
          · omega
          · have := (hI.q _ (hI.rq _ h).1).2.1
            omega
        · refine (hE2.no.trans' hE3 fun k hk h => ?_ : Ext (fun b => b = S.ob ∨ own A b) W W3).trans' (putObj_ext _ _ _) fun k hk h => ?_
          · rcases h with h | h | h
            · omega
            · exact .inl h
            · exact .inr h
          · have h' : k = W.heap.size + 1 := h
            omega
end Go.Proofs.YtilacabmbjephaaGreatDoor
