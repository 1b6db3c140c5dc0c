/- The results of passes (package order): the loop over the passes. -/
import Derived.Test.YtilacabmbjephaaGreatDoorDE
namespace Go.Proofs.YtilacabmbjephaaGreatDoor
open Go Go.GX
set_option linter.unusedVariables false
set_option linter.unusedSimpArgs false

theorem b75 : B 75 = true := by kernel_rfl
theorem b76 : B 76 = true := by kernel_rfl
theorem b77 : B 77 = true := by kernel_rfl
theorem b78 : B 78 = true := by kernel_rfl
theorem fitR_le (t : List Nod) (e : Int) (p : List Int) (f : Nat) (l : List (List Int)) : (l.flatMap (fitR t e p f)).length ≤ l.length := by
  induction l with
  | nil => simp
  | cons x l ih =>
    rw [List.flatMap_cons, List.length_append, List.length_cons]
    have : (fitR t e p f x).length ≤ 1 := by
      unfold fitR
      split
      · split <;> simp
      · simp
    omega
theorem outs_le (t : List Nod) (e : Int) (p : List Int) (sp : List Span) (f : Nat) (ids : List Nat) : (outsOf t e p sp f ids).length ≤ (ids.flatMap (rawsOf p sp)).length := by
  induction ids with
  | nil => simp [outsOf]
  | cons i ids ih =>
    have h1 := fitR_le t e p f (rawsOf p sp i)
    unfold outsOf at ih ⊢
    simp only [List.flatMap_cons, List.length_append]
    omega
theorem take_flat_le {α β : Type} (f : α → List β) (l : List α) (i : Nat) : ((l.take i).flatMap f).length ≤ (l.flatMap f).length := by
  conv => rhs; rw [← List.take_append_drop i l, List.flatMap_append, List.length_append]
  omega

set_option maxHeartbeats 1000000 in
theorem loop51 {S : RS} (o : RSo S) (hok : ∀ x ∈ S.sp, spanOk S.p.length x) (hid : ∀ id ∈ S.ids, id < 4) (hfit : ∀ id ∈ S.ids, ∀ raw ∈ rawsOf S.p S.sp id, ∃ q e', fitP S.t S.e raw S.f = some (q, e')) (hbig : (S.ids.flatMap (rawsOf S.p S.sp)).length ≤ small) (hids : S.ids.length ≤ small)
    {a : Act} {W : World} {Qs : List Nat} (hT : TmL S a.tmps) (h30 : a.tmps.getD 30 undef = .int .i64 0) (hd : a.defers = []) (hI : Inv S [] Qs [] W none 0) {Q : Exit → Act → World → Prop}
    (hk : ∀ a' W' R Qs A c, TmL S a'.tmps → a'.defers = (R.map fun r => { target := .collected r, args := #[] }) → R.Nodup → Inv S R Qs (outsOf S.t S.e S.p S.sp S.f S.ids) W' A c → Ext (fun b => S.ob ≤ b) W W' → Q .normal a' W') :
    (Code.block 0 (.loop (cAt [2, 2, 2, 2, 2, 1, 2, 2, 1] (bodyOf Tryz.f51)))).wpIn (fen none) 0 Tryz.prog Q a W := by
  have hLB : cAt [2, 2, 2, 2, 2, 1, 2, 2, 1] (bodyOf Tryz.f51) = .seq (cAt [2, 2, 2, 2, 2, 1, 2, 2, 1, 1] (bodyOf Tryz.f51)) (.seq (cAt [2, 2, 2, 2, 2, 1, 2, 2, 1, 2, 1] (bodyOf Tryz.f51)) (.seq (.block 1 (.seq (cAt [2, 2, 2, 2, 2, 1, 2, 2, 1, 2, 2, 1, 2, 1] (bodyOf Tryz.f51)) (.seq (cAt [2, 2, 2, 2, 2, 1, 2, 2, 1, 2, 2, 1, 2, 2, 1] (bodyOf Tryz.f51)) (.block 2 (cAt [2, 2, 2, 2, 2, 1, 2, 2, 1, 2, 2, 1, 2, 2, 2, 2] (bodyOf Tryz.f51)))))) (cAt [2, 2, 2, 2, 2, 1, 2, 2, 1, 2, 2, 2] (bodyOf Tryz.f51)))) := by kernel_rfl
  refine wpIn_block (wp_loop_n (m := S.ids.length) (fun m a' W' => ∃ (i : Nat) (R Qs : List Nat) (A : Option Addr) (c : Nat), TmL S a'.tmps ∧ a'.tmps.getD 30 undef = .int .i64 (i : Nat) ∧ a'.defers = (R.map fun r => { target := .collected r, args := #[] }) ∧ R.Nodup ∧ i ≤ S.ids.length ∧ m = S.ids.length - i ∧
    Inv S R Qs (outsOf S.t S.e S.p S.sp S.f (S.ids.take i)) W' A c ∧ Ext (fun b => S.ob ≤ b) W W')
    ⟨0, [], Qs, none, 0, hT, h30, hd, List.nodup_nil, Nat.zero_le _, rfl, hI, Ext.refl _ _⟩ ?_)
  rintro m a1 W1 ⟨i, R, Qs1, A, c, hT1, h301, hd1, hnd, hi, rfl, hI1, hE1⟩
  rw [hLB]
  unfold small at hids
  have hA1 := agL hT1 (30 :: CL)
  have hp2 := m51_P2_e (fun _ _ => False) (fun w => w = W1 ∧ i < S.ids.length) (fun w => w = W1 ∧ i = S.ids.length) (S.ids.length : Nat) (i : Nat) (fun t => a1.tmps.getD t undef) W1
  rw [wr_self _ _ _ (by simp only [List.map_cons, List.map_nil]; rw [hT1.t29, h301])] at hp2
  have hP2 : m51_P2 (fun _ _ => False) (fun w => w = W1 ∧ i < S.ids.length) (fun w => w = W1 ∧ i = S.ids.length) (S.ids.length : Nat) (i : Nat) W1 := by
    unfold m51_P2
    by_cases h : i < S.ids.length
    · rw [if_pos (by simp; omega)]; exact ⟨rfl, h⟩
    · rw [if_neg (by simp; omega)]; exact ⟨rfl, by omega⟩
  have hc2 := Eq.mpr hp2 hP2
  -- the ways out
  have he : ∀ (kn : Env → World → Prop) (e : Exit) (a' : Act) (w' : World), e ≠ .normal → QOf a1.defers 62 (30 :: CL) (fun t => a1.tmps.getD t undef) (fun i_1 ρ w => bif Nat.beq i_1 0 then w = W1 ∧ i = S.ids.length else False) kn (fun ρ w => resP Tryz.prog T Tryz.f51.results.toList ρ w fun v => False) (fun ch w => False) e a' w' →
      Exit.then (fun a' w' => ∃ m', m' < S.ids.length - i ∧ ∃ (i : Nat) (R Qs : List Nat) (A : Option Addr) (c : Nat), TmL S a'.tmps ∧ a'.tmps.getD 30 undef = .int .i64 (i : Nat) ∧ a'.defers = (R.map fun r => { target := .collected r, args := #[] }) ∧ R.Nodup ∧ i ≤ S.ids.length ∧ m' = S.ids.length - i ∧
        Inv S R Qs (outsOf S.t S.e S.p S.sp S.f (S.ids.take i)) w' A c ∧ Ext (fun b => S.ob ≤ b) W w') (Exit.inBlock 0 Q) e a' w' := by
    intro kn e a' w' hne hq
    cases e with
    | normal => exact absurd rfl hne
    | goto l => exact hq.elim
    | outgrown => exact hq.elim
    | panic ch => exact hq.2.elim
    | ret =>
      obtain ⟨ρ, hA, h⟩ := hq
      obtain ⟨_, _, h⟩ := resP_sound Go.Proofs.YtilacabmbjephaaGreatDoor.hT hA h
      exact h.elim
    | exit j =>
      obtain ⟨ρ, hA, h⟩ := hq
      cases j with
      | succ j => exact h.elim
      | zero =>
        obtain ⟨rfl, hin⟩ := h
        show Exit.inBlock 0 Q (.exit 0) a' w'
        simp only [Exit.inBlock, if_true]
        refine hk a' w' R Qs1 A c (hT1.keep (fun d hd => List.mem_cons_of_mem _ hd) hA) (hA.defers.trans hd1) hnd ?_ hE1
        rw [List.take_of_length_le (by omega)] at hI1
        exact hI1
  refine seq1_sound (n := 62) (C := 30 :: CL) (kx := fun i_1 ρ w => bif Nat.beq i_1 0 then w = W1 ∧ i = S.ids.length else False) (kr := fun ρ w => resP Tryz.prog T Tryz.f51.results.toList ρ w fun v => False) (kp := fun ch w => False) (by kernel_rfl) hA1 hc2 (fun a2 ρ2 w2 hA2 h2 => ?_) (he _)
  refine seq1_sound (n := 62) (C := 30 :: CL) (by kernel_rfl) hA2 h2 (fun a3 ρ3 w3 hA3 h3 => ?_) (he _)
  obtain ⟨rfl, hlt⟩ := h3
  have hT3 := hT1.keep (fun d hd => List.mem_cons_of_mem _ hd) hA3
  have h303 : a3.tmps.getD 30 undef = .int .i64 (i : Nat) := ((hA3.tmp 30).trans (hA3.keep 30 List.mem_cons_self)).trans h301
  have hd3 : a3.defers = (R.map fun r => { target := .collected r, args := #[] }) := hA3.defers.trans hd1
  have hidm : S.ids.getD i 0 ∈ S.ids := by
    rw [List.getD_eq_getElem?_getD, List.getElem?_eq_getElem hlt]
    exact List.getElem_mem hlt
  have hid4 := hid _ hidm
  have hst := hI1.st
  refine wpIn_seq (wpIn_block ?_)
  -- the pass
  have hA3' := agL hT3 (30 :: CL)
  have hp3 := m51_P3_e (fun _ _ => False) (fun v w => Ext No w3 w ∧ ∃ g caps, v = .func (.func g) #[] caps ∧ B g = true ∧ IterOk g caps S (S.ids.getD i 0) w w3.heap.size w.heap.size) ⟨S.pb, 0, none⟩ S.SA S.sp.length S.sc (.map (some S.mb)) S.NA S.ids.length S.nc (i : Nat) (fun t => a3.tmps.getD t undef) w3
  rw [wr_self _ _ _ (by simp only [List.map_cons, List.map_nil]; rw [hT3.t4, hT3.t8, hT3.t10, hT3.t28, h303])] at hp3
  have hP3 : m51_P3 (fun _ _ => False) (fun v w => Ext No w3 w ∧ ∃ g caps, v = .func (.func g) #[] caps ∧ B g = true ∧ IterOk g caps S (S.ids.getD i 0) w w3.heap.size w.heap.size) ⟨S.pb, 0, none⟩ S.SA S.sp.length S.sc (.map (some S.mb)) S.NA S.ids.length S.nc (i : Nat) w3 := by
    unfold m51_P3
    obtain ⟨p, hp, hpc, _⟩ := hst.nm.str i hlt
    have hnm : (S.ids.map nameOf).getD i ByteArray.empty = nameOf (S.ids.getD i 0) := by
      simp [List.getD_eq_getElem?_getD, List.getElem?_eq_getElem hlt]
    rw [hnm] at hpc
    refine ⟨p, hp, by omega, by omega, _, by rw [Int.toNat_natCast]; exact hpc, _, rfl, _, _, map_get hst.mp _ _ _ (passMap_get _ hid4), _, _, _, rfl, _, row_cell hst.pb 0 _ rfl, _, _, _, rfl, ?_, ?_⟩
    · generalize S.ids.getD i 0 = id at hid4
      match id, hid4 with
      | 0, _ => exact b75
      | 1, _ => exact b76
      | 2, _ => exact b77
      | 3, _ => exact b78
    · refine (pass_ok S o.small hok _ hid4 w3).mono fun e w4 hR => ?_
      cases e with
      | outgrown => exact hR
      | panicked ch => exact hR
      | returned v =>
        obtain ⟨hE4, g, caps, rfl, hB, hit⟩ := hR
        exact ⟨_, _, _, rfl, hE4, g, caps, rfl, hB, hit⟩
  have hc3 := Eq.mpr hp3 hP3
  have he3 : ∀ (kn : Env → World → Prop) (Q' : Exit → Act → World → Prop) (e : Exit) (a' : Act) (w' : World), e ≠ .normal → QOf a3.defers 62 (30 :: CL) (fun t => a3.tmps.getD t undef) (fun i ρ w => False) kn (fun ρ w => resP Tryz.prog T Tryz.f51.results.toList ρ w fun v => False) (fun ch w => False) e a' w' → Q' e a' w' := by
    intro kn Q' e a' w' hne hq
    cases e with
    | normal => exact absurd rfl hne
    | goto l => exact hq.elim
    | outgrown => exact hq.elim
    | panic ch => exact hq.2.elim
    | ret =>
      obtain ⟨ρ, hA, h⟩ := hq
      obtain ⟨_, _, h⟩ := resP_sound Go.Proofs.YtilacabmbjephaaGreatDoor.hT hA h
      exact h.elim
    | exit j =>
      obtain ⟨ρ, hA, h⟩ := hq
      exact h.elim
  refine seq1_sound (n := 62) (C := 30 :: CL) (kx := fun i ρ w => False) (kr := fun ρ w => resP Tryz.prog T Tryz.f51.results.toList ρ w fun v => False) (kp := fun ch w => False) (by kernel_rfl) hA3' hc3 (fun a4 ρ4 w4 hA4 h4 => ?_) (he3 _ _)
  refine seq1_sound (n := 62) (C := 30 :: CL) (by kernel_rfl) hA4 h4 (fun a5 ρ5 w5 hA5 h5 => ?_) (he3 _ _)
  obtain ⟨hE5, g, caps, h39, hBg, hit⟩ := h5
  have hT5 := hT3.keep (fun d hd => List.mem_cons_of_mem _ hd) hA5
  have h305 : a5.tmps.getD 30 undef = .int .i64 (i : Nat) := ((hA5.tmp 30).trans (hA5.keep 30 List.mem_cons_self)).trans h303
  have hd5 : a5.defers = (R.map fun r => { target := .collected r, args := #[] }) := hA5.defers.trans hd3
  have hI5 := hI1.ext0 o hE5
  have hlen5 : (outsOf S.t S.e S.p S.sp S.f (S.ids.take i)).length + (rawsOf S.p S.sp (S.ids.getD i 0)).length ≤ small := by
    have h1 := outs_le S.t S.e S.p S.sp S.f (S.ids.take i)
    have h2 := take_flat_le (rawsOf S.p S.sp) S.ids (i + 1)
    rw [take_succ_getD S.ids i 0 hlt, List.flatMap_append, List.length_append, List.flatMap_singleton] at h2
    omega
  refine wpIn_block (range51 o hT5 hI5 ((hA5.tmp 39).trans h39) hBg hit (Ext.refl _ _) hI1.bo (Nat.le_refl _) (fun b hb1 hb2 ho => ?_) (hfit _ hidm) hlen5 fun a6 W6 A6 c6 D l ht6 hd6 hD6 hI6 hE6 => ?_)
  · have := (hI1.ow.lt b ho).2; omega
  show (cAt [2, 2, 2, 2, 2, 1, 2, 2, 1, 2, 2, 2] (bodyOf Tryz.f51)).wpIn (fen none) 0 Tryz.prog _ a6 W6
  -- the next one
  have hT6 : TmL S a6.tmps := by rw [ht6]; exact hT5
  have hA6 := agL hT6 CL
  have hp6 := m51_P6_e (fun _ _ => False) (fun v w => v = .int .i64 ((i + 1 : Nat) : Int) ∧ w = W6) (i : Nat) (fun t => a6.tmps.getD t undef) W6
  rw [wr_self _ _ _ (by simp only [List.map_cons, List.map_nil]; rw [ht6, h305])] at hp6
  refine wpIn_mono (codeP_sound (r := none) Go.Proofs.YtilacabmbjephaaGreatDoor.hT hB hD _ CL _ 0 _ _ _ _ W6 (by kernel_rfl) hA6 (Eq.mpr hp6 (by unfold m51_P6; exact ⟨by rw [wrap_id ⟨by omega, by omega⟩]; rfl, rfl⟩))) ?_
  intro e a7 w7 hq
  cases e with
  | goto l => exact hq.elim
  | outgrown => exact hq.elim
  | panic ch => exact hq.2.elim
  | ret =>
    obtain ⟨ρ, hA, h⟩ := hq
    obtain ⟨_, _, h⟩ := resP_sound Go.Proofs.YtilacabmbjephaaGreatDoor.hT hA h
    exact h.elim
  | exit j =>
    obtain ⟨ρ, hA, h⟩ := hq
    exact h.elim
  | normal =>
    obtain ⟨ρ7, hA7, h30', rfl⟩ := hq
    have hdis : D ∉ R := fun h => by have := (hI5.q D (hI5.rq D h).1).2.1; omega
    refine ⟨S.ids.length - (i + 1), by omega, i + 1, D :: R, l :: D :: Qs1, A6, c6, hT6.keep (fun d hd => hd) hA7, (hA7.tmp 30).trans h30', ?_, List.nodup_cons.2 ⟨hdis, hnd⟩, by omega, rfl, ?_, ?_⟩
    · rw [hA7.defers, hd6, hd5]; rfl
    · have : outsOf S.t S.e S.p S.sp S.f (S.ids.take (i + 1)) = outsOf S.t S.e S.p S.sp S.f (S.ids.take i) ++ (rawsOf S.p S.sp (S.ids.getD i 0)).flatMap (fitR S.t S.e S.p S.f) := by
        rw [take_succ_getD S.ids i 0 hlt]
        simp only [outsOf, List.flatMap_append, List.flatMap_singleton]
      rw [this]
      exact hI6
    · refine (hE1.then hE5).trans (hE6.mono fun b _ hb => ?_)
      rcases hb with rfl | hb
      · exact Nat.le_refl _
      · have := (hI1.ow.lt b hb).1
        have := o.bo
        show S.ob ≤ b
        omega
end Go.Proofs.YtilacabmbjephaaGreatDoor
