/- The evaluator is sound: regions in the order of the text, code, bodies. -/
import Derived.Test.YtilacabmbjephaaGreatDoorGxD
import Derived.TacticsIn
namespace Go.GX
set_option linter.unusedVariables false
set_option linter.unusedSimpArgs false
attribute [local simp] Sem.run

structure Ag (Df : List Deferred) (n : Nat) (C : List Nat) (ρ0 : Env) (a : Act) (ρ : Env) : Prop where
  size : a.tmps.size = n
  tmp : ∀ t, a.tmps.getD t undef = ρ t
  defers : a.defers = Df
  keep : ∀ d ∈ C, ρ d = ρ0 d

section
variable {Df : List Deferred} {P : Program} {T : Nat → Option TK} {B : Nat → Bool} {n : Nat} {C : List Nat} {ρ0 : Env} {a : Act} {ρ : Env}

theorem Ag.stays (h : Ag Df n C ρ0 a ρ) : a.defers = Df ∧ ∀ d ∈ C, a.tmps.getD d undef = ρ0 d := ⟨h.defers, fun d hd => (h.tmp d).trans (h.keep d hd)⟩
theorem Ag.eval (h : Ag Df n C ρ0 a ρ) : a.eval = ρ.ev := by
  funext x
  cases x with
  | tmp t => exact h.tmp t
  | const v => rfl
  | global g => rfl
  | func f => rfl
theorem Env.set_same (ρ : Env) (d : Nat) (v : Value) : (ρ.set d v) d = v := by simp [Env.set]
theorem beq_ne {t d : Nat} (h : t ≠ d) : Nat.beq t d = false := by
  cases h' : Nat.beq t d with
  | false => rfl
  | true => exact absurd (Nat.eq_of_beq_eq_true h') h
theorem Env.set_ne (ρ : Env) {d t : Nat} (v : Value) (h : t ≠ d) : (ρ.set d v) t = ρ t := by
  have : Nat.beq t d = false := beq_ne h
  simp [Env.set, this]
theorem Env.set_self {ρ : Env} {d : Nat} {v : Value} (h : ρ d = v) : ρ.set d v = ρ := by
  funext t
  by_cases e : t = d
  · subst e; rw [Env.set_same, h]
  · rw [Env.set_ne _ _ e]
theorem Ag.put (h : Ag Df n C ρ0 a ρ) (dst : Option Nat) (v : Value) (hd : ∀ d, dst = some d → d < n ∧ d ∉ C) : Ag Df n C ρ0 (a.put dst v) (ρ.put dst v) := by
  cases dst with
  | none => exact h
  | some d =>
    obtain ⟨hd', hC⟩ := hd d rfl
    refine ⟨by simp [Act.put, h.size], fun t => ?_, h.defers, fun t ht => by
      rw [Env.put, Env.set_ne _ _ (fun e => hC (by rw [← e]; exact ht))]
      exact h.keep t ht⟩
    by_cases e : t = d
    · subst e
      simp [Act.put, Env.put, Env.set_same, Array.getD, h.size, hd']
    · have := h.tmp t
      simp only [Env.put, Env.set_ne _ _ e, ← this, Act.put]
      simp only [Array.getD_eq_getD_getElem?, Array.getElem?_setIfInBounds_ne (Ne.symm e)]
theorem Ag.set_self (h : Ag Df n C ρ0 a ρ) {d : Nat} {v : Value} (hd : ρ d = v) : Ag Df n C ρ0 a (ρ.set d v) := by rw [Env.set_self hd]; exact h

def dstsOk (n : Nat) (C : List Nat) (l : List Oper) : Bool := l.all fun o => match o.dst with | some d => Nat.blt d n && !(C.any (Nat.beq d)) | none => true
theorem not_any {C : List Nat} {d : Nat} (h : (!(C.any (Nat.beq d))) = true) : d ∉ C := by
  intro hm
  have : C.any (Nat.beq d) = true := List.any_eq_true.2 ⟨d, hm, Nat.beq_refl d⟩
  rw [this] at h
  cases h
theorem dst_ok {C : List Nat} {o : Oper} (h : (match o.dst with | some d => Nat.blt d n && !(C.any (Nat.beq d)) | none => true) = true) : ∀ d, o.dst = some d → d < n ∧ d ∉ C := by
  intro d hd
  rw [hd] at h
  simp only [Bool.and_eq_true] at h
  exact ⟨by simpa [Nat.blt_eq] using h.1, not_any h.2⟩
theorem dstsOk_cons {o : Oper} {l : List Oper} (h : dstsOk n C (o :: l) = true) : (∀ d, o.dst = some d → d < n ∧ d ∉ C) ∧ dstsOk n C l = true := by
  simp only [dstsOk, List.all_cons, Bool.and_eq_true] at h
  exact ⟨dst_ok h.1, h.2⟩

def QOf (Df : List Deferred) (n : Nat) (C : List Nat) (ρ0 : Env) (kx : Nat → Env → World → Prop) (kn kr : Env → World → Prop) (kp : List PanicEntry → World → Prop) : Exit → Act → World → Prop
  | .normal, a, w => ∃ ρ, Ag Df n C ρ0 a ρ ∧ kn ρ w
  | .exit i, a, w => ∃ ρ, Ag Df n C ρ0 a ρ ∧ kx i ρ w
  | .ret, a, w => ∃ ρ, Ag Df n C ρ0 a ρ ∧ kr ρ w
  | .panic ch, a, w => (a.defers = Df ∧ ∀ d ∈ C, a.tmps.getD d undef = ρ0 d) ∧ kp ch w
  | _, _, _ => False

/-- All functions, any depth; in a round of the loop r, or in none. -/
def fen (r : Option Nat) : Fence := { Fence.wide with round := r }
theorem fen_calls {r : Option Nat} {n : Nat} {f : FuncId} {args : Array Value} {w : World} {R : Ending → World → Prop} (h : Calls P f args w R) : CallsIn (fen r) n P f args w R := callsIn_wide.2 h
theorem fen_round {r : Option Nat} {n l f : Nat} {tmps : Array Value} {assign body : Code} {w : World} {R : Ending → World → Prop} (h : RoundIn Fence.wide 0 P l f tmps assign body w R) : RoundIn (fen r) n P l f tmps assign body w R :=
  ⟨trivial, fun c cs _ => h.2 c cs (room_wide _)⟩
def notDefer (o : Oper) : Bool := match o.op with | .defer _ => false | _ => true
theorem notDefer_spec {o : Oper} (h : notDefer o = true) : ∀ c, o.op ≠ .defer c := by
  intro c hc
  rw [notDefer, hc] at h
  cases h
theorem wp_of_upon {r : Option Nat} {o : Oper} {w : World} {k : Value → World → Prop} {kp : List PanicEntry → World → Prop} {next : Act → World → Prop} {Q : Exit → Act → World → Prop}
    (hd : ∀ c, o.op ≠ .defer c) (he : a.eval = ρ.ev) (h : Upon P k kp ((execOp ρ.ev o).run P w)) (hn : ∀ v w', k v w' → next (a.put o.dst v) w') (hp : ∀ ch w', kp ch w' → Q (.panic ch) a w') : o.wpIn (fen r) 0 P a w next Q := by
  refine ⟨fun _ _ => trivial, ?_⟩
  rw [Oper.semAt_eq _ _ _ hd, he]
  cases hr : (execOp ρ.ev o).run P w with
  | ok x w' =>
    rw [hr] at h
    cases x with
    | value v => exact hn _ _ h
    | skip => exact hn _ _ h
    | enter f args =>
      have h' : Calls P f args w' (Ret k kp) := h
      refine ⟨fun h => (by cases h), fen_calls (Calls.mono h' fun e w'' hR => ?_)⟩
      cases e with
      | returned v => exact hn _ _ hR
      | panicked ch => exact hp _ _ hR
      | outgrown => exact False.elim hR
    | round l f tmps assign body =>
      have h' : RoundIn Fence.wide 0 P l f tmps assign body w' (Ret k kp) := h
      refine ⟨fun h => (by cases h), RoundIn.mono (fen_round h') fun e w'' hR => ?_⟩
      cases e with
      | returned v => exact hn _ _ hR
      | panicked ch => exact hp _ _ hR
      | outgrown => exact False.elim hR
    | _ => exact False.elim h
  | halt x w' =>
    rw [hr] at h
    cases x with
    | panic v => exact hp _ _ h
    | _ => exact False.elim h

theorem opP_notDefer {o : Oper} {w : World} {k : Value → World → Prop} {kp : List PanicEntry → World → Prop} (h : opP P T B o.op o.type ρ w k kp) : ∀ c, o.op ≠ .defer c := by
  intro c hc
  rw [hc] at h
  exact h
theorem opP_sound (hT : TOk P T) (hB : BOk P B) {o : Oper} {w : World} {k : Value → World → Prop} {kp : List PanicEntry → World → Prop}
    (h : opP P T B o.op o.type ρ w k kp) : Upon P k kp ((execOp ρ.ev o).run P w) := by
  unfold opP at h
  split at h
  · rename_i v hv
    rw [pureV_sound hT hv w]
    exact h
  · exact effP_sound hT hB h

theorem yielded_of {ops : Array Oper} (h : Ag Df n C ρ0 a ρ) {j d : Nat} (hd : dstAt ops j = some d) (b : Bool) (hb : ρ d = .bool b) : yielded ops a.tmps j = some b := by
  unfold yielded
  unfold dstAt at hd
  rw [hd]
  have ht := h.tmp d
  have hlt : d < a.tmps.size := by
    rcases Nat.lt_or_ge d a.tmps.size with h1 | h1
    · exact h1
    · simp [Array.getD, Nat.not_lt.2 h1, hb, undef] at ht
  simp only [Array.getD, hlt, dif_pos] at ht
  simp only [Option.bind_some, Array.getElem?_eq_getElem hlt]
  have : a.tmps[d] = .bool b := by rw [← hb]; exact ht
  rw [this]
theorem yielded_not {ops : Array Oper} (h : Ag Df n C ρ0 a ρ) {j d : Nat} (hd : dstAt ops j = some d) (hb : ∀ b, ρ d ≠ .bool b) : yielded ops a.tmps j = none := by
  unfold yielded
  unfold dstAt at hd
  rw [hd]
  have ht := h.tmp d
  simp only [Option.bind_some]
  rcases Nat.lt_or_ge d a.tmps.size with hlt | hlt
  · simp only [Array.getD, hlt, dif_pos] at ht
    simp only [Array.getElem?_eq_getElem hlt]
    have : a.tmps[d] = ρ d := ht
    rw [this]
    cases hv : ρ d <;> first | rfl | exact absurd hv (hb _)
  · simp [Array.getElem?_eq_none hlt]

theorem opsP_sound {r : Option Nat} (hT : TOk P T) (hB : BOk P B) {ops : Array Oper} {kx : Nat → Env → World → Prop} {kn kr : Env → World → Prop} {kp : List PanicEntry → World → Prop} :
    ∀ (l : List Oper) (a : Act) (ρ : Env) (w : World), dstsOk n C l = true → Ag Df n C ρ0 a ρ → opsP P T B ops kp kn l ρ w → wpListIn (fen r) 0 P ops (QOf Df n C ρ0 kx kn kr kp) l a w := by
  intro l
  induction l with
  | nil => intro a ρ w _ hA h; exact ⟨ρ, hA, h⟩
  | cons o rest ih =>
    intro a ρ w hd hA h
    obtain ⟨hd1, hd2⟩ := dstsOk_cons hd
    have run : ∀ (ρ' : Env) (k : Value → World → Prop), Ag Df n C ρ0 a ρ' → (∀ v w', k v w' → opsP P T B ops kp kn rest (ρ'.put o.dst v) w') → opP P T B o.op o.type ρ' w k kp →
        o.wpIn (fen r) 0 P a w (wpListIn (fen r) 0 P ops (QOf Df n C ρ0 kx kn kr kp) rest) (QOf Df n C ρ0 kx kn kr kp) := by
      intro ρ' k hA' hk ho
      exact wp_of_upon (opP_notDefer ho) hA'.eval (opP_sound hT hB ho) (fun v w' hv => ih _ _ _ hd2 (hA'.put _ _ hd1) (hk v w' hv)) (fun ch w' hc => ⟨hA.stays, hc⟩)
    unfold wpListIn
    unfold opsP at h
    split at h
    · rename_i hg
      simp only [Region.wanted, hg, if_true]
      exact run ρ _ hA (fun v w' hv => hv) h
    · rename_i j want hg
      split at h
      · rename_i d hdst
        split at h
        · rename_i b hb
          have hy := yielded_of hA hdst b hb
          have hA2 := hA.set_self hb
          by_cases hbt : b = true
          · subst hbt
            rw [if_pos rfl] at h
            cases want with
            | true =>
              simp only [Region.wanted, hg, hy, BEq.rfl, if_true]
              exact run _ _ hA2 (fun v w' hv => hv) h
            | false =>
              have : (some true == some false) = false := rfl
              simp only [Region.wanted, hg, hy, this, Bool.false_eq_true, if_false]
              exact ⟨fun _ _ => trivial, ih _ _ _ hd2 (hA2.put _ _ hd1) h⟩
          · obtain rfl : b = false := by simpa using hbt
            rw [if_neg hbt] at h
            cases want with
            | true =>
              have : (some false == some true) = false := rfl
              simp only [Region.wanted, hg, hy, this, Bool.false_eq_true, if_false]
              exact ⟨fun _ _ => trivial, ih _ _ _ hd2 (hA2.put _ _ hd1) h⟩
            | false =>
              simp only [Region.wanted, hg, hy, BEq.rfl, if_true]
              exact run _ _ hA2 (fun v w' hv => hv) h
        · rename_i hb
          have hy := yielded_not hA hdst (by intro b hc; rw [hb] at hc; cases hc)
          have : ∀ b : Bool, ((none : Option Bool) == some b) = false := fun b => rfl
          simp only [Region.wanted, hg, hy, this, Bool.false_eq_true, if_false]
          exact ⟨fun _ _ => trivial, ih _ _ _ hd2 (hA.put _ _ hd1) h⟩
        · exact h.elim
      · exact h.elim

theorem wp_loop_n {F : Fence} {N : Nat} {c : Code} {Q : Exit → Act → World → Prop} {a : Act} {w : World} {m : Nat} (I : Nat → Act → World → Prop) (h₀ : I m a w)
    (round : ∀ m a w, I m a w → c.wpIn F N P (Exit.then (fun a' w' => ∃ m', m' < m ∧ I m' a' w') Q) a w) : (Code.loop c).wpIn F N P Q a w := by
  intro b k cs hro hb hr
  have key : ∀ m a w, I m a w → ∃ e a' w', Q e a' w' ∧ ArrivesIn (Machine.fenced P F) P (lone (b.atR a (.code c :: .inLoop c :: k)) cs w) b k cs e a' w' := by
    intro m
    induction m using Nat.strongRecOn with
    | _ m ih =>
      intro a w hI
      obtain ⟨e, a₁, w₁, hq, harr⟩ := round m a w hI b (.inLoop c :: k) cs hro hb hr
      cases e with
      | normal =>
        obtain ⟨m', hlt, hI₁⟩ := hq
        obtain ⟨e₂, a₂, w₂, hq₂, harr₂⟩ := ih m' hlt a₁ w₁ hI₁
        exact ⟨e₂, a₂, w₂, hq₂, .of_steps (StepsIn.trans harr (.one (fenced_calm hb hr rfl) stepR_inLoop)) harr₂⟩
      | exit id => exact ⟨_, a₁, w₁, hq, .pass (x := .inLoop c) rfl (fun _ _ => .inl (by simp)) harr⟩
      | goto l => exact ⟨_, a₁, w₁, hq, .pass (x := .inLoop c) rfl (fun _ _ => .inl (by simp)) harr⟩
      | ret => exact ⟨_, a₁, w₁, hq, .pass (x := .inLoop c) rfl (fun _ _ => .inl (by simp)) harr⟩
      | panic ch => exact ⟨_, a₁, w₁, hq, .pass (x := .inLoop c) rfl (fun _ _ => .inl (by simp)) harr⟩
      | outgrown => exact ⟨_, a₁, w₁, hq, .pass (x := .inLoop c) rfl (fun _ _ => .inl (by simp)) harr⟩
  obtain ⟨e, a', w', hq, harr⟩ := key m a w h₀
  exact ⟨e, a', w', hq, .of_steps (.one (fenced_calm hb hr rfl) stepR_loop) harr⟩

def codeOk (A : Nat → List (Nat × TK) × List Nat) (n : Nat) : List Nat → Nat → Code → Bool
  | C, _, .region _ ops _ => dstsOk n C ops.toList
  | C, i, .seq a b => codeOk A n C i a && codeOk A n C i b
  | C, i, .cond _ a b => codeOk A n C i a && codeOk A n C i b
  | C, _, .block id c => codeOk A n C id c
  | C, i, .loop c => codeOk A n (C ++ (A i).2) i c
  | _, _, _ => true
theorem wr_self : ∀ (ds : List Nat) (ρ : Env) (vs : List Value), ds.map ρ = vs → wr ds vs ρ = ρ
  | [], _, _, _ => by simp [wr]
  | d :: ds, ρ, v :: vs, h => by
    simp only [List.map_cons, List.cons.injEq] at h
    simp only [wr]
    rw [wr_self ds ρ vs h.2, Env.set_self h.1]
  | d :: ds, ρ, [], h => by simp at h
theorem map_keep {C : List Nat} {ρ ρ0 : Env} (h : ∀ d ∈ C, ρ d = ρ0 d) : C.map ρ = C.map ρ0 := List.map_congr_left h

def DOk (P : Program) (D : Nat → Array Oper → (List PanicEntry → World → Prop) → (Env → World → Prop) → Env → World → Prop) : Prop :=
  ∀ (r : Option Nat) (Df : List Deferred) (n : Nat) (C : List Nat) (ρ0 : Env) (id : Nat) (ops : Array Oper) (kx : Nat → Env → World → Prop) (kn kr : Env → World → Prop) (kp : List PanicEntry → World → Prop) (a : Act) (ρ : Env) (w : World),
    dstsOk n C ops.toList = true → Ag Df n C ρ0 a ρ → D id ops kp kn ρ w → (Code.region id ops true).wpIn (fen r) 0 P (QOf Df n C ρ0 kx kn kr kp) a w

theorem codeP_sound {r : Option Nat} (hT : TOk P T) (hB : BOk P B) {D : Nat → Array Oper → (List PanicEntry → World → Prop) → (Env → World → Prop) → Env → World → Prop} (hD : DOk P D) {A : Nat → List (Nat × TK) × List Nat} {kr : Env → World → Prop} {kp : List PanicEntry → World → Prop} :
    ∀ (c : Code) (C : List Nat) (ρ0 : Env) (i : Nat) (kx : Nat → Env → World → Prop) (kn : Env → World → Prop) (a : Act) (ρ : Env) (w : World), codeOk A n C i c = true → Ag Df n C ρ0 a ρ → codeP P T B D A kp kr c i kx kn ρ w → c.wpIn (fen r) 0 P (QOf Df n C ρ0 kx kn kr kp) a w := by
  intro c
  induction c with
  | skip => intro C ρ0 i kx kn a ρ w _ hA h; exact wpIn_skip ⟨ρ, hA, h⟩
  | region id ops draw =>
    intro C ρ0 i kx kn a ρ w hok hA h
    cases draw with
    | false => exact wpIn_region_list (opsP_sound hT hB _ _ _ _ hok hA h)
    | true => exact hD r Df n C ρ0 id ops kx kn kr kp a ρ w hok hA h
  | seq x y ihx ihy =>
    intro C ρ0 i kx kn a ρ w hok hA h
    simp only [codeOk, Bool.and_eq_true] at hok
    refine wpIn_seq (wpIn_mono (ihx C ρ0 i kx (fun ρ w => codeP P T B D A kp kr y i kx kn ρ w) a ρ w hok.1 hA h) fun e a' w' hq => ?_)
    cases e with
    | normal => obtain ⟨ρ', hA', h'⟩ := hq; exact ihy C ρ0 i kx kn a' ρ' w' hok.2 hA' h'
    | exit _ => exact hq
    | ret => exact hq
    | panic ch => exact hq
    | goto l => exact hq
    | outgrown => exact hq
  | cond cnd x y ihx ihy =>
    intro C ρ0 i kx kn a ρ w hok hA h
    simp only [codeOk, Bool.and_eq_true] at hok
    unfold codeP at h
    split at h
    · rename_i t hc
      have hev : a.eval cnd = .bool t := by rw [hA.eval]; exact hc
      have hA2 : ∀ t, ρ.ev cnd = .bool t → Ag Df n C ρ0 a (ρ.put (tmpOf cnd) (.bool t)) := by
        intro t hc
        cases cnd <;> first | exact hA | exact hA.set_self hc
      by_cases ht : t = true
      · subst ht
        rw [if_pos rfl] at h
        exact wpIn_cond hev (ihx C ρ0 i kx kn a _ w hok.1 (hA2 _ hc) h)
      · obtain rfl : t = false := by simpa using ht
        rw [if_neg ht] at h
        exact wpIn_cond hev (ihy C ρ0 i kx kn a _ w hok.2 (hA2 _ hc) h)
    · exact h.elim
  | block id c ih =>
    intro C ρ0 i kx kn a ρ w hok hA h
    refine wpIn_block (wpIn_mono (ih C ρ0 id _ kn a ρ w hok hA h) fun e a' w' hq => ?_)
    cases e with
    | normal => exact hq
    | exit j =>
      obtain ⟨ρ', hA', h'⟩ := hq
      by_cases hi : j = id
      · subst hi
        simp only [Exit.inBlock, if_true]
        simp only [Nat.beq_refl, cond_true] at h'
        exact ⟨ρ', hA', h'⟩
      · simp only [Exit.inBlock, hi, if_false]
        have : Nat.beq j id = false := beq_ne hi
        simp only [this, cond_false] at h'
        exact ⟨ρ', hA', h'⟩
    | ret => exact hq
    | panic ch => exact hq
    | goto l => exact hq
    | outgrown => exact hq
  | loop c ih =>
    intro C ρ0 i kx kn a ρ w hok hA h
    simp only [codeP] at h
    obtain ⟨s0, hs0, I, ⟨m, h0⟩, hround⟩ := h
    have back : ∀ (a' : Act) (ρ' : Env), Ag Df n (C ++ (A i).2) ρ a' ρ' → Ag Df n C ρ0 a' ρ' := fun a' ρ' h' =>
      ⟨h'.size, h'.tmp, h'.defers, fun d hd => (h'.keep d (List.mem_append_left _ hd)).trans (hA.keep d hd)⟩
    refine wp_loop_n (m := m) (fun m a' w => ∃ ρ' s, Ag Df n (C ++ (A i).2) ρ a' ρ' ∧ (A i).1.map (fun x => ρ' x.1) = encOf (A i).1 s ∧ I m s w)
      ⟨ρ, s0, ⟨hA.size, hA.tmp, hA.defers, fun _ _ => rfl⟩, hs0, h0⟩ fun m a' w ⟨ρ', s, hA', hs, hI⟩ => ?_
    have hb := hround m s w hI ρ'
    have hconst : (A i).2.map ρ = (A i).2.map ρ' := (map_keep fun d hd => hA'.keep d (List.mem_append_right _ hd)).symm
    rw [hconst, wr_self _ _ _ rfl, wr_self _ _ _ (by rw [← hs, List.map_map]; rfl)] at hb
    refine wpIn_mono (ih (C ++ (A i).2) ρ i kx _ a' ρ' w hok hA' hb) fun e a'' w' hq => ?_
    cases e with
    | normal => obtain ⟨ρ'', hA'', s', hs', m', hlt, hI'⟩ := hq; exact ⟨m', hlt, ρ'', s', hA'', hs', hI'⟩
    | exit j => obtain ⟨ρ'', hA'', h'⟩ := hq; exact ⟨ρ'', back _ _ hA'', h'⟩
    | ret => obtain ⟨ρ'', hA'', h'⟩ := hq; exact ⟨ρ'', back _ _ hA'', h'⟩
    | panic ch => exact ⟨⟨hq.1.1, fun d hd => (hq.1.2 d (List.mem_append_left _ hd)).trans (hA.keep d hd)⟩, hq.2⟩
    | goto l => exact hq
    | outgrown => exact hq
  | exit id => intro C ρ0 i kx kn a ρ w _ hA h; exact wpIn_exit ⟨ρ, hA, h⟩
  | ret => intro C ρ0 i kx kn a ρ w _ hA h; exact wpIn_ret ⟨ρ, hA, h⟩
  | rangeFunc => intro C ρ0 i kx kn a ρ w _ hA h; exact h.elim
  | scope => intro C ρ0 i kx kn a ρ w _ hA h; exact h.elim
  | label => intro C ρ0 i kx kn a ρ w _ hA h; exact h.elim
  | goto => intro C ρ0 i kx kn a ρ w _ hA h; exact h.elim
  | refuse => intro C ρ0 i kx kn a ρ w _ hA h; exact h.elim

/-! ## Bodies -/
def resL (P : Program) (T : Nat → Option TK) : List ResultVar → Env → World → (List Value → Prop) → Prop
  | [], _, _, k => k []
  | .tmp t :: r, ρ, w, k => resL P T r ρ w fun vs => k (ρ t :: vs)
  | .cell a t :: r, ρ, w, k => match ρ a with
    | .pointer (some ad) => match T t with
      | some (.agg sz _ _) => ∃ cs : Array Value, cs.size = sz ∧ CellsAt w ad cs ∧ resL P T r ρ w fun vs => k (.agg cs :: vs)
      | some (.arr n _ sz _) => ∃ cs : Array Value, cs.size = n * sz ∧ CellsAt w ad cs ∧ resL P T r ρ w fun vs => k (.agg cs :: vs)
      | some (.tup _) => False
      | some tk => ∃ v, w.cell? ad = some v ∧ Dec (some tk) v fun v => resL P T r ρ w fun vs => k (v :: vs)
      | none => False
    | _ => False
def oneOf : List Value → Value
  | [v] => v
  | vs => .tuple vs.toArray
def resP (P : Program) (T : Nat → Option TK) (rs : List ResultVar) (ρ : Env) (w : World) (k : Value → Prop) : Prop := resL P T rs ρ w fun vs => k (oneOf vs)

def resOne (tmps : Array Value) : ResultVar → Sem Value
  | .tmp t => pure (tmps.getD t undef)
  | .cell a t => do loadVar t (← asAddr (tmps.getD a undef))
theorem resL_sound (hT : TOk P T) {tmps : Array Value} {w : World} (ht : ∀ t, tmps.getD t undef = ρ t) : ∀ (rs : List ResultVar) (k : List Value → Prop), resL P T rs ρ w k →
    ∃ vs, (rs.mapM (resOne tmps)).run P w = .ok vs w ∧ k vs
  | [], k, h => ⟨[], rfl, h⟩
  | .tmp t :: r, k, h => by
    obtain ⟨vs, hr, hk⟩ := resL_sound hT ht r _ h
    exact ⟨_, by simp [resOne, ht, hr], hk⟩
  | .cell a t :: r, k, h => by
    have hl : ∀ (ad : Addr) (v : Value) (vs : List Value), ρ a = .pointer (some ad) → (loadVar t ad).run P w = .ok v w → (r.mapM (resOne tmps)).run P w = .ok vs w → ((ResultVar.cell a t :: r).mapM (resOne tmps)).run P w = .ok (v :: vs) w := by
      intro ad v vs ha hv hvs
      simp [resOne, ht, ha, asAddr, hv, hvs]
    simp only [resL] at h
    split at h
    · rename_i ad ha
      split at h
      · rename_i sz fs zs hty
        obtain ⟨cs, hsz, hc, h⟩ := h
        obtain ⟨⟨fa, hu, _, _⟩, hp, _⟩ := hT t _ hty
        obtain ⟨vs, hr, hk⟩ := resL_sound hT ht r _ h
        exact ⟨_, hl ad _ _ ha (run_loadVar_agg hu hp rfl hsz hc) hr, hk⟩
      · rename_i n e sz zs hty
        obtain ⟨cs, hsz, hc, h⟩ := h
        obtain ⟨hu, _, hp, _⟩ := hT t _ hty
        obtain ⟨vs, hr, hk⟩ := resL_sound hT ht r _ h
        exact ⟨_, hl ad _ _ ha (run_loadVar_agg hu hp rfl hsz hc) hr, hk⟩
      · exact h.elim
      · rename_i tk hn1 hn2 hn3 hty
        obtain ⟨v, hc, h⟩ := h
        obtain ⟨vs, hr, hk⟩ := resL_sound hT ht r _ (Dec_elim h)
        exact ⟨_, hl ad _ _ ha (run_loadVar_one (hT t _ hty) (not_tup hn1 hn2 hn3) hc) hr, hk⟩
      · exact h.elim
    · exact h.elim

theorem resP_sound (hT : TOk P T) {fn : Func} {w : World} {k : Value → Prop} (hA : Ag Df n C ρ0 a ρ) (h : resP P T fn.results.toList ρ w k) : ∃ v, (results fn a.tmps).run P w = .ok v w ∧ k v := by
  obtain ⟨vs, hr, hk⟩ := resL_sound hT hA.tmp _ _ h
  refine ⟨oneOf vs, ?_, hk⟩
  have he : results fn a.tmps = (fn.results.mapM (resOne a.tmps) >>= fun vs => pure (if h : vs.size = 1 then vs[0] else .tuple vs)) := by
    unfold results
    have hf : (fun r : ResultVar => (match r with | .tmp t => pure (a.tmps.getD t undef) | .cell ad t => do loadVar t (← asAddr (a.tmps.getD ad undef)) : Sem Value)) = resOne a.tmps := by
      funext x
      cases x <;> rfl
    rw [← hf]
    rfl
  rw [he, Array.mapM_eq_mapM_toList]
  simp only [Sem.run_bind, Sem.run_map, hr, Result.andThen_ok]
  cases vs with
  | nil => rfl
  | cons v vs =>
    cases vs with
    | nil => rfl
    | cons u vs => rfl

/-- A function's body, evaluated. -/
def bodyP (P : Program) (T : Nat → Option TK) (B : Nat → Bool) (D : Nat → Array Oper → (List PanicEntry → World → Prop) → (Env → World → Prop) → Env → World → Prop) (A : Nat → List (Nat × TK) × List Nat) (fn : Func) (args : List Value) (w : World) (R : Ending → World → Prop) : Prop :=
  match fn.body with
  | some c => codeP P T B D A (fun ch w => R (.panicked ch) w) (fun ρ w => resP P T fn.results.toList ρ w fun v => R (.returned v) w) c 0 (fun _ _ _ => False)
      (fun ρ w => resP P T fn.results.toList ρ w fun v => R (.returned v) w) (Env.ini args) w
  | none => False

theorem ini_get : ∀ (vs : List Value) (t : Nat), Env.ini vs t = vs.getD t undef
  | [], t => by simp [Env.ini]
  | v :: vs, 0 => by simp [Env.ini]
  | v :: vs, t + 1 => by simp only [Env.ini, ini_get vs t]; simp

theorem calls_of_bodyP (hT : TOk P T) (hB : BOk P B) {D : Nat → Array Oper → (List PanicEntry → World → Prop) → (Env → World → Prop) → Env → World → Prop} (hD : DOk P D) {A : Nat → List (Nat × TK) × List Nat} {f : Nat} {fn : Func} {args : List Value} {w : World} {R : Ending → World → Prop}
    (hf : P.funcs[f]? = some fn) (hn : args.length ≤ fn.ntmps) (hok : (match fn.body with | some c => codeOk A fn.ntmps [] 0 c | none => false) = true)
    (h : bodyP P T B D A fn args w R) : Calls P f args.toArray w R := by
  unfold bodyP at h
  cases hb : fn.body with
  | none => rw [hb] at h; exact h.elim
  | some c =>
    rw [hb] at h hok
    refine callsIn_wide.1 (callsIn_of_wp (F := Fence.wide) (n := 0) hf hb trivial ?_)
    have hA : Ag [] fn.ntmps [] (Env.ini args) { tmps := args.toArray ++ Array.replicate (fn.ntmps - args.toArray.size) undef, defers := [] } (Env.ini args) := by
      refine ⟨by simp; omega, fun t => ?_, rfl, fun _ h => by cases h⟩
      rw [ini_get]
      simp only [Array.getD_eq_getD_getElem?, List.getD_eq_getElem?_getD]
      by_cases ht : t < args.length
      · rw [Array.getElem?_append_left (by simpa using ht)]
        simp
      · rw [Array.getElem?_append_right (by simpa using ht)]
        simp only [List.size_toArray, Array.getElem?_replicate]
        rw [List.getElem?_eq_none (by omega)]
        split <;> rfl
    refine wpIn_mono (codeP_sound (r := none) hT hB hD c _ _ _ _ _ _ _ w hok hA h) fun e a' w' hq => ?_
    cases e with
    | normal =>
      obtain ⟨ρ', hA', h'⟩ := hq
      exact ⟨hA'.defers, resP_sound hT hA' h'⟩
    | ret =>
      obtain ⟨ρ', hA', h'⟩ := hq
      exact ⟨hA'.defers, resP_sound hT hA' h'⟩
    | panic ch => exact ⟨hq.1.1, hq.2⟩
    | exit i => obtain ⟨ρ', hA', h'⟩ := hq; exact h'
    | goto l => exact False.elim hq
    | outgrown => exact False.elim hq
end
end Go.GX
