/- A region that leaves its order open: what only reads is taken first, the rest comes in its one order. -/
import Derived.Test.YtilacabmbjephaaGreatDoorGxE
import Derived.OrdersHeld
import Derived.OrdersIn
namespace Go.GX
set_option linter.unusedVariables false
set_option linter.unusedSimpArgs false
attribute [local simp] Sem.run

/-- Operations that may be taken first: what they yield hangs on no effect, or on cells that stay. -/
def takeable (o : Oper) : Bool :=
  match o.op with
  | .move _ | .assign _ | .pick .. | .binOp .. | .unOp .. | .makeFunc .. | .nilCheck _ | .fieldAddr .. | .extract .. | .field .. | .indexAddr .. | .index .. | .slice .. | .load .. | .build .. => true
  | .call { callee := .builtin .len, .. } | .call { callee := .builtin .cap, .. } | .call { callee := .builtin .min, .. } | .call { callee := .builtin .max, .. } => true
  | _ => false
/-- An order of a region's operations: one taken first; the only one; two that may come in either order. -/
inductive Sch where
  | nil
  | take (i : Nat) (r : Sch)
  | only (i : Nat) (r : Sch)
  | turn (i : Nat) (r : Sch)
  | two (i j : Nat) (ri rj : Sch)
def isLoad (o : Oper) : Bool := match o.op with | .load .. => true | _ => false
/-- A store that waits for all loads that have come up. -/
def waitsAll (ops : Array Oper) (listed : Array Bool) (i : Nat) : Bool :=
  match ops[i]? with
  | some o => (match o.op with | .store .. => true | _ => false) && listed.toList.zipIdx.all fun x => !x.1 || !((ops[x.2]?).map isLoad).getD false || o.after.toList.any fun e => Region.binds .any e && Nat.beq e.on x.2
  | none => false
def sched (ops : Array Oper) : Nat → Array Bool → Sch
  | 0, _ => .nil
  | fuel + 1, listed =>
    let r := Region.ready .any ops listed
    match r.find? fun i => ((ops[i]?).map takeable).getD false && Region.free .any ops listed i with
    | some i => .take i (sched ops fuel (listed.setIfInBounds i true))
    | none => match r with
      | [i] => bif waitsAll ops listed i then .turn i (sched ops fuel (listed.setIfInBounds i true)) else .only i (sched ops fuel (listed.setIfInBounds i true))
      | [i, j] => .two i j (sched ops fuel (listed.setIfInBounds i true)) (sched ops fuel (listed.setIfInBounds j true))
      | _ => .nil
def Sch.depth : Sch → Nat
  | .nil => 0
  | .take _ r => r.depth + 1
  | .only _ r => r.depth + 1
  | .turn _ r => r.depth + 1
  | .two _ _ a b => max a.depth b.depth + 1
def schedOk (ops : Array Oper) : Sch → Array Bool → Bool
  | .nil, listed => (Region.ready .any ops listed).isEmpty
  | .take i rest, listed => (Region.free .any ops listed i && (Region.ready .any ops listed).contains i) && schedOk ops rest (listed.setIfInBounds i true)
  | .only i rest, listed => Region.ready .any ops listed == [i] && schedOk ops rest (listed.setIfInBounds i true)
  | .turn i rest, listed => Region.ready .any ops listed == [i] && (waitsAll ops listed i && schedOk ops rest (listed.setIfInBounds i true))
  | .two i j a b, listed => Region.ready .any ops listed == [i, j] && (schedOk ops a (listed.setIfInBounds i true) && schedOk ops b (listed.setIfInBounds j true))

/-- What an operation yields that is taken first. -/
def takeP (P : Program) (T : Nat → Option TK) (S : World → Prop) (o : Op) (type : Nat) (ρ : Env) (w : World) (k : Value → Prop) : Prop :=
  match pureV T o ρ with
  | some v => k v
  | none => match o with
    | .load t x => match ρ.ev x with
      | .pointer (some a) => match T t with
        | some (.agg sz _ _) => ∃ cs, cs.size = sz ∧ (∀ w', S w' → CellsAt w' a cs) ∧ k (.agg cs)
        | some (.arr n _ sz _) => ∃ cs, cs.size = n * sz ∧ (∀ w', S w' → CellsAt w' a cs) ∧ k (.agg cs)
        | some (.tup _) => False
        | some tk => ∃ v, (∀ w', S w' → w'.cell? a = some v) ∧ Dec (some tk) v k
        | none => False
      | _ => False
    | .nilCheck x => match ρ.ev x with
      | .pointer p => ∃ a, p = some a ∧ k (.pointer (some a))
      | _ => False
    | .build t parts => ∃ v, (∀ w', (Instr.build t (mapA (fun x => (x.1, ρ.ev x.2)) parts)).run P w' = .ok v w') ∧ Dec (T t) v k
    | .binOp op t x y _ => ∃ v, (∀ w', (do eqGuard op t x y (ρ.ev x) (ρ.ev y); binOp op t (ρ.ev x) (ρ.ev y) : Sem Value).run P w' = .ok v w') ∧ Dec (T type) v k
    | .extract .. | .field .. | .indexAddr .. | .index .. => effP P T (fun _ => false) o type ρ w (fun v _ => k v) (fun _ _ => False)
    | .slice t x lo hi none => match T t, ρ.ev x with
      | some (.slice _ sz), .slice A n c => sliceP n c (lo.map ρ.ev) (hi.map ρ.ev) fun l h => k (.slice (sliceAddr A l c sz) (h - l) (c - l))
      | some .str, .string s => sliceP s.size s.size (lo.map ρ.ev) (hi.map ρ.ev) fun l h => k (.string (s.extract l h))
      | _, _ => False
    | _ => False

/-- One operation behind its guard. -/
def guardP (ops : Array Oper) (o : Oper) (ρ : Env) (run skip : Env → Prop) : Prop :=
  match o.guard with
  | none => run ρ
  | some (j, want) => match dstAt ops j with
    | some d => match ρ d with
      | .bool b => if b = true then (bif want then run (ρ.set d (.bool true)) else skip (ρ.set d (.bool true)))
          else (bif want then skip (ρ.set d (.bool false)) else run (ρ.set d (.bool false)))
      | .tuple _ => skip ρ
      | _ => False
    | none => False
def drawL (P : Program) (T : Nat → Option TK) (B : Nat → Bool) (ops : Array Oper) (kp : List PanicEntry → World → Prop) (kn : Env → World → Prop) : Sch → (World → Prop) → Env → World → Prop
  | .nil, _, ρ, w => kn ρ w
  | .take i rest, S, ρ, w => match ops[i]? with
    | none => False
    | some o => guardP ops o ρ (fun ρ => takeP P T S o.op o.type ρ w fun v => drawL P T B ops kp kn rest S (ρ.put o.dst v) w) (fun ρ => drawL P T B ops kp kn rest S (ρ.put o.dst undef) w)
  | .only i rest, S, ρ, w => match ops[i]? with
    | none => False
    | some o => guardP ops o ρ (fun ρ => opP P T B o.op o.type ρ w (fun v w' => S w' ∧ drawL P T B ops kp kn rest S (ρ.put o.dst v) w') kp) (fun ρ => drawL P T B ops kp kn rest S (ρ.put o.dst undef) w)
  | .turn i rest, S, ρ, w => match ops[i]? with
    | none => False
    | some o => guardP ops o ρ (fun ρ => opP P T B o.op o.type ρ w (fun v w' => ∃ S' : World → Prop, S' w' ∧ drawL P T B ops kp kn rest S' (ρ.put o.dst v) w') kp) (fun ρ => drawL P T B ops kp kn rest S (ρ.put o.dst undef) w)
  | .two i j a b, S, ρ, w => match ops[i]?, ops[j]? with
    | some o, some o' =>
      guardP ops o ρ (fun ρ => opP P T B o.op o.type ρ w (fun v w' => S w' ∧ drawL P T B ops kp kn a S (ρ.put o.dst v) w') kp) (fun ρ => drawL P T B ops kp kn a S (ρ.put o.dst undef) w) ∧
      guardP ops o' ρ (fun ρ => opP P T B o'.op o'.type ρ w (fun v w' => S w' ∧ drawL P T B ops kp kn b S (ρ.put o'.dst v) w') kp) (fun ρ => drawL P T B ops kp kn b S (ρ.put o'.dst undef) w)
    | _, _ => False

def start (ops : Array Oper) : Array Bool := Array.replicate ops.size false
def sched0 (ops : Array Oper) : Sch := sched ops ops.size (start ops)
def drawOk (ops : Array Oper) : Bool := (Region.noSelect ops && ops.toList.all notDefer) && Nat.ble (sched0 ops).depth ops.size && schedOk ops (sched0 ops) (start ops)
def drawP (P : Program) (T : Nat → Option TK) (B : Nat → Bool) (_ : Nat) (ops : Array Oper) (kp : List PanicEntry → World → Prop) (kn : Env → World → Prop) (ρ : Env) (w : World) : Prop :=
  bif drawOk ops then ∃ S : World → Prop, S w.drew ∧ drawL P T B ops kp kn (sched0 ops) S ρ w.drew else False

section
variable {Df : List Deferred} {P : Program} {T : Nat → Option TK} {B : Nat → Bool} {n : Nat} {C : List Nat} {ρ0 : Env} {a : Act} {ρ : Env}

theorem sliceP_any {n c : Nat} {low high : Option Value} {k : Nat → Nat → Prop} (h : sliceP n c low high k) (isS : Bool) :
    ∃ l hh, (∀ w, (Instr.sliceBounds isS n c low high none).run P w = .ok (l, hh, c) w) ∧ k l hh := by
  unfold sliceP at h
  split at h
  · exact ⟨0, n, fun w => by simp [Instr.sliceBounds], h⟩
  · rename_i q hi
    obtain ⟨h0, h1, hk⟩ := h
    exact ⟨0, hi.toNat, fun w => by simp [Instr.sliceBounds, Instr.sliceBound, asIntOf, h0, h1], hk⟩
  · rename_i q lo
    obtain ⟨h0, h1, hk⟩ := h
    exact ⟨lo.toNat, n, fun w => by simp [Instr.sliceBounds, Instr.sliceBound, asIntOf, h0, h1], hk⟩
  · rename_i q lo q' hi
    obtain ⟨h0, h1, h2, h3, hk⟩ := h
    refine ⟨lo.toNat, hi.toNat, fun w => ?_, hk⟩
    have h4 : lo ≤ ((hi.toNat : Nat) : Int) := by omega
    simp only [Instr.sliceBounds, Instr.sliceBound, asIntOf, Sem.run_bind, Sem.run_pure, Result.andThen_ok, h0, h1, h2, h3, h4, and_self, if_true]
  · exact h.elim

/-- The four kinds whose clause looks at no world. -/
theorem effP_still {o : Op} {type : Nat} {w : World} {k : Value → Prop} (ho : (match o with | .extract .. | .field .. | .indexAddr .. | .index .. => true | _ => false) = true)
    (h : effP P T (fun _ => false) o type ρ w (fun v _ => k v) (fun _ _ => False)) :
    ∃ v, k v ∧ ∀ w', effP P T (fun _ => false) o type ρ w' (fun u w'' => u = v ∧ w'' = w') (fun _ _ => False) := by
  have dec : ∀ (tk : Option TK) (v : Value), Dec tk v k → k v ∧ Dec tk v (fun u => u = v) := by
    intro tk v hd
    refine ⟨Dec_elim hd, ?_⟩
    unfold Dec at hd ⊢
    split at hd
    case h_1 => obtain ⟨n, rfl, _⟩ := hd; exact ⟨n, rfl, rfl⟩
    case h_2 => obtain ⟨n, rfl, _⟩ := hd; exact ⟨n, rfl, rfl⟩
    case h_3 => obtain ⟨n, rfl, _⟩ := hd; exact ⟨n, rfl, rfl⟩
    case h_4 => obtain ⟨A, n, c, rfl, _⟩ := hd; exact ⟨A, n, c, rfl, rfl⟩
    case h_5 => obtain ⟨n, rfl, _⟩ := hd; exact ⟨n, rfl, rfl⟩
    case h_6 => obtain ⟨g, fi, ca, rfl, _⟩ := hd; exact ⟨g, fi, ca, rfl, rfl⟩
    case h_7 => obtain ⟨n, rfl, _⟩ := hd; exact ⟨n, rfl, rfl⟩
    case h_8 => obtain ⟨n, rfl, _⟩ := hd; exact ⟨n, rfl, rfl⟩
    case h_9 => obtain ⟨v0, v1, rfl, _⟩ := hd; exact ⟨v0, v1, rfl, rfl⟩
    case h_10 => obtain ⟨v0, v1, v2, rfl, _⟩ := hd; exact ⟨v0, v1, v2, rfl, rfl⟩
    case h_11 => obtain ⟨v0, v1, v2, v3, rfl, _⟩ := hd; exact ⟨v0, v1, v2, v3, rfl, rfl⟩
    case h_12 => rfl
  have dec2 : ∀ (tk : Option TK) (v : Value), Dec tk v (fun u => u = v) → ∀ w' : World, Dec tk v (fun u => u = v ∧ True) := by
    intro tk v hd w'
    unfold Dec at hd ⊢
    split at hd <;> simp_all
  cases o <;> simp only [Bool.false_eq_true] at ho
  case extract x i =>
    simp only [effP] at h
    split at h
    · rename_i vs hx
      split at h
      · rename_i v hv
        obtain ⟨hk, hd⟩ := dec _ _ h
        exact ⟨v, hk, fun w' => by simp only [effP, hx, hv]; exact dec2 _ _ hd w'⟩
      · exact h.elim
    · exact h.elim
  case field t x f =>
    simp only [effP] at h
    split at h
    · rename_i sz fs zs cs ht hx
      split at h
      · rename_i off ty hf
        split at h
        · rename_i sz' fs' zs' hty
          exact ⟨_, h, fun w' => by simp only [effP, ht, hx, hf, hty, and_self]⟩
        · rename_i n' e' sz' zs' hty
          exact ⟨_, h, fun w' => by simp only [effP, ht, hx, hf, hty, and_self]⟩
        · exact h.elim
        · rename_i tk hn1 hn2 hn3 hty
          obtain ⟨v, hv, h⟩ := h
          obtain ⟨hk, hd⟩ := dec _ _ h
          refine ⟨v, hk, fun w' => ?_⟩
          have hd' := dec2 _ _ hd w'
          simp only [effP, ht, hx, hf]
          cases tk <;> first | exact absurd rfl (hn1 _ _ _) | exact absurd rfl (hn2 _ _ _ _) | exact absurd rfl (hn3 _) | (simp only [hty]; exact ⟨v, hv, hd'⟩)
        · exact h.elim
      · exact h.elim
    · exact h.elim
  case indexAddr t x i =>
    simp only [effP] at h
    split at h
    · rename_i q i' hi
      split at h
      · rename_i e sz A n c ht hx
        obtain ⟨a, rfl, h0, h1, hk⟩ := h
        exact ⟨_, hk, fun w' => by simp only [effP, hi, ht, hx]; exact ⟨a, rfl, h0, h1, rfl, trivial⟩⟩
      · rename_i n e sz zs a ht hx
        obtain ⟨h0, h1, hk⟩ := h
        exact ⟨_, hk, fun w' => by simp only [effP, hi, ht, hx]; exact ⟨h0, h1, trivial, trivial⟩⟩
      · exact h.elim
    · exact h.elim
  case index t x i =>
    simp only [effP] at h
    split at h
    · rename_i q i' hi
      split at h
      · rename_i s ht hx
        obtain ⟨h0, b, hb, hk⟩ := h
        exact ⟨_, hk, fun w' => by simp only [effP, hi, ht, hx]; exact ⟨h0, b, hb, rfl, trivial⟩⟩
      · rename_i n e sz zs cs ht hx
        split at h
        · rename_i sz' fs' zs' hty
          obtain ⟨h0, h1, hk⟩ := h
          exact ⟨_, hk, fun w' => by simp only [effP, hi, ht, hx, hty]; exact ⟨h0, h1, trivial, trivial⟩⟩
        · rename_i n' e' sz' zs' hty
          obtain ⟨h0, h1, hk⟩ := h
          exact ⟨_, hk, fun w' => by simp only [effP, hi, ht, hx, hty]; exact ⟨h0, h1, trivial, trivial⟩⟩
        · exact h.elim
        · rename_i tk hn1 hn2 hn3 hty
          obtain ⟨h0, h1, v, hv, h⟩ := h
          obtain ⟨hk, hd⟩ := dec _ _ h
          refine ⟨v, hk, fun w' => ?_⟩
          have hd' := dec2 _ _ hd w'
          simp only [effP, hi, ht, hx]
          cases tk <;> first | exact absurd rfl (hn1 _ _ _) | exact absurd rfl (hn2 _ _ _ _) | exact absurd rfl (hn3 _) | (simp only [hty]; exact ⟨h0, h1, v, hv, hd'⟩)
        · exact h.elim
      · exact h.elim
    · exact h.elim

theorem form_value {ρ : Env} {o : Oper} {s : Sem Value} {w : World} {k : Value → World → Prop}
    (he : execOp ρ.ev o = (do pure (.value (← s)))) (h : Upon P k (fun _ _ => False) ((execOp ρ.ev o).run P w)) : ∃ v w', (execOp ρ.ev o).run P w = .ok (.value v) w' ∧ k v w' := by
  rw [he] at h ⊢
  simp only [Sem.run_bind, Sem.run_pure] at h ⊢
  cases hr : s.run P w with
  | ok v w' => rw [hr] at h; exact ⟨v, w', by simp [Result.andThen], h⟩
  | halt x w' =>
    rw [hr] at h
    cases x <;> exact False.elim h

theorem takeP_sound (hT : TOk P T) {o : Oper} {S : World → Prop} {w : World} {k : Value → Prop} (h : takeP P T S o.op o.type ρ w k) :
    ∃ v, k v ∧ ∀ w', S w' → (execOp ρ.ev o).run P w' = .ok (.value v) w' := by
  have hB : BOk P (fun _ => false) := fun g hg => by cases hg
  unfold takeP at h
  split at h
  · rename_i v hv
    exact ⟨v, h, fun w' _ => pureV_sound hT hv w'⟩
  · have still : ∀ (s : Sem Value), execOp ρ.ev o = (do pure (.value (← s))) → (match o.op with | .extract .. | .field .. | .indexAddr .. | .index .. => true | _ => false) = true →
        effP P T (fun _ => false) o.op o.type ρ w (fun v _ => k v) (fun _ _ => False) → ∃ v, k v ∧ ∀ w', S w' → (execOp ρ.ev o).run P w' = .ok (.value v) w' := by
      intro s he hk h
      obtain ⟨v, hv, hall⟩ := effP_still hk h
      refine ⟨v, hv, fun w' _ => ?_⟩
      obtain ⟨u, w'', hr, rfl, rfl⟩ := form_value he (effP_sound hT hB (hall w'))
      exact hr
    split at h
    · rename_i t x ho
      split at h
      · rename_i a ha
        have hl : ∀ (w : World) (v : Value), (loadVar t a).run P w = .ok v w → (execOp ρ.ev o).run P w = .ok (.value v) w := by
          intro w v hv
          simp only [execOp, ho, Instr.loadAt, ha, Instr.sureAddr, Sem.run_bind, Sem.run_pure, Result.andThen_ok, hv]
        split at h
        · rename_i sz fs zs ht
          obtain ⟨cs, hsz, hc, hk⟩ := h
          obtain ⟨⟨fa, hu, _, _⟩, hp, _⟩ := hT t _ ht
          exact ⟨_, hk, fun w' hS => hl w' _ (run_loadVar_agg hu hp rfl hsz (hc w' hS))⟩
        · rename_i n e sz zs ht
          obtain ⟨cs, hsz, hc, hk⟩ := h
          obtain ⟨hu, _, hp, _⟩ := hT t _ ht
          exact ⟨_, hk, fun w' hS => hl w' _ (run_loadVar_agg hu hp rfl hsz (hc w' hS))⟩
        · exact h.elim
        · rename_i tk hn1 hn2 hn3 ht
          obtain ⟨v, hc, hk⟩ := h
          exact ⟨v, Dec_elim hk, fun w' hS => hl w' _ (run_loadVar_one (hT t _ ht) (not_tup hn1 hn2 hn3) (hc w' hS))⟩
        · exact h.elim
      · exact h.elim
    · rename_i x ho
      split at h
      · rename_i p hx
        obtain ⟨a, rfl, hk⟩ := h
        exact ⟨_, hk, fun w' _ => by simp [execOp, ho, hx]⟩
      · exact h.elim
    · rename_i t parts ho
      obtain ⟨v, hv, hk⟩ := h
      refine ⟨v, Dec_elim hk, fun w' _ => ?_⟩
      have hv' := hv w'
      rw [mapA_eq] at hv'
      simp only [execOp, ho, Sem.run_bind, hv', Result.andThen_ok, Sem.run_pure]
    · rename_i op t x y ty ho
      obtain ⟨v, hv, hk⟩ := h
      refine ⟨v, Dec_elim hk, fun w' _ => ?_⟩
      have hv' := hv w'
      simp only [execOp, ho]
      rw [Sem.run_bind, hv', Result.andThen_ok]
      rfl
    · rename_i x i ho
      exact still (Instr.extract (ρ.ev x) i) (by simp only [execOp, ho]) (by simp only [ho]) h
    · rename_i t x f ho
      exact still (Instr.field t (ρ.ev x) f) (by simp only [execOp, ho]) (by simp only [ho]) h
    · rename_i t x i ho
      exact still (Instr.indexAt t (ρ.ev x) (ρ.ev i)) (by simp only [execOp, ho]) (by simp only [ho]) h
    · rename_i t x i ho
      exact still (Instr.index t (ρ.ev x) (ρ.ev i)) (by simp only [execOp, ho]) (by simp only [ho]) h
    · rename_i t x lo hi ho
      split at h
      · rename_i e sz A n c ht hx
        obtain ⟨hu, _, z, hz⟩ := hT t _ ht
        obtain ⟨l, hh, hb, hk⟩ := sliceP_any (P := P) h true
        refine ⟨_, hk, fun w' _ => ?_⟩
        have : (Instr.sliceAt t (ρ.ev x) (lo.map ρ.ev) (hi.map ρ.ev) none).run P w' = .ok (.slice (sliceAddr A l c sz) (hh - l) (c - l)) w' := by
          simp [Instr.sliceAt, Instr.slice, hx, run_under hu, hb, run_sizeOf' hz, sliceAddr]
        simp only [execOp, ho, Option.map_none, Sem.run_bind, this, Result.andThen_ok, Sem.run_pure]
      · rename_i s ht hx
        obtain ⟨hu, _⟩ := hT t _ ht
        obtain ⟨l, hh, hb, hk⟩ := sliceP_any (P := P) h false
        refine ⟨_, hk, fun w' _ => ?_⟩
        have : (Instr.sliceAt t (ρ.ev x) (lo.map ρ.ev) (hi.map ρ.ev) none).run P w' = .ok (.string (s.extract l hh)) w' := by
          simp [Instr.sliceAt, Instr.slice, hx, run_under hu, hb]
        simp only [execOp, ho, Option.map_none, Sem.run_bind, this, Result.andThen_ok, Sem.run_pure]
      · exact h.elim
    · exact h.elim

theorem at_get {ops : Array Oper} {C : List Nat} {n i : Nat} {o : Oper} (hd : dstsOk n C ops.toList = true) (h : ops[i]? = some o) : ∀ d, o.dst = some d → d < n ∧ d ∉ C := by
  have hm : o ∈ ops.toList := by
    have := Array.mem_of_getElem? h
    exact Array.mem_toList_iff.2 this
  exact dst_ok ((List.all_eq_true.1 hd) o hm)

theorem guardP_sound {ops : Array Oper} {o : Oper} {run skip : Env → Prop} {G : Prop} (hA : Ag Df n C ρ0 a ρ) (h : guardP ops o ρ run skip)
    (hrun : ∀ ρ', Ag Df n C ρ0 a ρ' → Region.wanted o (yielded ops a.tmps) = true → run ρ' → G) (hskip : ∀ ρ', Ag Df n C ρ0 a ρ' → Region.wanted o (yielded ops a.tmps) = false → skip ρ' → G) : G := by
  unfold guardP at h
  split at h
  · rename_i hg
    exact hrun ρ hA (by simp [Region.wanted, hg]) h
  · rename_i j want hg
    split at h
    · rename_i d hdj
      split at h
      · rename_i b hb
        have hy := yielded_of hA hdj b hb
        have hA2 := hA.set_self hb
        by_cases hbt : b = true
        · subst hbt
          rw [if_pos rfl] at h
          cases want with
          | true => exact hrun _ hA2 (by simp [Region.wanted, hg, hy]) h
          | false => exact hskip _ hA2 (by simp [Region.wanted, hg, hy]) h
        · obtain rfl : b = false := by simpa using hbt
          rw [if_neg hbt] at h
          cases want with
          | true => exact hskip _ hA2 (by simp [Region.wanted, hg, hy]) h
          | false => exact hrun _ hA2 (by simp [Region.wanted, hg, hy]) h
      · rename_i hb
        have hy := yielded_not hA hdj (by intro b hc; rw [hb] at hc; cases hc)
        exact hskip _ hA (by simp [Region.wanted, hg, hy]) h
      · exact h.elim
    · exact h.elim

/-! ### A fence's laws: the kit's (OrdersHeld), in a round too -/
section fence
variable {F : Fence} {N : Nat} {ops : Array Oper} {Q : Exit → Act → World → Prop} {S : World → Prop}
def NoDefer (ops : Array Oper) : Prop := ∀ (j : Nat) (o : Oper), ops[j]? = some o → ∀ c, o.op ≠ .defer c
theorem yieldsIf_wpOpIn {i : Nat} {o : Oper} {v : Value} {a : Act} (hnd : NoDefer ops) (hF : ∀ f, F.fn f) (hi : ops[i]? = some o) (hy : YieldsIf P ops S o v a)
    {K : Act → World → Prop} {w : World} (hS : S w) (h : K (a.put o.dst v) w) : wpOpIn F N P ops Q i K a w := by
  unfold Go.wpOpIn
  simp only [hi]
  rcases hy with ⟨hw, hv⟩ | ⟨hw, rfl⟩
  · simp only [hw, if_true, Oper.wpIn, Oper.semAt_eq _ _ _ (hnd i o hi), hv w hS, Oper.uponIn]; exact ⟨fun f _ => hF f, h⟩
  · simp only [hw, Bool.false_eq_true, if_false]; exact ⟨fun f _ => hF f, h⟩
theorem wpOpIn_putIf {j : Nat} {oi oj : Oper} {v : Value} (hnd : NoDefer ops) (hF : ∀ f, F.fn f) (hj : ops[j]? = some oj) (hap : oi.apart ops oj = true)
    (hsi : ∀ cs b, oi.op ≠ .select cs b) (hsj : ∀ cs b, oj.op ≠ .select cs b)
    (hQ : ∀ c a w, Q (.panic c) (a.put oi.dst v) w → Q (.panic c) a w) {K : Act → World → Prop} {a : Act} {w : World}
    (hy : YieldsIf P ops S oi v a) (h : wpOpIn F N P ops Q j K (a.put oi.dst v) w) :
    wpOpIn F N P ops Q j (fun a' w' => YieldsIf P ops S oi v a' ∧ K (a'.put oi.dst v) w') a w := by
  obtain ⟨h1, h2, h3⟩ := Oper.apart_spec hap
  have keep : ∀ (a : Act), YieldsIf P ops S oi v a → ∀ u, YieldsIf P ops S oi v (a.put oj.dst u) := fun a hy u =>
    hy.of_same (execOp_put oi hsi a oj.dst u h3) (wanted_put oi a oj.dst u h3)
  have keepD : ∀ d, YieldsIf P ops S oi v { a with defers := d :: a.defers } := fun d => hy.of_same rfl rfl
  have hdj := hnd j oj hj
  unfold wpOpIn at *
  simp only [hj] at *
  rw [wanted_put oj a oi.dst v h1] at h
  split
  · rename_i hw
    simp only [hw, if_true] at h
    unfold Oper.wpIn at *
    refine ⟨fun f _ => hF f, ?_⟩
    have h := h.2
    rw [Oper.semAt_eq _ _ _ hdj, execOp_put oj hsj a oi.dst v h1] at h
    rw [Oper.semAt_eq _ _ _ hdj]
    generalize (execOp a.eval oj).run P w = r at *
    cases r with
    | ok x w' =>
      cases x <;> simp only [Oper.uponIn] at h ⊢
      case value u => exact ⟨keep a hy u, by rw [← Act.put_comm a v u h2]; exact h⟩
      case skip => exact ⟨keep a hy _, by rw [← Act.put_comm a v undef h2]; exact h⟩
      case defer d =>
        refine ⟨keep _ (keepD d) _, ?_⟩
        rw [← Act.put_comm _ v undef h2, ← Act.put_defers]
        exact h
      case enter f args =>
        refine ⟨h.1, CallsIn.mono h.2 fun e w'' he => ?_⟩
        cases e with
        | returned u => exact ⟨keep a hy u, by rw [← Act.put_comm a v u h2]; exact he⟩
        | panicked c => exact hQ _ _ _ he
        | outgrown => exact he
      case row row args => exact ⟨h.1, RowsIn.mono h.2 fun u w'' he => ⟨keep a hy u, by rw [← Act.put_comm a v u h2]; exact he⟩⟩
      case round l f tmps assign body =>
        refine ⟨h.1, RoundIn.mono h.2 fun e w'' he => ?_⟩
        cases e with
        | returned u => exact ⟨keep a hy u, by rw [← Act.put_comm a v u h2]; exact he⟩
        | panicked c => exact hQ _ _ _ he
        | outgrown => exact he
    | halt x w' =>
      cases x <;> simp only [Oper.uponIn] at h ⊢
      case panic u => exact hQ _ _ _ h
  · rename_i hw
    simp only [hw] at h
    exact ⟨fun f _ => hF f, keep a hy _, by rw [← Act.put_comm a v undef h2]; exact h.2⟩
end fence

/-- Whatever order is picked; S holds behind each operation; it may give way where a store has waited for all that had come up. -/
def wpAnyX (r : Option Nat) (P : Program) (ops : Array Oper) (Q : Exit → Act → World → Prop) : Nat → Array Bool → (World → Prop) → Act → World → Prop
  | 0, listed, _, a, w => Region.ready .any ops listed = [] ∧ Q .normal a w
  | fuel + 1, listed, S, a, w =>
    (Region.ready .any ops listed = [] → Q .normal a w) ∧
    ∀ i ∈ Region.ready .any ops listed, wpOpIn (fen r) 0 P ops Q i (fun a' w' => ∃ S' : World → Prop, S' w' ∧ (S' = S ∨ waitsAll ops listed i = true) ∧ wpAnyX r P ops Q fuel (listed.setIfInBounds i true) S' a' w') a w
theorem wpAny_ofX {r : Option Nat} {ops : Array Oper} {Q : Exit → Act → World → Prop} : ∀ (fuel : Nat) (listed : Array Bool) (S : World → Prop) (a : Act) (w : World), wpAnyX r P ops Q fuel listed S a w → wpAnyIn (fen r) 0 P .any ops Q fuel listed a w
  | 0, _, _, _, _, h => h
  | fuel + 1, _, _, _, _, h => ⟨h.1, fun i hi => wpOpIn_mono (fun a' w' ⟨S', _, _, h'⟩ => wpAny_ofX fuel _ S' a' w' h') (h.2 i hi)⟩
theorem waitsAll_spec {ops : Array Oper} {listed : Array Bool} {i j : Nat} {o : Oper} {o' : Oper} (h : waitsAll ops listed i = true) (hi : ops[i]? = some o) (hj : listed[j]? = some true) (hoj : ops[j]? = some o') (hl : isLoad o' = true) :
    ∃ e ∈ o.after, Region.binds .any e = true ∧ e.on = j := by
  unfold waitsAll at h
  rw [hi] at h
  simp only [Bool.and_eq_true, List.all_eq_true] at h
  have h2 := h.2 (true, j) (by rw [List.mem_zipIdx_iff_getElem?]; simpa using hj)
  simp only [hoj, Option.map_some, Option.getD_some, hl, Bool.not_true, Bool.false_or, List.any_eq_true, Bool.and_eq_true] at h2
  obtain ⟨e, he, hb, hon⟩ := h2
  exact ⟨e, by simpa using he, hb, Nat.eq_of_beq_eq_true hon⟩
theorem waitsAll_unset {ops : Array Oper} {listed : Array Bool} {i j : Nat} (h : waitsAll ops (listed.setIfInBounds i true) j = true) (hi : i < listed.size) : waitsAll ops listed j = true := by
  unfold waitsAll at h ⊢
  split at h
  · rename_i o ho
    simp only [Bool.and_eq_true, List.all_eq_true] at h ⊢
    refine ⟨h.1, fun x hx => ?_⟩
    rw [List.mem_zipIdx_iff_getElem?] at hx
    cases hx1 : x.1 with
    | false => simp
    | true =>
      have := h.2 (true, x.2) (by
        rw [List.mem_zipIdx_iff_getElem?]
        simp only [Array.getElem?_toList] at hx ⊢
        rw [hx1] at hx
        rw [Array.getElem?_setIfInBounds]
        split
        · simp [hi]
        · exact hx)
      simpa using this
  · cases h
/-- An operation that may come up now and yields its value in every world that meets S may be taken first. -/
theorem wpAnyX_first {r : Option Nat} {ops : Array Oper} {Q : Exit → Act → World → Prop} {i : Nat} {oi : Oper} {v : Value} (hnd : NoDefer ops) (hi : ops[i]? = some oi) (hsel : ∀ (j : Nat) (o : Oper) cs b, ops[j]? = some o → o.op ≠ .select cs b)
    (hQ : ∀ c a w, Q (.panic c) (a.put oi.dst v) w → Q (.panic c) a w) :
    ∀ (fuel : Nat) (listed : Array Bool) (S Sy : World → Prop) (a : Act) (w : World), (isLoad oi = true ∧ Sy = S) ∨ (isLoad oi = false ∧ Sy = fun _ => True) →
      (∀ j oj, ops[j]? = some oj → j ≠ i → listed.getD j true = false → (∀ e ∈ oj.after, Region.binds .any e = true → e.on ≠ i) → oi.apart ops oj = true) →
      i ∈ Region.ready .any ops listed → YieldsIf P ops Sy oi v a → S w →
      wpAnyX r P ops Q fuel (listed.setIfInBounds i true) S (a.put oi.dst v) w → wpAnyX r P ops Q (fuel + 1) listed S a w := by
  intro fuel
  have meets : ∀ {S Sy : World → Prop} {w : World}, (isLoad oi = true ∧ Sy = S) ∨ (isLoad oi = false ∧ Sy = fun _ => True) → S w → Sy w := by
    rintro S Sy w (⟨_, rfl⟩ | ⟨_, rfl⟩) h
    · exact h
    · trivial
  induction fuel with
  | zero =>
    intro listed S Sy a w hSy _ hr hy hS H
    refine ⟨fun h => (by rw [h] at hr; cases hr), fun j hj => ?_⟩
    by_cases hji : j = i
    · subst hji
      exact yieldsIf_wpOpIn hnd (fun _ => trivial) hi hy (meets hSy hS) ⟨S, hS, .inl rfl, H⟩
    · have h0 := ready_mono hj hji
      rw [H.1] at h0
      cases h0
  | succ fuel ih =>
    intro listed S Sy a w hSy hfree hr hy hS H
    refine ⟨fun h => (by rw [h] at hr; cases hr), fun j hj => ?_⟩
    by_cases hji : j = i
    · subst hji
      exact yieldsIf_wpOpIn hnd (fun _ => trivial) hi hy (meets hSy hS) ⟨S, hS, .inl rfl, H⟩
    · have hH := H.2 j (ready_mono hj hji)
      obtain ⟨hun, oj, hoj, hpre⟩ := mem_ready.1 hj
      have hiun := (mem_ready.1 hr).1
      have hisz : i < listed.size := by
        apply Decidable.byContradiction
        intro hge
        rw [Array.getD_eq_getD_getElem?, Array.getElem?_eq_none (by omega)] at hiun
        cases hiun
      -- j does not wait for i, for i has not come up
      have hno : ∀ e ∈ oj.after, Region.binds .any e = true → e.on ≠ i := by
        intro e he hb heq
        have hl := hpre e he hb
        rw [heq] at hl
        simp [hisz] at hl hiun
        rw [hiun] at hl
        cases hl
      have hsw := wpOpIn_putIf hnd (fun _ => trivial) hoj (hfree j oj hoj hji hun hno) (fun cs b => hsel i oi cs b hi) (fun cs b => hsel j oj cs b hoj) hQ hy hH
      have hfree' : ∀ k ok, ops[k]? = some ok → k ≠ i → (listed.setIfInBounds j true).getD k true = false → (∀ e ∈ ok.after, Region.binds .any e = true → e.on ≠ i) → oi.apart ops ok = true := by
        intro k ok hk hki hku hkno
        by_cases hjk : j = k
        · subst hjk
          exact hfree j ok hk hki hun hkno
        · exact hfree k ok hk hki (by rwa [getD_set_ne true hjk] at hku) hkno
      refine wpOpIn_mono (fun a' w' => ?_) hsw
      rintro ⟨hy', S', hS', hch, hrest⟩
      have hSS : S' = S ∨ waitsAll ops listed j = true ∧ isLoad oi = false := by
        rcases hch with h | h
        · exact .inl h
        · cases hl : isLoad oi with
          | true =>
            obtain ⟨e, he, hb, hon⟩ := waitsAll_spec (j := i) h hoj (by simp [hisz]) hi hl
            exact absurd hon (hno e he hb)
          | false => exact .inr ⟨waitsAll_unset h (by simp [hisz]), rfl⟩
      have hSy' : (isLoad oi = true ∧ Sy = S') ∨ (isLoad oi = false ∧ Sy = fun _ => True) := by
        rcases hSS with rfl | h
        · exact hSy
        · rcases hSy with h2 | h2
          · rw [h.2] at h2; cases h2.1
          · exact .inr h2
      refine ⟨S', hS', hSS.imp id (·.1), ih (listed.setIfInBounds j true) S' Sy a' w' hSy' hfree' (ready_mono hr (Ne.symm hji)) hy' hS' ?_⟩
      rw [Array.setIfInBounds_comm _ _ hji]
      exact hrest
theorem wpAnyX_done {r : Option Nat} {ops : Array Oper} {Q : Exit → Act → World → Prop} {listed : Array Bool} {S : World → Prop} {a : Act} {w : World} (hr : Region.ready .any ops listed = []) (h : Q .normal a w) : ∀ fuel, wpAnyX r P ops Q fuel listed S a w
  | 0 => ⟨hr, h⟩
  | _ + 1 => ⟨fun _ => h, by rw [hr]; simp⟩

theorem takeP_noLoad {o : Oper} {S : World → Prop} {w : World} {k : Value → Prop} (hl : isLoad o = false) (h : takeP P T S o.op o.type ρ w k) : takeP P T (fun _ => True) o.op o.type ρ w k := by
  unfold isLoad at hl
  unfold takeP at h ⊢
  split at h
  · exact h
  · cases ho : o.op with
    | slice _ _ _ _ e => cases e <;> simp_all
    | _ => simp_all
theorem drawL_sound {r : Option Nat} (hT : TOk P T) (hB : BOk P B) {ops : Array Oper} {kx : Nat → Env → World → Prop} {kn kr : Env → World → Prop} {kp : List PanicEntry → World → Prop}
    (hd : dstsOk n C ops.toList = true) (hsel : Region.noSelect ops = true) (hnd : NoDefer ops) :
    ∀ (l : Sch) (fuel : Nat) (listed : Array Bool) (S : World → Prop) (a : Act) (ρ : Env) (w : World), l.depth ≤ fuel → schedOk ops l listed = true → Ag Df n C ρ0 a ρ → S w →
      drawL P T B ops kp kn l S ρ w → wpAnyX r P ops (QOf Df n C ρ0 kx kn kr kp) fuel listed S a w := by
  have hQ : ∀ (o : Oper) (v : Value), (∀ d, o.dst = some d → d < n ∧ d ∉ C) → ∀ (c : List PanicEntry) (a : Act) (w : World), QOf Df n C ρ0 kx kn kr kp (.panic c) (a.put o.dst v) w → QOf Df n C ρ0 kx kn kr kp (.panic c) a w := by
    intro o v hdst c a w hq
    refine ⟨?_, hq.2⟩
    have := hq.1
    cases hdo : o.dst with
    | none => rw [hdo] at this; exact this
    | some d =>
      rw [hdo] at this
      refine ⟨this.1, fun t ht => ?_⟩
      have hne : d ≠ t := fun e => (hdst d hdo).2 (e ▸ ht)
      have h2 := this.2 t ht
      simp only [Act.put, Array.getD_eq_getD_getElem?, Array.getElem?_setIfInBounds_ne hne] at h2
      rwa [← Array.getD_eq_getD_getElem?] at h2
  -- an operation that comes in its turn
  have turn : ∀ (i : Nat) (o : Oper) (rest : Sch) (fuel : Nat) (listed : Array Bool) (S : World → Prop) (a : Act) (ρ : Env) (w : World) (C0 : (World → Prop) → Prop), C0 S → ops[i]? = some o →
      (∀ S a ρ w, Ag Df n C ρ0 a ρ → S w → drawL P T B ops kp kn rest S ρ w → wpAnyX r P ops (QOf Df n C ρ0 kx kn kr kp) fuel (listed.setIfInBounds i true) S a w) →
      Ag Df n C ρ0 a ρ → S w →
      guardP ops o ρ (fun ρ => opP P T B o.op o.type ρ w (fun v w' => ∃ S' : World → Prop, C0 S' ∧ S' w' ∧ drawL P T B ops kp kn rest S' (ρ.put o.dst v) w') kp) (fun ρ => drawL P T B ops kp kn rest S (ρ.put o.dst undef) w) →
      wpOpIn (fen r) 0 P ops (QOf Df n C ρ0 kx kn kr kp) i (fun a' w' => ∃ S' : World → Prop, C0 S' ∧ S' w' ∧ wpAnyX r P ops (QOf Df n C ρ0 kx kn kr kp) fuel (listed.setIfInBounds i true) S' a' w') a w := by
    intro i o rest fuel listed S a ρ w C0 hC0 hi ih hA hS h
    have hdst := at_get hd hi
    unfold wpOpIn
    simp only [hi]
    refine guardP_sound hA h (fun ρ' hA' hw ho => ?_) (fun ρ' hA' hw hr => ?_)
    · simp only [hw, if_true]
      refine (wp_of_upon (opP_notDefer ho) hA'.eval (opP_sound hT hB ho) (fun v w' hv => ?_) (fun ch w' hc => ⟨hA.stays, hc⟩))
      obtain ⟨S', h1, h2, h3⟩ := hv
      exact ⟨S', h1, h2, ih _ _ _ _ (hA'.put _ _ hdst) h2 h3⟩
    · simp only [hw, Bool.false_eq_true, if_false]
      exact ⟨fun _ _ => trivial, S, hC0, hS, ih _ _ _ _ (hA'.put _ _ hdst) hS hr⟩
  have same : ∀ (o : Oper) (rest : Sch) (S : World → Prop) (ρ : Env) (w : World),
      guardP ops o ρ (fun ρ => opP P T B o.op o.type ρ w (fun v w' => S w' ∧ drawL P T B ops kp kn rest S (ρ.put o.dst v) w') kp) (fun ρ => drawL P T B ops kp kn rest S (ρ.put o.dst undef) w) →
      guardP ops o ρ (fun ρ => opP P T B o.op o.type ρ w (fun v w' => ∃ S' : World → Prop, S' = S ∧ S' w' ∧ drawL P T B ops kp kn rest S' (ρ.put o.dst v) w') kp) (fun ρ => drawL P T B ops kp kn rest S (ρ.put o.dst undef) w) := by
    intro o rest S ρ w h
    have : ∀ ρ : Env, (fun (v : Value) (w' : World) => S w' ∧ drawL P T B ops kp kn rest S (ρ.put o.dst v) w') = fun v w' => ∃ S' : World → Prop, S' = S ∧ S' w' ∧ drawL P T B ops kp kn rest S' (ρ.put o.dst v) w' := by
      intro ρ
      funext v w'
      simp
    simpa only [← this] using h
  intro l
  induction l with
  | nil =>
    intro fuel listed S a ρ w _ hok hA _ h
    refine wpAnyX_done ?_ ⟨ρ, hA, h⟩ fuel
    simpa [schedOk] using hok
  | take i rest ih =>
    intro fuel listed S a ρ w hf hok hA hS h
    obtain ⟨fuel, rfl⟩ : ∃ m, fuel = m + 1 := ⟨fuel - 1, by simp [Sch.depth] at hf; omega⟩
    have hf' : rest.depth ≤ fuel := by simpa [Sch.depth] using hf
    simp only [schedOk, Bool.and_eq_true] at hok
    simp only [drawL] at h
    cases hi : ops[i]? with
    | none => rw [hi] at h; exact h.elim
    | some o =>
      rw [hi] at h
      have hdst := at_get hd hi
      obtain ⟨Sy, hSy⟩ : ∃ Sy : World → Prop, (isLoad o = true ∧ Sy = S) ∨ (isLoad o = false ∧ Sy = fun _ => True) := by
        cases hl : isLoad o with
        | true => exact ⟨S, .inl ⟨rfl, rfl⟩⟩
        | false => exact ⟨fun _ => True, .inr ⟨rfl, rfl⟩⟩
      have first : ∀ (v : Value), YieldsIf P ops Sy o v a → wpAnyX r P ops (QOf Df n C ρ0 kx kn kr kp) fuel (listed.setIfInBounds i true) S (a.put o.dst v) w → wpAnyX r P ops (QOf Df n C ρ0 kx kn kr kp) (fuel + 1) listed S a w := fun v hy hx =>
        wpAnyX_first hnd hi (Region.noSelect_spec hsel) (hQ o v hdst) fuel listed S Sy a w hSy (Region.free_spec hi hok.1.1) (by simpa using hok.1.2) hy hS hx
      refine guardP_sound hA h (fun ρ' hA' hw ht => ?_) (fun ρ' hA' hw hr => ?_)
      · have ht' : takeP P T Sy o.op o.type ρ' w fun v => drawL P T B ops kp kn rest S (ρ'.put o.dst v) w := by
          rcases hSy with ⟨_, rfl⟩ | ⟨hl, rfl⟩
          · exact ht
          · exact takeP_noLoad hl ht
        obtain ⟨v, hv, hrun⟩ := takeP_sound hT ht'
        exact first v (.inl ⟨hw, fun w' hS' => by rw [hA'.eval]; exact hrun w' hS'⟩) (ih fuel _ _ _ _ _ hf' hok.2 (hA'.put _ _ hdst) hS hv)
      · exact first undef (.inr ⟨hw, rfl⟩) (ih fuel _ _ _ _ _ hf' hok.2 (hA'.put _ _ hdst) hS hr)
  | only i rest ih =>
    intro fuel listed S a ρ w hf hok hA hS h
    obtain ⟨fuel, rfl⟩ : ∃ m, fuel = m + 1 := ⟨fuel - 1, by simp [Sch.depth] at hf; omega⟩
    have hf' : rest.depth ≤ fuel := by simpa [Sch.depth] using hf
    simp only [schedOk, Bool.and_eq_true, beq_iff_eq] at hok
    simp only [drawL] at h
    cases hi : ops[i]? with
    | none => rw [hi] at h; exact h.elim
    | some o =>
      rw [hi] at h
      refine ⟨fun h0 => absurd (hok.1 ▸ h0) (by simp), fun j hj => ?_⟩
      rw [hok.1] at hj
      obtain rfl : j = i := by simpa using hj
      refine wpOpIn_mono ?_ (turn _ o rest fuel listed S a ρ w (fun S' => S' = S) rfl hi (fun S a ρ w => ih fuel _ S a ρ w hf' hok.2) hA hS (same _ _ _ _ _ h))
      rintro a' w' ⟨S', h1, h2, h3⟩
      exact ⟨S', h2, .inl h1, h3⟩
  | turn i rest ih =>
    intro fuel listed S a ρ w hf hok hA hS h
    obtain ⟨fuel, rfl⟩ : ∃ m, fuel = m + 1 := ⟨fuel - 1, by simp [Sch.depth] at hf; omega⟩
    have hf' : rest.depth ≤ fuel := by simpa [Sch.depth] using hf
    simp only [schedOk, Bool.and_eq_true, beq_iff_eq] at hok
    simp only [drawL] at h
    cases hi : ops[i]? with
    | none => rw [hi] at h; exact h.elim
    | some o =>
      rw [hi] at h
      refine ⟨fun h0 => absurd (hok.1 ▸ h0) (by simp), fun j hj => ?_⟩
      rw [hok.1] at hj
      obtain rfl : j = i := by simpa using hj
      refine wpOpIn_mono ?_ (turn _ o rest fuel listed S a ρ w (fun _ => True) trivial hi (fun S a ρ w => ih fuel _ S a ρ w hf' hok.2.2) hA hS ?_)
      · rintro a' w' ⟨S', _, h2, h3⟩
        exact ⟨S', h2, .inr hok.2.1, h3⟩
      · simpa only [true_and] using h
  | two i j ri rj ihi ihj =>
    intro fuel listed S a ρ w hf hok hA hS h
    obtain ⟨fuel, rfl⟩ : ∃ m, fuel = m + 1 := ⟨fuel - 1, by simp [Sch.depth] at hf; omega⟩
    have hfi : ri.depth ≤ fuel := by simp [Sch.depth] at hf; omega
    have hfj : rj.depth ≤ fuel := by simp [Sch.depth] at hf; omega
    simp only [schedOk, Bool.and_eq_true, beq_iff_eq] at hok
    simp only [drawL] at h
    cases hi : ops[i]? with
    | none => rw [hi] at h; exact h.elim
    | some o =>
      cases hj : ops[j]? with
      | none => rw [hi, hj] at h; exact h.elim
      | some o' =>
        rw [hi, hj] at h
        refine ⟨fun h0 => absurd (hok.1 ▸ h0) (by simp), fun m hm => ?_⟩
        rw [hok.1] at hm
        have hm' : m = i ∨ m = j := by simpa using hm
        rcases hm' with rfl | rfl
        · refine wpOpIn_mono ?_ (turn _ o ri fuel listed S a ρ w (fun S' => S' = S) rfl hi (fun S a ρ w => ihi fuel _ S a ρ w hfi hok.2.1) hA hS (same _ _ _ _ _ h.1))
          rintro a' w' ⟨S', h1, h2, h3⟩
          exact ⟨S', h2, .inl h1, h3⟩
        · refine wpOpIn_mono ?_ (turn _ o' rj fuel listed S a ρ w (fun S' => S' = S) rfl hj (fun S a ρ w => ihj fuel _ S a ρ w hfj hok.2.2) hA hS (same _ _ _ _ _ h.2))
          rintro a' w' ⟨S', h1, h2, h3⟩
          exact ⟨S', h2, .inl h1, h3⟩

theorem drawP_ok (hT : TOk P T) (hB : BOk P B) (hm : P.follows .mixedOrders = true) : DOk P (drawP P T B) := by
  intro r Df n C ρ0 id ops kx kn kr kp a ρ w hd hA h
  unfold drawP at h
  cases hok : drawOk ops with
  | false => rw [hok] at h; exact h.elim
  | true =>
    rw [hok] at h
    obtain ⟨S, hS, hl⟩ := h
    simp only [drawOk, Bool.and_eq_true, List.all_eq_true] at hok
    refine wpIn_region_any hm (wpAny_ofX _ _ S _ _ ?_)
    exact drawL_sound hT hB hd hok.1.1.1 (fun j o hj => notDefer_spec (hok.1.1.2 o (Array.mem_toList_iff.2 (Array.mem_of_getElem? hj)))) _ _ _ _ _ _ _ (by simpa using hok.1.2) hok.2 hA hS hl
end
end Go.GX
