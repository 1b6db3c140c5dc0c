/- The evaluator of GxA is sound for the model: what it shows of a body holds of every call. -/
import Derived.Test.YtilacabmbjephaaGreatDoorGxA
import Derived.OrdersHeld
import Derived.Laws.Alloc2
namespace Go.GX
set_option linter.unusedVariables false
set_option linter.unusedSimpArgs false
attribute [local simp] Sem.run

def TOk (P : Program) (T : Nat → Option TK) : Prop := ∀ t k, T t = some k → TSpec P t k
def BOk (P : Program) (B : Nat → Bool) : Prop := ∀ g, B g = true → ∃ fn, P.funcs[g]? = some fn ∧ fn.body.isNone = false ∧ (fn.name == "runtime.NumGoroutine") = false

section
variable {P : Program} {T : Nat → Option TK} {B : Nat → Bool}

theorem execOp_move (ρ : Operand → Value) (o : Oper) (x : Operand) (h : o.op = .move x) : execOp ρ o = pure (.value (ρ x)) := by simp only [execOp, h]
theorem run_under {t : Nat} {d : TypeDesc} (h : P.underlying t = some d) (w : World) : (underlying t).run P w = .ok d w := by
  simp [underlying, h]
theorem pinfo_some {t : Nat} {z : Option Value} {s : Nat} (h : pinfo P t = some (z, s)) : ∃ i, P.info? t = some i ∧ i.zero = z ∧ i.size = s := by
  unfold pinfo at h
  obtain ⟨i, hi, he⟩ := Option.map_eq_some_iff.1 h
  simp only [Prod.mk.injEq] at he
  exact ⟨i, hi, he.1, he.2⟩
theorem run_sizeOf' {t : Nat} {z : Option Value} {s : Nat} (h : pinfo P t = some (z, s)) (w : World) : (sizeOf t).run P w = .ok s w := by
  obtain ⟨i, hi, _, hs⟩ := pinfo_some h
  simp [sizeOf, typeInfo, hi, hs]
theorem run_zeroValue' {t : Nat} {z : Value} {s : Nat} (h : pinfo P t = some (some z, s)) (w : World) : (zeroValue t).run P w = .ok z w := by
  obtain ⟨i, hi, hz, _⟩ := pinfo_some h
  simp [zeroValue, typeInfo, hi, hz]

theorem binV_sound {op : BinOp} {x y v : Value} (t : Nat) (h : binV op x y = some v) (w : World) : (binOp op t x y).run P w = .ok v w := by
  unfold binV at h
  split at h <;> (try (split at h <;> (try (cases h)))) <;> (try (cases h)) <;>
    (try subst_vars) <;> simp [binOp, Op.intArith, Op.intCmp, Op.stringOp]
theorem binV_guard {op : BinOp} {x y v : Value} (t : Nat) (a b : Operand) (h : binV op x y = some v) (w : World) : (eqGuard op t a b x y).run P w = .ok () w := by
  unfold binV at h
  split at h <;> (try (split at h <;> (try (cases h)))) <;> (try (cases h)) <;> simp [eqGuard]

theorem run_equalIn_bool (d : Nat) {t : Nat} (a b : Bool) (h : P.underlying t = some .bool) (w : World) : (Op.equalIn (d + 1) t (.bool a) (.bool b)).run P w = .ok (a == b) w := by
  simp only [Op.equalIn, Sem.run_bind, run_under h, Result.andThen_ok]
  rfl
theorem run_equal_bool {t : Nat} (a b : Bool) (h : P.underlying t = some .bool) (w : World) : (Op.equal t (.bool a) (.bool b)).run P w = .ok (a == b) w := by
  unfold Op.equal Op.maxDepth
  exact run_equalIn_bool 9999 a b h w
theorem eqGuard_bool (op : BinOp) (t : Nat) (x y : Operand) (a b : Bool) (w : World) : (eqGuard op t x y (.bool a) (.bool b)).run P w = .ok () w := by
  simp [eqGuard]
theorem run_len_slice {t n c : Nat} {A : Option Addr} {e : Nat} (ty : Nat) (h : P.underlying t = some (.slice e)) (w : World) : (Builtin.len_ #[t] ty #[.slice A n c]).run P w = .ok (.int .i64 n) w := by
  simp [Builtin.len_, run_under h, goInt]
theorem run_len_str {t : Nat} {s : ByteArray} (ty : Nat) (h : P.underlying t = some .string) (w : World) : (Builtin.len_ #[t] ty #[.string s]).run P w = .ok (.int .i64 s.size) w := by
  simp [Builtin.len_, run_under h, goInt]
theorem one_of_size {α : Type} {xs : Array α} {d : α} (h : xs.size = 1) : xs = #[xs.getD 0 d] := by
  apply Array.ext
  · simp [h]
  · intro i h1 h2
    have : i = 0 := by omega
    subst this
    simp [Array.getD, h]
theorem two_of_size {α : Type} {xs : Array α} {x y : α} (h : xs.size = 2) (h0 : xs[0]? = some x) (h1 : xs[1]? = some y) : xs = #[x, y] := by
  apply Array.ext
  · simp [h]
  · intro i hi1 hi2
    have : i = 0 ∨ i = 1 := by omega
    rcases this with rfl | rfl
    · have := Array.getElem?_eq_getElem hi1; rw [h0] at this; simpa using (Option.some.inj this).symm
    · have := Array.getElem?_eq_getElem hi1; rw [h1] at this; simpa using (Option.some.inj this).symm

theorem pureV_sound (hT : TOk P T) {o : Oper} {ρ : Env} {v : Value} (h : pureV T o.op ρ = some v) (w : World) : (execOp ρ.ev o).run P w = .ok (.value v) w := by
  unfold pureV at h
  split at h
  case h_1 x ho => cases h; simp [execOp, ho]
  case h_2 x ho => cases h; simp [execOp, ho]
  case h_3 c a b ho =>
    split at h
    · rename_i t ht
      cases h
      simp [execOp, ho, ht, asBool]
    · cases h
  case h_4 op t x y ty ho =>
    split at h
    · rename_i a b h1 h2 h3
      cases h
      have ht := (hT t _ h1).1
      simp only [execOp, ho, h2, h3, Sem.run_bind, eqGuard_bool, Result.andThen_ok, binOp, run_equal_bool _ _ ht]
      rfl
    · rename_i a b h1 h2 h3
      cases h
      have ht := (hT t _ h1).1
      simp only [execOp, ho, h2, h3, Sem.run_bind, eqGuard_bool, Result.andThen_ok, binOp, run_equal_bool _ _ ht]
      rfl
    · simp only [execOp, ho, Sem.run_bind, binV_guard _ _ _ h, binV_sound _ h, Result.andThen_ok]
      rfl
  case h_5 t x ho =>
    split at h
    · rename_i b hb
      cases h
      simp [execOp, ho, hb, Op.unary]
    · cases h
  case h_6 t x ho =>
    split at h
    · rename_i k n hb
      cases h
      simp [execOp, ho, hb, Op.unary, Op.intArith]
    · cases h
  case h_7 t x ho =>
    split at h
    · cases h
    · cases h
    · cases h
    · rename_i tk h1 h3 h2 ht
      cases h
      have hs := hT t tk ht
      have hr : (Instr.makeInterface t (ρ.ev x)).run P w = .ok (.iface t (ρ.ev x)) w := by
        cases tk <;> simp only [TSpec] at hs
        case opaque1 => exact absurd rfl h1
        case fn => exact absurd rfl h3
        case tup => exact absurd rfl (h2 _)
        case int => simp [Instr.makeInterface, run_under hs.1]
        case bool => simp [Instr.makeInterface, run_under hs.1]
        case str => simp [Instr.makeInterface, run_under hs.1]
        case slice => simp [Instr.makeInterface, run_under hs.1]
        case ptr => obtain ⟨⟨e, he⟩, _⟩ := hs; simp [Instr.makeInterface, run_under he]
        case agg => obtain ⟨⟨fa, hu, _⟩, _⟩ := hs; simp [Instr.makeInterface, run_under hu]
        case arr => simp [Instr.makeInterface, run_under hs.1]
      simp [execOp, ho, hr]
    · cases h
  case h_8 fn first cap ho => cases h; simp [execOp, ho, Instr.makeFunc, mapA_eq]
  case h_9 x ho =>
    split at h
    · rename_i f first cap ha
      cases h
      simp [execOp, ho, ha]
    · rename_i f first cap ha
      cases h
      simp [execOp, ho, ha]
    · cases h
  case h_10 s x f ho =>
    split at h
    · rename_i sz fs zs a h1 h2
      split at h
      · rename_i off sz' hf
        cases h
        obtain ⟨⟨fa, hu, hfs, hall⟩, _, _⟩ := hT s _ h1
        rw [← hfs] at hf
        simp only [List.getElem?_map, Option.map_eq_some_iff] at hf
        obtain ⟨fld, hfld, he⟩ := hf
        simp only [Prod.mk.injEq] at he
        obtain ⟨z, s', hp, hpos⟩ := hall fld (List.mem_of_getElem? hfld)
        have hfld' : fa[f]? = some fld := by simpa using hfld
        have hsz := run_sizeOf' hp w
        simp only [execOp, ho, Instr.fieldAt, Sem.run_bind, run_under hu, Result.andThen_ok, hfld', h2, Instr.sureAddr, fieldPlace, hsz]
        simp [show ¬ s' = 0 by omega, he.1, hsz]
      · cases h
    · cases h
  case h_11 args tys ho =>
    split at h
    · rename_i A n c ht ha hs
      cases h
      have hu := (hT _ _ ht).1
      obtain ⟨x, hx, hxv⟩ := Option.map_eq_some_iff.1 ha
      have h2 : (args.map ρ.ev)[0]? = some (.slice A n c) := by simp [hx, hxv]
      rw [one_of_size (d := 0) hs] at ho
      generalize tys.getD 0 0 = t0 at *
      have hl : (Builtin.len_ #[t0] o.type (args.map ρ.ev)).run P w = .ok (.int .i64 n) w := by
        simp [Builtin.len_, h2, run_under hu, goInt, hx, hxv]
      simp only [execOp, ho, resolve, Sem.run_bind, Sem.run_pure, Result.andThen_ok, invoke, builtin, hl]
    · rename_i sv ht ha hs
      cases h
      have hu := (hT _ _ ht).1
      obtain ⟨x, hx, hxv⟩ := Option.map_eq_some_iff.1 ha
      have h2 : (args.map ρ.ev)[0]? = some (.string sv) := by simp [hx, hxv]
      rw [one_of_size (d := 0) hs] at ho
      generalize tys.getD 0 0 = t0 at *
      have hl : (Builtin.len_ #[t0] o.type (args.map ρ.ev)).run P w = .ok (.int .i64 sv.size) w := by
        simp [Builtin.len_, h2, run_under hu, goInt, hx, hxv]
      simp only [execOp, ho, resolve, Sem.run_bind, Sem.run_pure, Result.andThen_ok, invoke, builtin, hl]
    · cases h
  case h_12 args tys ho =>
    split at h
    · rename_i A n c ht ha hs
      cases h
      have hu := (hT _ _ ht).1
      obtain ⟨x, hx, hxv⟩ := Option.map_eq_some_iff.1 ha
      rw [one_of_size (d := 0) hs] at ho
      generalize tys.getD 0 0 = t0 at *
      have hl : (Builtin.cap_ #[t0] o.type (args.map ρ.ev)).run P w = .ok (.int .i64 c) w := by
        simp [Builtin.cap_, run_under hu, goInt, hx, hxv]
      simp only [execOp, ho, resolve, Sem.run_bind, Sem.run_pure, Result.andThen_ok, invoke, builtin, hl]
    · cases h
  case h_13 args tys ho =>
    split at h
    · rename_i k a k' b ha hb hs
      cases h
      obtain ⟨x, hx, hxv⟩ := Option.map_eq_some_iff.1 ha
      obtain ⟨y, hy, hyv⟩ := Option.map_eq_some_iff.1 hb
      have h2 : args = #[x, y] := two_of_size hs hx hy
      subst h2
      simp [execOp, ho, resolve, invoke, builtin, Builtin.max_, Builtin.max2, hxv, hyv]
    · cases h
  case h_14 args tys ho =>
    split at h
    · rename_i k a k' b ha hb hs
      cases h
      obtain ⟨x, hx, hxv⟩ := Option.map_eq_some_iff.1 ha
      obtain ⟨y, hy, hyv⟩ := Option.map_eq_some_iff.1 hb
      have h2 : args = #[x, y] := two_of_size hs hx hy
      subst h2
      simp [execOp, ho, resolve, invoke, builtin, Builtin.min_, Builtin.min2, hxv, hyv]
    · cases h
  case h_15 => cases h
end
end Go.GX
