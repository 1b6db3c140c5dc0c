/- The evaluator's effects are the model's (GxB goes on). -/
import Derived.Test.YtilacabmbjephaaGreatDoorGxB
import Derived.Laws.Rows
namespace Go.GX
set_option linter.unusedVariables false
set_option linter.unusedSimpArgs false
attribute [local simp] Sem.run

section
variable {P : Program} {T : Nat → Option TK} {B : Nat → Bool}

/-- What an operation comes to. -/
def Upon (P : Program) (k : Value → World → Prop) (kp : List PanicEntry → World → Prop) : Result Next → Prop
  | .ok (.value v) w' => k v w'
  | .ok .skip w' => k undef w'
  | .ok (.enter f args) w' => Calls P f args w' (Ret k kp)
  | .ok (.round l f tmps assign body) w' => RoundIn Fence.wide 0 P l f tmps assign body w' (Ret k kp)
  | .halt (.panic v) w' => kp [{ v, recovered := false }] w'
  | _ => False

theorem Dec_elim {tk : Option TK} {v : Value} {k : Value → Prop} (h : Dec tk v k) : k v := by
  unfold Dec at h
  split at h
  case h_1 => obtain ⟨n, rfl, h⟩ := h; exact h
  case h_2 => obtain ⟨n, rfl, h⟩ := h; exact h
  case h_3 => obtain ⟨n, rfl, h⟩ := h; exact h
  case h_4 => obtain ⟨A, n, c, rfl, h⟩ := h; exact h
  case h_5 => obtain ⟨n, rfl, h⟩ := h; exact h
  case h_6 => obtain ⟨g, fi, ca, rfl, h⟩ := h; exact h
  case h_7 => obtain ⟨n, rfl, h⟩ := h; exact h
  case h_8 => obtain ⟨n, rfl, h⟩ := h; exact h
  case h_9 => obtain ⟨v0, v1, rfl, h⟩ := h; exact h
  case h_10 => obtain ⟨v0, v1, v2, rfl, h⟩ := h; exact h
  case h_11 => obtain ⟨v0, v1, v2, v3, rfl, h⟩ := h; exact h
  case h_12 => exact h

def isAggD : TypeDesc → Bool
  | .struct _ | .array _ _ => true
  | _ => false
theorem run_isAgg {t : Nat} {d : TypeDesc} (h : P.underlying t = some d) (w : World) :
    (isAgg t).run P w = .ok (isAggD d) w := by
  simp only [isAgg, Sem.run_bind, run_under h, Result.andThen_ok]
  cases d <;> rfl

/-- A kind of one cell. -/
def TK.one : TK → Bool
  | .agg _ _ _ | .arr _ _ _ _ | .tup _ => false
  | _ => true
theorem one_of_oneOk {t : Nat} (h : oneOk P t = true) (w : World) : (isAgg t).run P w = .ok false w ∧ ∃ z, pinfo P t = some (z, 1) := by
  unfold oneOk at h
  split at h
  · cases h
  · cases h
  · rename_i d z h1 h2 hd hz
    refine ⟨?_, z, hz⟩
    rw [run_isAgg hd w]
    cases d <;> first | rfl | exact (h1 _ rfl).elim | exact (h2 _ _ rfl).elim
  · cases h
theorem one_spec {t : Nat} {tk : TK} (h : TSpec P t tk) (h1 : tk.one = true) (w : World) : (isAgg t).run P w = .ok false w ∧ ∃ z, pinfo P t = some (z, 1) := by
  cases tk <;> simp only [TSpec, TK.one, Bool.false_eq_true] at h h1
  case int => exact ⟨run_isAgg h.1 w, _, h.2⟩
  case bool => exact ⟨run_isAgg h.1 w, _, h.2⟩
  case str => exact ⟨run_isAgg h.1 w, _, h.2⟩
  case slice => exact ⟨run_isAgg h.1 w, _, h.2.1⟩
  case ptr => obtain ⟨⟨e, he⟩, h2⟩ := h; exact ⟨run_isAgg he w, _, h2⟩
  case fn => exact one_of_oneOk h.1 w
  case opaque1 => exact one_of_oneOk h w

theorem run_loadVar_one {t : Nat} {tk : TK} (h : TSpec P t tk) (h1 : tk.one = true) {w : World} {a : Addr} {v : Value} (hc : w.cell? a = some v) : (loadVar t a).run P w = .ok v w := by
  simp only [loadVar, Sem.run_bind, (one_spec h h1 w).1, Result.andThen_ok]
  simp [hc]
theorem run_loadVar_agg {t : Nat} {d : TypeDesc} {z : Option Value} {sz : Nat} (hd : P.underlying t = some d) (hs : pinfo P t = some (z, sz)) (ha : isAggD d = true)
    {w : World} {a : Addr} {cs : Array Value} (hsz : cs.size = sz) (hc : CellsAt w a cs) : (loadVar t a).run P w = .ok (.agg cs) w := by
  simp only [loadVar, Sem.run_bind, run_isAgg hd w, Result.andThen_ok, ha, if_true, run_sizeOf' hs w]
  have := run_loadCells_list (P := P) w a cs.toList (fun j v hj => hc j v (by simpa using hj))
  simp only [Array.length_toList, hsz] at this
  simp [this]
theorem run_storeVar_one {t : Nat} {tk : TK} (h : TSpec P t tk) (h1 : tk.one = true) {w : World} {a : Addr} {u v : Value} (hc : w.cell? a = some u) (hf : w.frozen? a = false) (hv : v.cells = #[v]) (hv2 : ∀ vs, v ≠ .tuple vs) (hv3 : ∀ vs, v ≠ .agg vs) :
    (storeVar t a v).run P w = .ok () (w.setCell a v) := by
  obtain ⟨_, z, hz⟩ := one_spec h h1 w
  simp only [storeVar, hv, Sem.run_bind, run_sizeOf' hz w, Result.andThen_ok]
  have hst : (storeCells a [v]).run P w = .ok () (w.setCell a v) := by
    simp only [storeCells, Sem.run_bind]
    have ha : a.add 0 = a := rfl
    rw [ha]
    have : (store a v).run P w = .ok () (w.setCell a v) := by
      unfold store
      cases v with
      | agg vs => exact absurd rfl (hv3 vs)
      | tuple vs => exact absurd rfl (hv2 vs)
      | _ => simp only [Sem.run, hc, hf, Bool.false_eq_true, if_false]
    rw [this]
    rfl
  simp [hst]
theorem run_storeVar_agg {t : Nat} {z : Option Value} {sz : Nat} (hs : pinfo P t = some (z, sz)) {w w' : World} {a : Addr} {cs : Array Value} (hsz : cs.size = sz) (h : (storeCells a cs.toList).run P w = .ok () w') :
    (storeVar t a (.agg cs)).run P w = .ok () w' := by
  simp only [storeVar, Value.cells, Sem.run_bind, run_sizeOf' hs w, Result.andThen_ok, hsz, ne_eq, not_true_eq_false, if_false]
  simp [h]

theorem Upon.value {k : Value → World → Prop} {kp : List PanicEntry → World → Prop} {ρ : Env} {o : Oper} {w w' : World} {v : Value}
    (h : (execOp ρ.ev o).run P w = .ok (.value v) w') (hk : k v w') : Upon P k kp ((execOp ρ.ev o).run P w) := by rw [h]; exact hk
theorem Upon.skip {k : Value → World → Prop} {kp : List PanicEntry → World → Prop} {ρ : Env} {o : Oper} {w w' : World}
    (h : (execOp ρ.ev o).run P w = .ok .skip w') (hk : k undef w') : Upon P k kp ((execOp ρ.ev o).run P w) := by rw [h]; exact hk
/-- The shape of most operations. -/
theorem Upon.of {k : Value → World → Prop} {kp : List PanicEntry → World → Prop} {ρ : Env} {o : Oper} {w w' : World} {s : Sem Value} {v : Value}
    (he : execOp ρ.ev o = (do pure (.value (← s)))) (h : s.run P w = .ok v w') (hk : k v w') : Upon P k kp ((execOp ρ.ev o).run P w) := by
  refine Upon.value (w' := w') (v := v) ?_ hk
  rw [he]
  simp [h]
theorem Upon.ofU {k : Value → World → Prop} {kp : List PanicEntry → World → Prop} {ρ : Env} {o : Oper} {w w' : World} {s : Sem Unit}
    (he : execOp ρ.ev o = (do s; pure .skip)) (h : s.run P w = .ok () w') (hk : k undef w') : Upon P k kp ((execOp ρ.ev o).run P w) := by
  refine Upon.skip (w' := w') ?_ hk
  rw [he]
  simp [h]

theorem sliceP_spec {n c : Nat} {low high : Option Value} {k : Nat → Nat → Prop} (h : sliceP n c low high k) (w : World) (isS : Bool) :
    ∃ l hh, (Instr.sliceBounds isS n c low high none).run P w = .ok (l, hh, c) w ∧ k l hh := by
  unfold sliceP at h
  split at h
  · exact ⟨0, n, by simp [Instr.sliceBounds], h⟩
  · rename_i q hi
    obtain ⟨h0, h1, hk⟩ := h
    exact ⟨0, hi.toNat, by simp [Instr.sliceBounds, Instr.sliceBound, asIntOf, h0, h1], hk⟩
  · rename_i q lo
    obtain ⟨h0, h1, hk⟩ := h
    exact ⟨lo.toNat, n, by simp [Instr.sliceBounds, Instr.sliceBound, asIntOf, h0, h1], hk⟩
  · rename_i q lo q' hi
    obtain ⟨h0, h1, h2, h3, hk⟩ := h
    refine ⟨lo.toNat, hi.toNat, ?_, hk⟩
    have h4 : lo ≤ ((hi.toNat : Nat) : Int) := by omega
    simp only [Instr.sliceBounds, Instr.sliceBound, asIntOf, Sem.run_bind, Sem.run_pure, Result.andThen_ok, h0, h1, h2, h3, h4, and_self, if_true]
  · exact h.elim
end
end Go.GX
