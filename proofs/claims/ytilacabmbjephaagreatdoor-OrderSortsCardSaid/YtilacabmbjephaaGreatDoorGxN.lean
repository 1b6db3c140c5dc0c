/- Using contracts; the integers' small laws; rows of the call's own that grow. -/
import Derived.Test.YtilacabmbjephaaGreatDoorGxL
import Derived.IntWalk
namespace Go.GX
set_option linter.unusedVariables false

/-! ## Contracts -/
/-- The call returns, keeps what was there, and Q holds of what it returns. -/
def Fin (w : World) (Q : Value → World → Prop) : Ending → World → Prop := Ret (fun v w' => Ext No w w' ∧ Q v w') (fun _ _ => False)
theorem Fin.ret {w w' : World} {Q : Value → World → Prop} {v : Value} (hE : Ext No w w') (hQ : Q v w') : Fin w Q (.returned v) w' := ⟨hE, hQ⟩
theorem Fin.use {P : Program} {f : Nat} {args : Array Value} {w : World} {Q : Value → World → Prop} (h : Calls P f args w (Fin w Q)) {k : Value → World → Prop} {kp : List PanicEntry → World → Prop}
    (hk : ∀ v w', Ext No w w' → Q v w' → k v w') : Calls P f args w (Ret k kp) := h.mono fun e w' hR => by
  cases e with
  | returned v => exact hk v w' hR.1 hR.2
  | panicked ch => exact False.elim hR
  | outgrown => exact False.elim hR
theorem use {P : Program} {f : Nat} {args : Array Value} {w : World} {Q : Value → World → Prop} (h : Calls P f args w (Ret Q (fun _ _ => False))) {k : Value → World → Prop} {kp : List PanicEntry → World → Prop}
    (hk : ∀ v w', Q v w' → k v w') : Calls P f args w (Ret k kp) := h.mono fun e w' hR => by
  cases e with
  | returned v => exact hk v w' hR
  | panicked ch => exact False.elim hR
  | outgrown => exact False.elim hR

/-! ## Integers -/
theorem wrap_id {n : Int} (h : intOk n) : IntKind.i64.wrap n = n := by
  exact IntWalk.i64_in _ h
theorem intOk_lt {n : Int} (h0 : -9223372036854775808 ≤ n) (h1 : n ≤ 9223372036854775807) : intOk n := ⟨h0, h1⟩
theorem maxLen_eq : maxLen = 9223372036854775807 := rfl
theorem wrap_nat (i : Nat) (h : i < maxLen) : IntKind.i64.wrap ((i : Int) + 1) = ((i + 1 : Nat) : Int) := by
  rw [maxLen_eq] at h
  rw [wrap_id ⟨by omega, by omega⟩]
  rfl

/-! ## A load out of a slice -/
section
variable {X : Nat → Prop} {w : World} {A : Option Addr} {n c : Nat}
theorem SlR.int {ds : List Int} (h : SlR intK X w A n c ds) (i : Nat) (hi : i < n) : ∃ a, A = some a ∧ w.cell? (a.add (i * 1)) = some (.int .i64 (ds.getD i 0)) ∧ intOk (ds.getD i 0) := by
  obtain ⟨a, cs, hA, ⟨rfl, hok⟩, hc⟩ := h.get i hi
  have hl : i < ds.length := by rw [h.len]; exact hi
  refine ⟨a, hA, ?_, ?_⟩
  · have := hc 0 _ rfl
    rw [add_zero] at this
    refine Eq.trans this ?_
    simp [hl]
  · simpa [hl] using hok
theorem SlR.str {ds : List ByteArray} (h : SlR strK X w A n c ds) (i : Nat) (hi : i < n) : ∃ a, A = some a ∧ w.cell? (a.add (i * 1)) = some (.string (ds.getD i ByteArray.empty)) ∧ (ds.getD i ByteArray.empty).size ≤ maxLen := by
  obtain ⟨a, cs, hA, ⟨rfl, hok⟩, hc⟩ := h.get i hi
  have hl : i < ds.length := by rw [h.len]; exact hi
  refine ⟨a, hA, ?_, ?_⟩
  · have := hc 0 _ rfl
    rw [add_zero] at this
    refine Eq.trans this ?_
    simp [hl]
  · simpa [hl] using hok
theorem SlR.slice {α : Type} {E : Kd α} {ds : List (List α)} (h : SlR (sliceK E) X w A n c ds) (i : Nat) (hi : i < n) :
    ∃ a A' n' c', A = some a ∧ w.cell? (a.add (i * 1)) = some (.slice A' n' c') ∧ SlR E X w A' n' c' (ds.getD i []) := by
  obtain ⟨a, cs, hA, ⟨A', n', c', rfl, hs⟩, hc⟩ := h.get i hi
  have hl : i < ds.length := by rw [h.len]; exact hi
  refine ⟨a, A', n', c', hA, ?_, ?_⟩
  · have := hc 0 _ rfl
    rwa [add_zero] at this
  · simpa [hl] using hs
end
end Go.GX
