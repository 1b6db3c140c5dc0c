/- Contracts: the deferred closure of reading a whole tree. -/
import Derived.Test.YtilacabmbjephaaGreatDoorCR
import Derived.Defers
import Derived.Recover
import Derived.Tactics
import Derived.Tactics2
namespace Go.Proofs.YtilacabmbjephaaGreatDoor
open Go Go.GX
set_option linter.unusedVariables false

theorem catch_idle (p q : Addr) (w : World) :
    CallsD Tryz.prog 72 #[.pointer (some p), .pointer (some q)] .returning w fun e u' w' => e = .returned (.tuple #[]) ∧ u' = .returning ∧ w' = w := by
  have hneq : ∀ w : World, (binOp BinOp.neq 20 .nilIface .nilIface).run Tryz.prog w = .ok (.bool false) w := fun _ => by kernel_rfl
  refine callsD_of_wpS Tryz.func72 rfl fun c₀ cs hu => ?_
  apply wpS_seq
  apply wpS_region
  simp [wpOpsS, go_sem, recoverD, hu, Tryz.ntmps72, Exit.thenS]
  apply wpS_seq
  apply wpS_region
  simp [wpOpsS, go_sem, Exit.thenS, hneq]
  refine wpS_cond (t := false) (by simp [Act.eval, Array.replicate]) ?_
  simp only [Bool.false_eq_true, if_false]
  refine wpS_of_wp (wp_skip ?_)
  cases c₀
  simp_all [bodyPostS, results, Tryz.results72]

theorem catch_panicking (g h : Nat) (c0 c1 c2 c3 d0 d1 : Value) (nd er : Int) (w : World)
    (g0 : w.cell? ⟨g, 0, none⟩ = some c0) (g1 : w.cell? ⟨g, 1, none⟩ = some c1) (g2 : w.cell? ⟨g, 2, none⟩ = some c2) (g3 : w.cell? ⟨g, 3, none⟩ = some c3)
    (h0 : w.cell? ⟨h, 0, none⟩ = some d0) (h1 : w.cell? ⟨h, 1, none⟩ = some d1) (gf : ∀ j, w.frozen? ⟨g, j, none⟩ = false) (hf : ∀ j, w.frozen? ⟨h, j, none⟩ = false) (hne : g ≠ h) :
    CallsD Tryz.prog 72 #[.pointer (some ⟨g, 0, none⟩), .pointer (some ⟨h, 0, none⟩)] (.panicking [{ v := .iface 76 (.agg #[.int .i64 nd, .int .i64 er]), recovered := false }]) w fun e u' w' =>
      e = .returned (.tuple #[]) ∧ u' = .panicking [{ v := .iface 76 (.agg #[.int .i64 nd, .int .i64 er]), recovered := true }] ∧
      w' = (((((w.setCell ⟨g, 0, none⟩ (.int .i64 0)).setCell ⟨g, 1, none⟩ (.int .i64 0)).setCell ⟨g, 2, none⟩ (.string ⟨#[]⟩)).setCell ⟨g, 3, none⟩ (.slice none 0 0)).setCell ⟨h, 0, none⟩ (.int .i64 nd)).setCell ⟨h, 1, none⟩ (.int .i64 er) := by
  have hneq : ∀ (v : Value) (w : World), (binOp BinOp.neq 20 (.iface 76 v) .nilIface).run Tryz.prog w = .ok (.bool true) w := fun _ _ => by kernel_rfl
  have hb : ∀ w : World, (Instr.build 45 #[]).run Tryz.prog w = .ok (.agg #[.int .i64 0, .int .i64 0, .string ⟨#[]⟩, .slice none 0 0]) w := fun _ => by kernel_rfl
  have hta : ∀ w : World, (Instr.typeAssert (.iface 76 (.agg #[.int .i64 nd, .int .i64 er])) 20 76 false).run Tryz.prog w = .ok (.agg #[.int .i64 nd, .int .i64 er]) w := fun _ => by kernel_rfl
  refine callsD_of_wpS Tryz.func72 rfl fun c₀ cs hu => ?_
  apply wpS_seq
  apply wpS_region
  simp [wpOpsS, go_sem, recoverD, hu, Tryz.ntmps72, Exit.thenS]
  apply wpS_seq
  apply wpS_region
  simp [wpOpsS, go_sem, Exit.thenS, hneq]
  refine wpS_cond (t := true) (by simp [Act.eval, Array.replicate]) ?_
  simp only [if_true]
  apply wpS_seq
  apply wpS_region
  simp [wpOpsS, go_sem, Exit.thenS, hb, g0, g1, g2, g3, gf, World.cell?_setCell_other]
  apply wpS_region
  have e1 : ∀ (o : Nat) (j : Nat), (⟨g, o, none⟩ : Addr) ≠ ⟨h, j, none⟩ := fun o j e => hne (by cases e; rfl)
  simp [wpOpsS, go_sem, Exit.thenS, hta, h0, h1, hf, e1, World.cell?_setCell_other, hne, bodyPostS, results, Tryz.results72]
end Go.Proofs.YtilacabmbjephaaGreatDoor
