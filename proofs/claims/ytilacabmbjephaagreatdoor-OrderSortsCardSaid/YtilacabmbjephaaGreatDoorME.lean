/- Mirrors of Go functions and their links to the evaluator; printed by wip/mir.py. -/
import Derived.Test.YtilacabmbjephaaGreatDoorGxT
namespace Go.Proofs.YtilacabmbjephaaGreatDoor
open Go Go.GX
set_option linter.unusedVariables false
set_option maxRecDepth 100000

/-! ### 18 refuter/refuterlaw21.lives -/
def m18_A : Nat → List (Nat × TK) × List Nat
  | _ => ([], [])
def m18_K1 (R : Ending → World → Prop) (x37A : Option Addr) (x37n : Nat) (x37c : Nat) (x38A : Option Addr) (x38n : Nat) (x38c : Nat) (x39A : Option Addr) (x39n : Nat) (x39c : Nat) (x40A : Option Addr) (x40n : Nat) (x40c : Nat) (x41 : Bool) (w : World) : Prop :=
    if (x41) = true then
    (R (.returned (.bool (false) : Value)) w)
    else
    (Sized 1 [.int .i64 (1), .int .i64 (4)] ∧
    Sized 1 [.int .i64 (2), .int .i64 (4), .int .i64 (0)] ∧
    Sized 1 [.slice (some (⟨w.heap.size, 0, none⟩)) (2) (2), .slice (some (⟨(World.alloc w (.cells (flat [.int .i64 (1), .int .i64 (4)]) 3)).heap.size, 0, none⟩)) (3) (3)] ∧
    Calls Tryz.prog 15 #[.slice (x37A) (x37n) (x37c), .slice (some (⟨(World.alloc (World.alloc w (.cells (flat [.int .i64 (1), .int .i64 (4)]) 3)) (.cells (flat [.int .i64 (2), .int .i64 (4), .int .i64 (0)]) 3)).heap.size, 0, none⟩)) (2) (2)] (World.alloc (World.alloc (World.alloc w (.cells (flat [.int .i64 (1), .int .i64 (4)]) 3)) (.cells (flat [.int .i64 (2), .int .i64 (4), .int .i64 (0)]) 3)) (.cells (flat [.slice (some (⟨w.heap.size, 0, none⟩)) (2) (2), .slice (some (⟨(World.alloc w (.cells (flat [.int .i64 (1), .int .i64 (4)]) 3)).heap.size, 0, none⟩)) (3) (3)]) 22)) (Ret (fun r42 wv43 =>
    ∃ x44, r42 = .bool x44 ∧ if (x44) = true then
    (Sized 1 [.int .i64 (0)] ∧
    Sized 1 [.int .i64 (1), .int .i64 (4)] ∧
    Sized 1 [.int .i64 (2), .int .i64 (0), .int .i64 (4)] ∧
    Sized 1 [.int .i64 (2), .int .i64 (2), .int .i64 (4)] ∧
    Sized 1 [.int .i64 (2), .int .i64 (3), .int .i64 (4)] ∧
    Sized 1 [.int .i64 (2), .int .i64 (4), .int .i64 (0)] ∧
    Sized 1 [.int .i64 (2), .int .i64 (4), .int .i64 (2)] ∧
    Sized 1 [.int .i64 (2), .int .i64 (4), .int .i64 (3)] ∧
    Sized 1 [.slice (some (⟨wv43.heap.size, 0, none⟩)) (1) (1), .slice (some (⟨(World.alloc wv43 (.cells (flat [.int .i64 (0)]) 3)).heap.size, 0, none⟩)) (2) (2), .slice (some (⟨(World.alloc (World.alloc wv43 (.cells (flat [.int .i64 (0)]) 3)) (.cells (flat [.int .i64 (1), .int .i64 (4)]) 3)).heap.size, 0, none⟩)) (3) (3), .slice (some (⟨(World.alloc (World.alloc (World.alloc wv43 (.cells (flat [.int .i64 (0)]) 3)) (.cells (flat [.int .i64 (1), .int .i64 (4)]) 3)) (.cells (flat [.int .i64 (2), .int .i64 (0), .int .i64 (4)]) 3)).heap.size, 0, none⟩)) (3) (3), .slice (some (⟨(World.alloc (World.alloc (World.alloc (World.alloc wv43 (.cells (flat [.int .i64 (0)]) 3)) (.cells (flat [.int .i64 (1), .int .i64 (4)]) 3)) (.cells (flat [.int .i64 (2), .int .i64 (0), .int .i64 (4)]) 3)) (.cells (flat [.int .i64 (2), .int .i64 (2), .int .i64 (4)]) 3)).heap.size, 0, none⟩)) (3) (3), .slice (some (⟨(World.alloc (World.alloc (World.alloc (World.alloc (World.alloc wv43 (.cells (flat [.int .i64 (0)]) 3)) (.cells (flat [.int .i64 (1), .int .i64 (4)]) 3)) (.cells (flat [.int .i64 (2), .int .i64 (0), .int .i64 (4)]) 3)) (.cells (flat [.int .i64 (2), .int .i64 (2), .int .i64 (4)]) 3)) (.cells (flat [.int .i64 (2), .int .i64 (3), .int .i64 (4)]) 3)).heap.size, 0, none⟩)) (3) (3), .slice (some (⟨(World.alloc (World.alloc (World.alloc (World.alloc (World.alloc (World.alloc wv43 (.cells (flat [.int .i64 (0)]) 3)) (.cells (flat [.int .i64 (1), .int .i64 (4)]) 3)) (.cells (flat [.int .i64 (2), .int .i64 (0), .int .i64 (4)]) 3)) (.cells (flat [.int .i64 (2), .int .i64 (2), .int .i64 (4)]) 3)) (.cells (flat [.int .i64 (2), .int .i64 (3), .int .i64 (4)]) 3)) (.cells (flat [.int .i64 (2), .int .i64 (4), .int .i64 (0)]) 3)).heap.size, 0, none⟩)) (3) (3), .slice (some (⟨(World.alloc (World.alloc (World.alloc (World.alloc (World.alloc (World.alloc (World.alloc wv43 (.cells (flat [.int .i64 (0)]) 3)) (.cells (flat [.int .i64 (1), .int .i64 (4)]) 3)) (.cells (flat [.int .i64 (2), .int .i64 (0), .int .i64 (4)]) 3)) (.cells (flat [.int .i64 (2), .int .i64 (2), .int .i64 (4)]) 3)) (.cells (flat [.int .i64 (2), .int .i64 (3), .int .i64 (4)]) 3)) (.cells (flat [.int .i64 (2), .int .i64 (4), .int .i64 (0)]) 3)) (.cells (flat [.int .i64 (2), .int .i64 (4), .int .i64 (2)]) 3)).heap.size, 0, none⟩)) (3) (3)] ∧
    Calls Tryz.prog 15 #[.slice (x38A) (x38n) (x38c), .slice (some (⟨(World.alloc (World.alloc (World.alloc (World.alloc (World.alloc (World.alloc (World.alloc (World.alloc wv43 (.cells (flat [.int .i64 (0)]) 3)) (.cells (flat [.int .i64 (1), .int .i64 (4)]) 3)) (.cells (flat [.int .i64 (2), .int .i64 (0), .int .i64 (4)]) 3)) (.cells (flat [.int .i64 (2), .int .i64 (2), .int .i64 (4)]) 3)) (.cells (flat [.int .i64 (2), .int .i64 (3), .int .i64 (4)]) 3)) (.cells (flat [.int .i64 (2), .int .i64 (4), .int .i64 (0)]) 3)) (.cells (flat [.int .i64 (2), .int .i64 (4), .int .i64 (2)]) 3)) (.cells (flat [.int .i64 (2), .int .i64 (4), .int .i64 (3)]) 3)).heap.size, 0, none⟩)) (8) (8)] (World.alloc (World.alloc (World.alloc (World.alloc (World.alloc (World.alloc (World.alloc (World.alloc (World.alloc wv43 (.cells (flat [.int .i64 (0)]) 3)) (.cells (flat [.int .i64 (1), .int .i64 (4)]) 3)) (.cells (flat [.int .i64 (2), .int .i64 (0), .int .i64 (4)]) 3)) (.cells (flat [.int .i64 (2), .int .i64 (2), .int .i64 (4)]) 3)) (.cells (flat [.int .i64 (2), .int .i64 (3), .int .i64 (4)]) 3)) (.cells (flat [.int .i64 (2), .int .i64 (4), .int .i64 (0)]) 3)) (.cells (flat [.int .i64 (2), .int .i64 (4), .int .i64 (2)]) 3)) (.cells (flat [.int .i64 (2), .int .i64 (4), .int .i64 (3)]) 3)) (.cells (flat [.slice (some (⟨wv43.heap.size, 0, none⟩)) (1) (1), .slice (some (⟨(World.alloc wv43 (.cells (flat [.int .i64 (0)]) 3)).heap.size, 0, none⟩)) (2) (2), .slice (some (⟨(World.alloc (World.alloc wv43 (.cells (flat [.int .i64 (0)]) 3)) (.cells (flat [.int .i64 (1), .int .i64 (4)]) 3)).heap.size, 0, none⟩)) (3) (3), .slice (some (⟨(World.alloc (World.alloc (World.alloc wv43 (.cells (flat [.int .i64 (0)]) 3)) (.cells (flat [.int .i64 (1), .int .i64 (4)]) 3)) (.cells (flat [.int .i64 (2), .int .i64 (0), .int .i64 (4)]) 3)).heap.size, 0, none⟩)) (3) (3), .slice (some (⟨(World.alloc (World.alloc (World.alloc (World.alloc wv43 (.cells (flat [.int .i64 (0)]) 3)) (.cells (flat [.int .i64 (1), .int .i64 (4)]) 3)) (.cells (flat [.int .i64 (2), .int .i64 (0), .int .i64 (4)]) 3)) (.cells (flat [.int .i64 (2), .int .i64 (2), .int .i64 (4)]) 3)).heap.size, 0, none⟩)) (3) (3), .slice (some (⟨(World.alloc (World.alloc (World.alloc (World.alloc (World.alloc wv43 (.cells (flat [.int .i64 (0)]) 3)) (.cells (flat [.int .i64 (1), .int .i64 (4)]) 3)) (.cells (flat [.int .i64 (2), .int .i64 (0), .int .i64 (4)]) 3)) (.cells (flat [.int .i64 (2), .int .i64 (2), .int .i64 (4)]) 3)) (.cells (flat [.int .i64 (2), .int .i64 (3), .int .i64 (4)]) 3)).heap.size, 0, none⟩)) (3) (3), .slice (some (⟨(World.alloc (World.alloc (World.alloc (World.alloc (World.alloc (World.alloc wv43 (.cells (flat [.int .i64 (0)]) 3)) (.cells (flat [.int .i64 (1), .int .i64 (4)]) 3)) (.cells (flat [.int .i64 (2), .int .i64 (0), .int .i64 (4)]) 3)) (.cells (flat [.int .i64 (2), .int .i64 (2), .int .i64 (4)]) 3)) (.cells (flat [.int .i64 (2), .int .i64 (3), .int .i64 (4)]) 3)) (.cells (flat [.int .i64 (2), .int .i64 (4), .int .i64 (0)]) 3)).heap.size, 0, none⟩)) (3) (3), .slice (some (⟨(World.alloc (World.alloc (World.alloc (World.alloc (World.alloc (World.alloc (World.alloc wv43 (.cells (flat [.int .i64 (0)]) 3)) (.cells (flat [.int .i64 (1), .int .i64 (4)]) 3)) (.cells (flat [.int .i64 (2), .int .i64 (0), .int .i64 (4)]) 3)) (.cells (flat [.int .i64 (2), .int .i64 (2), .int .i64 (4)]) 3)) (.cells (flat [.int .i64 (2), .int .i64 (3), .int .i64 (4)]) 3)) (.cells (flat [.int .i64 (2), .int .i64 (4), .int .i64 (0)]) 3)) (.cells (flat [.int .i64 (2), .int .i64 (4), .int .i64 (2)]) 3)).heap.size, 0, none⟩)) (3) (3)]) 22)) (Ret (fun r45 wv46 =>
    ∃ x47, r45 = .bool x47 ∧ if (x47) = true then
    (if ((((x39n : Nat) : Int) : Int) == (0)) = true then
    (Sized 1 [.int .i64 (2), .int .i64 (2), .int .i64 (4)] ∧
    Sized 1 [.int .i64 (2), .int .i64 (4), .int .i64 (2)] ∧
    Sized 1 [.slice (some (⟨wv46.heap.size, 0, none⟩)) (3) (3), .slice (some (⟨(World.alloc wv46 (.cells (flat [.int .i64 (2), .int .i64 (2), .int .i64 (4)]) 3)).heap.size, 0, none⟩)) (3) (3)] ∧
    Calls Tryz.prog 15 #[.slice (x40A) (x40n) (x40c), .slice (some (⟨(World.alloc (World.alloc wv46 (.cells (flat [.int .i64 (2), .int .i64 (2), .int .i64 (4)]) 3)) (.cells (flat [.int .i64 (2), .int .i64 (4), .int .i64 (2)]) 3)).heap.size, 0, none⟩)) (2) (2)] (World.alloc (World.alloc (World.alloc wv46 (.cells (flat [.int .i64 (2), .int .i64 (2), .int .i64 (4)]) 3)) (.cells (flat [.int .i64 (2), .int .i64 (4), .int .i64 (2)]) 3)) (.cells (flat [.slice (some (⟨wv46.heap.size, 0, none⟩)) (3) (3), .slice (some (⟨(World.alloc wv46 (.cells (flat [.int .i64 (2), .int .i64 (2), .int .i64 (4)]) 3)).heap.size, 0, none⟩)) (3) (3)]) 22)) (Ret (fun r48 wv49 =>
    ∃ x50, r48 = .bool x50 ∧ R (.returned (.bool (x50) : Value)) wv49) (fun ch w => R (.panicked ch) w)))
    else
    (R (.returned (.bool (false) : Value)) wv46))
    else
    (R (.returned (.bool (false) : Value)) wv46)) (fun ch w => R (.panicked ch) w)))
    else
    (R (.returned (.bool (false) : Value)) wv43)) (fun ch w => R (.panicked ch) w)))

def m18 (R : Ending → World → Prop) (w : World) : Prop :=
    Sized 1 [.int .i64 (2), .int .i64 (4), .int .i64 (4)] ∧
    Calls Tryz.prog 40 #[] (World.alloc w (.cells (flat [.int .i64 (2), .int .i64 (4), .int .i64 (4)]) 3)) (Ret (fun r1 wv2 =>
    ∃ x3, r1 = .agg x3 ∧ Calls Tryz.prog 39 #[.agg (x3), .slice (some (⟨w.heap.size, 0, none⟩)) (3) (3)] wv2 (Ret (fun r4 wv5 =>
    ∃ x6 x7, r4 = .tuple #[x6, x7] ∧ ∃ x8A x8n x8c, x6 = .slice x8A x8n x8c ∧ ∃ x9, x7 = .int .i64 x9 ∧ Calls Tryz.prog 40 #[] wv5 (Ret (fun r10 wv11 =>
    ∃ x12, r10 = .agg x12 ∧ Calls Tryz.prog 25 #[.agg (x12), .slice (some (⟨w.heap.size, 0, none⟩)) (3) (3)] wv11 (Ret (fun r13 wv14 =>
    ∃ x15 x16, r13 = .tuple #[x15, x16] ∧ ∃ x17A x17n x17c, x15 = .slice x17A x17n x17c ∧ ∃ x18, x16 = .int .i64 x18 ∧ Calls Tryz.prog 40 #[] wv14 (Ret (fun r19 wv20 =>
    ∃ x21, r19 = .agg x21 ∧ Calls Tryz.prog 41 #[.agg (x21), .slice (some (⟨w.heap.size, 0, none⟩)) (3) (3)] wv20 (Ret (fun r22 wv23 =>
    ∃ x24 x25, r22 = .tuple #[x24, x25] ∧ ∃ x26A x26n x26c, x24 = .slice x26A x26n x26c ∧ ∃ x27, x25 = .int .i64 x27 ∧ Calls Tryz.prog 40 #[] wv23 (Ret (fun r28 wv29 =>
    ∃ x30, r28 = .agg x30 ∧ Calls Tryz.prog 26 #[.agg (x30), .slice (some (⟨w.heap.size, 0, none⟩)) (3) (3)] wv29 (Ret (fun r31 wv32 =>
    ∃ x33 x34, r31 = .tuple #[x33, x34] ∧ ∃ x35A x35n x35c, x33 = .slice x35A x35n x35c ∧ ∃ x36, x34 = .int .i64 x36 ∧ if ((x9 : Int) != (0)) = true then
    (m18_K1 R (x8A) (x8n) (x8c) (x17A) (x17n) (x17c) (x26A) (x26n) (x26c) (x35A) (x35n) (x35c) (true) wv32)
    else
    (if ((x18 : Int) != (0)) = true then
    (m18_K1 R (x8A) (x8n) (x8c) (x17A) (x17n) (x17c) (x26A) (x26n) (x26c) (x35A) (x35n) (x35c) (true) wv32)
    else
    (if ((x27 : Int) != (0)) = true then
    (m18_K1 R (x8A) (x8n) (x8c) (x17A) (x17n) (x17c) (x26A) (x26n) (x26c) (x35A) (x35n) (x35c) (true) wv32)
    else
    (m18_K1 R (x8A) (x8n) (x8c) (x17A) (x17n) (x17c) (x26A) (x26n) (x26c) (x35A) (x35n) (x35c) ((x36 : Int) != (0)) wv32)))) (fun ch w => R (.panicked ch) w))) (fun ch w => R (.panicked ch) w))) (fun ch w => R (.panicked ch) w))) (fun ch w => R (.panicked ch) w))) (fun ch w => R (.panicked ch) w))) (fun ch w => R (.panicked ch) w))) (fun ch w => R (.panicked ch) w))) (fun ch w => R (.panicked ch) w))

theorem e18 (R : Ending → World → Prop) (w : World) : bodyP Tryz.prog T B (drawP Tryz.prog T B) m18_A Tryz.f18 [] w R = m18 R w := by kernel_rfl
theorem c18 {R : Ending → World → Prop} {w : World} (h : m18 R w) : Calls Tryz.prog 18 #[] w R :=
  calls_of_bodyP hT hB hD Tryz.func18 (Nat.le_of_ble_eq_true (by kernel_rfl)) (by kernel_rfl) ((e18 R w).symm ▸ h)

/-! ### 21 refuter/tree.Fit -/
def m21_A : Nat → List (Nat × TK) × List Nat
  | _ => ([], [])
def m21 (R : Ending → World → Prop) (t1 : Array Value) (raw2A : Option Addr) (raw2n : Nat) (raw2c : Nat) (w : World) : Prop :=
    ∃ x3 : Array Value, x3.size = 1 ∧ CellsAt (World.alloc (World.alloc w (.cells (t1) 40)) (.cells (#[.slice (raw2A) (raw2n) (raw2c)]) 22)) (⟨w.heap.size, 0, none⟩) x3 ∧
    Calls Tryz.prog 47 #[.agg (x3)] (World.alloc (World.alloc w (.cells (t1) 40)) (.cells (#[.slice (raw2A) (raw2n) (raw2c)]) 22)) (Ret (fun r4 wv5 =>
    ∃ x6, r4 = .int .i64 x6 ∧ if ((x6 : Int) != (0)) = true then
    (R (.returned (.tuple #[.slice (none) (0) (0), .int .i64 (x6)])) wv5)
    else
    (∃ v7, World.cell? wv5 ((⟨w.heap.size, 0, none⟩ : Addr).add 0) = some v7 ∧ ∃ x8A x8n x8c, v7 = .slice x8A x8n x8c ∧ if ((((x8n : Nat) : Int) : Int) == (0)) = true then
    (R (.returned (.tuple #[.slice (none) (0) (0), .int .i64 (10)])) wv5)
    else
    (∃ x9 : Array Value, x9.size = 1 ∧ CellsAt (World.alloc wv5 (.cells (#[.slice none 0 0]) 22)) (⟨w.heap.size, 0, none⟩) x9 ∧
    RunV Tryz.prog (Instr.build 70 #[(0, .agg (x9))]) (World.alloc wv5 (.cells (#[.slice none 0 0]) 22)) fun r10 wv11 =>
    ∃ x12, r10 = .agg x12 ∧ (∃ u13, World.cell? (World.alloc (World.alloc wv11 (.cells (x12) 70)) (.cells (#[.pointer none]) 66)) (⟨(World.alloc wv11 (.cells (x12) 70)).heap.size, 0, none⟩) = some u13) ∧ World.frozen? (World.alloc (World.alloc wv11 (.cells (x12) 70)) (.cells (#[.pointer none]) 66)) (⟨(World.alloc wv11 (.cells (x12) 70)).heap.size, 0, none⟩) = false ∧
    ∃ v14, World.cell? (World.setCell (World.alloc (World.alloc wv11 (.cells (x12) 70)) (.cells (#[.pointer none]) 66)) (⟨(World.alloc wv11 (.cells (x12) 70)).heap.size, 0, none⟩) (.pointer (some (⟨wv11.heap.size, 0, none⟩)))) (⟨(World.alloc wv11 (.cells (x12) 70)).heap.size, 0, none⟩) = some v14 ∧ ∃ x15, v14 = .pointer x15 ∧ ∃ a16, x15 = some a16 ∧ (∃ u17, World.cell? (World.setCell (World.alloc (World.alloc wv11 (.cells (x12) 70)) (.cells (#[.pointer none]) 66)) (⟨(World.alloc wv11 (.cells (x12) 70)).heap.size, 0, none⟩) (.pointer (some (⟨wv11.heap.size, 0, none⟩)))) ((a16 : Addr).add 1) = some u17) ∧ World.frozen? (World.setCell (World.alloc (World.alloc wv11 (.cells (x12) 70)) (.cells (#[.pointer none]) 66)) (⟨(World.alloc wv11 (.cells (x12) 70)).heap.size, 0, none⟩) (.pointer (some (⟨wv11.heap.size, 0, none⟩)))) ((a16 : Addr).add 1) = false ∧
    ∃ v18, World.cell? (World.setCell (World.setCell (World.alloc (World.alloc wv11 (.cells (x12) 70)) (.cells (#[.pointer none]) 66)) (⟨(World.alloc wv11 (.cells (x12) 70)).heap.size, 0, none⟩) (.pointer (some (⟨wv11.heap.size, 0, none⟩)))) ((a16 : Addr).add 1) (.func (.func 48) #[] #[.pointer (some (⟨(World.alloc wv11 (.cells (x12) 70)).heap.size, 0, none⟩)), .pointer (some (⟨(World.alloc w (.cells (t1) 40)).heap.size, 0, none⟩)), .pointer (some (⟨w.heap.size, 0, none⟩)), .pointer (some (⟨wv5.heap.size, 0, none⟩))])) (⟨(World.alloc wv11 (.cells (x12) 70)).heap.size, 0, none⟩) = some v18 ∧ ∃ x19, v18 = .pointer x19 ∧ Calls Tryz.prog 50 #[.pointer (x19)] (World.setCell (World.setCell (World.alloc (World.alloc wv11 (.cells (x12) 70)) (.cells (#[.pointer none]) 66)) (⟨(World.alloc wv11 (.cells (x12) 70)).heap.size, 0, none⟩) (.pointer (some (⟨wv11.heap.size, 0, none⟩)))) ((a16 : Addr).add 1) (.func (.func 48) #[] #[.pointer (some (⟨(World.alloc wv11 (.cells (x12) 70)).heap.size, 0, none⟩)), .pointer (some (⟨(World.alloc w (.cells (t1) 40)).heap.size, 0, none⟩)), .pointer (some (⟨w.heap.size, 0, none⟩)), .pointer (some (⟨wv5.heap.size, 0, none⟩))])) (Ret (fun r20 wv21 =>
    ∃ x22 x23, r20 = .tuple #[x22, x23] ∧ ∃ v24, World.cell? wv21 (⟨wv5.heap.size, 0, none⟩) = some v24 ∧ ∃ x25A x25n x25c, v24 = .slice x25A x25n x25c ∧ R (.returned (.tuple #[.slice (x25A) (x25n) (x25c), .int .i64 (0)])) wv21) (fun ch w => R (.panicked ch) w))))) (fun ch w => R (.panicked ch) w))

theorem e21 (R : Ending → World → Prop) (t1 : Array Value) (raw2A : Option Addr) (raw2n : Nat) (raw2c : Nat) (w : World) : bodyP Tryz.prog T B (drawP Tryz.prog T B) m21_A Tryz.f21 [.agg (t1), .slice (raw2A) (raw2n) (raw2c)] w R = m21 R t1 raw2A raw2n raw2c w := by kernel_rfl
theorem c21 {R : Ending → World → Prop} (t1 : Array Value) (raw2A : Option Addr) (raw2n : Nat) (raw2c : Nat) {w : World} (h : m21 R t1 raw2A raw2n raw2c w) : Calls Tryz.prog 21 #[.agg (t1), .slice (raw2A) (raw2n) (raw2c)] w R :=
  calls_of_bodyP hT hB hD Tryz.func21 (Nat.le_of_ble_eq_true (by kernel_rfl)) (by kernel_rfl) ((e21 R t1 raw2A raw2n raw2c w).symm ▸ h)

/-! ### 40 refuter/refuterlaw21.example -/
def m40_A : Nat → List (Nat × TK) × List Nat
  | _ => ([], [])
def m40 (R : Ending → World → Prop) (w : World) : Prop :=
    RunV Tryz.prog (Instr.build 74 #[(0, .int .i64 (1)), (3, .int .i64 (9))]) (World.alloc w (.cells (#[.slice none 0 0]) 40)) fun r1 wv2 =>
    ∃ x3, r1 = .agg x3 ∧ RunV Tryz.prog (Instr.build 74 #[(0, .int .i64 (3))]) wv2 fun r4 wv5 =>
    ∃ x6, r4 = .agg x6 ∧ Sized 1 [.int .i64 (0)] ∧
    RunV Tryz.prog (Instr.build 74 #[(0, .int .i64 (3)), (7, .slice (some (⟨wv5.heap.size, 0, none⟩)) (1) (1))]) (World.alloc wv5 (.cells (flat [.int .i64 (0)]) 3)) fun r7 wv8 =>
    ∃ x9, r7 = .agg x9 ∧ Sized 1 [.int .i64 (0), .int .i64 (0)] ∧
    RunV Tryz.prog (Instr.build 74 #[(0, .int .i64 (3)), (7, .slice (some (⟨wv8.heap.size, 0, none⟩)) (2) (2))]) (World.alloc wv8 (.cells (flat [.int .i64 (0), .int .i64 (0)]) 3)) fun r10 wv11 =>
    ∃ x12, r10 = .agg x12 ∧ Sized 1 [.int .i64 (0), .int .i64 (0), .int .i64 (0)] ∧
    RunV Tryz.prog (Instr.build 74 #[(0, .int .i64 (3)), (7, .slice (some (⟨wv11.heap.size, 0, none⟩)) (3) (3))]) (World.alloc wv11 (.cells (flat [.int .i64 (0), .int .i64 (0), .int .i64 (0)]) 3)) fun r13 wv14 =>
    ∃ x15, r13 = .agg x15 ∧ Sized 1 [.int .i64 (1), .int .i64 (1), .int .i64 (1), .int .i64 (1)] ∧
    Sized 1 [.int .i64 (1), .int .i64 (2), .int .i64 (3), .int .i64 (4)] ∧
    RunV Tryz.prog (Instr.build 74 #[(0, .int .i64 (2)), (4, .slice (some (⟨wv14.heap.size, 0, none⟩)) (4) (4)), (7, .slice (some (⟨(World.alloc wv14 (.cells (flat [.int .i64 (1), .int .i64 (1), .int .i64 (1), .int .i64 (1)]) 3)).heap.size, 0, none⟩)) (4) (4))]) (World.alloc (World.alloc wv14 (.cells (flat [.int .i64 (1), .int .i64 (1), .int .i64 (1), .int .i64 (1)]) 3)) (.cells (flat [.int .i64 (1), .int .i64 (2), .int .i64 (3), .int .i64 (4)]) 3)) fun r16 wv17 =>
    ∃ x18, r16 = .agg x18 ∧ Sized 12 [.agg (x3), .agg (x6), .agg (x9), .agg (x12), .agg (x15), .agg (x18)] ∧
    RunV Tryz.prog (Instr.build 40 #[(0, .slice (some (⟨wv17.heap.size, 0, none⟩)) (6) (6))]) (World.alloc wv17 (.cells (flat [.agg (x3), .agg (x6), .agg (x9), .agg (x12), .agg (x15), .agg (x18)]) 74)) fun r19 wv20 =>
    ∃ x21, r19 = .agg x21 ∧ (x21 : Array Value).size = 1 ∧ RunU Tryz.prog (storeCells (⟨w.heap.size, 0, none⟩) (x21 : Array Value).toList) wv20 fun wv22 =>
    ∃ res23 : Array Value, res23.size = 1 ∧ CellsAt wv22 (⟨w.heap.size, 0, none⟩) res23 ∧
    R (.returned (.agg (res23) : Value)) wv22

theorem e40 (R : Ending → World → Prop) (w : World) : bodyP Tryz.prog T B (drawP Tryz.prog T B) m40_A Tryz.f40 [] w R = m40 R w := by kernel_rfl
theorem c40 {R : Ending → World → Prop} {w : World} (h : m40 R w) : Calls Tryz.prog 40 #[] w R :=
  calls_of_bodyP hT hB hD Tryz.func40 (Nat.le_of_ble_eq_true (by kernel_rfl)) (by kernel_rfl) ((e40 R w).symm ▸ h)

/-! ### 48 refuter/tree.Fit$1 -/
def m48_A : Nat → List (Nat × TK) × List Nat
  | _ => ([], [])
def m48_K1 (R : Ending → World → Prop) (v32 : Addr) (c33 : Int) (w : World) : Prop :=
    ∃ v34, World.cell? w (v32) = some v34 ∧ ∃ x35A x35n x35c, v34 = .slice x35A x35n x35c ∧ Sized 1 [.int .i64 (c33)] ∧
    RunV Tryz.prog (Builtin.append_ #[22, 22] 22 #[.slice (x35A) (x35n) (x35c), .slice (some (⟨w.heap.size, 0, none⟩)) (1) (1)]) (World.alloc w (.cells (flat [.int .i64 (c33)]) 3)) fun r36 wv37 =>
    ∃ x38A x38n x38c, r36 = .slice x38A x38n x38c ∧ (∃ u39, World.cell? wv37 (v32) = some u39) ∧ World.frozen? wv37 (v32) = false ∧
    R (.returned (.int .i64 (c33) : Value)) (World.setCell wv37 (v32) (.slice (x38A) (x38n) (x38c)))

def m48 (R : Ending → World → Prop) (node1 : Int) (cap2 : Addr) (cap3 : Addr) (cap4 : Addr) (cap5 : Addr) (w : World) : Prop :=
    ∃ Sv6 : World → Prop, Sv6 (World.drew w) ∧
    ∃ v7, (∀ w', Sv6 w' → World.cell? w' (cap2) = some v7) ∧ ∃ x8, v7 = .pointer x8 ∧ ∃ a9, x8 = some a9 ∧ ∃ v10, (∀ w', Sv6 w' → World.cell? w' ((a9 : Addr).add 2) = some v10) ∧ ∃ x11, v10 = .int .i64 x11 ∧ ∃ v12, (∀ w', Sv6 w' → World.cell? w' (cap3) = some v12) ∧ ∃ x13A x13n x13c, v12 = .slice x13A x13n x13c ∧ if (decide ((x11 : Int) < (((x13n : Nat) : Int)))) = true then
    (∃ Sv14 : World → Prop, Sv14 (World.drew (World.drew w)) ∧
    ∃ v15, (∀ w', Sv14 w' → World.cell? w' (cap3) = some v15) ∧ ∃ x16A x16n x16c, v15 = .slice x16A x16n x16c ∧ ∃ v17, (∀ w', Sv14 w' → World.cell? w' (cap2) = some v17) ∧ ∃ x18, v17 = .pointer x18 ∧ ∃ a19, x18 = some a19 ∧ ∃ v20, (∀ w', Sv14 w' → World.cell? w' ((a19 : Addr).add 2) = some v20) ∧ ∃ x21, v20 = .int .i64 x21 ∧ ∃ a22, (x16A : Option Addr) = some a22 ∧ 0 ≤ (x21 : Int) ∧ (x21 : Int) < ((x16n : Nat) : Int) ∧
    ∃ v23, (∀ w', Sv14 w' → World.cell? w' (a22.add ((x21 : Int).toNat * 1)) = some v23) ∧ ∃ x24, v23 = .int .i64 x24 ∧ ∃ v25, (∀ w', Sv14 w' → World.cell? w' ((cap4 : Addr).add 0) = some v25) ∧ ∃ x26A x26n x26c, v25 = .slice x26A x26n x26c ∧ ∃ a27, (x26A : Option Addr) = some a27 ∧ 0 ≤ (node1 : Int) ∧ (node1 : Int) < ((x26n : Nat) : Int) ∧
    ∃ x28 : Array Value, x28.size = 12 ∧ (∀ w', Sv14 w' → CellsAt w' (a27.add ((node1 : Int).toNat * 12)) x28) ∧
    Calls Tryz.prog 49 #[.agg (x28)] (World.drew (World.drew w)) (Ret (fun r29 wv30 =>
    ∃ x31, r29 = .int .i64 x31 ∧ Sv14 wv30 ∧
    m48_K1 R (cap5) (if (if (IntKind.i64.wrap ((x31 : Int) - (1)) : Int) < (x24 : Int) then (IntKind.i64.wrap ((x31 : Int) - (1)) : Int) else (x24 : Int) : Int) > (0 : Int) then (if (IntKind.i64.wrap ((x31 : Int) - (1)) : Int) < (x24 : Int) then (IntKind.i64.wrap ((x31 : Int) - (1)) : Int) else (x24 : Int) : Int) else (0 : Int)) wv30) (fun ch w => R (.panicked ch) w)))
    else
    (m48_K1 R (cap5) (0) (World.drew w))

theorem e48 (R : Ending → World → Prop) (node1 : Int) (cap2 : Addr) (cap3 : Addr) (cap4 : Addr) (cap5 : Addr) (w : World) : bodyP Tryz.prog T B (drawP Tryz.prog T B) m48_A Tryz.f48 [.int .i64 (node1), .pointer (some (cap2)), .pointer (some (cap3)), .pointer (some (cap4)), .pointer (some (cap5))] w R = m48 R node1 cap2 cap3 cap4 cap5 w := by kernel_rfl
theorem c48 {R : Ending → World → Prop} (node1 : Int) (cap2 : Addr) (cap3 : Addr) (cap4 : Addr) (cap5 : Addr) {w : World} (h : m48 R node1 cap2 cap3 cap4 cap5 w) : Calls Tryz.prog 48 #[.int .i64 (node1), .pointer (some (cap2)), .pointer (some (cap3)), .pointer (some (cap4)), .pointer (some (cap5))] w R :=
  calls_of_bodyP hT hB hD Tryz.func48 (Nat.le_of_ble_eq_true (by kernel_rfl)) (by kernel_rfl) ((e48 R node1 cap2 cap3 cap4 cap5 w).symm ▸ h)

/-! ### 49 refuter/tree.options -/
def m49_A : Nat → List (Nat × TK) × List Nat
  | _ => ([], [])
def m49 (R : Ending → World → Prop) (x1 : Array Value) (w : World) : Prop :=
    ∃ v2, World.cell? (World.alloc w (.cells (x1) 74)) ((⟨w.heap.size, 0, none⟩ : Addr).add 0) = some v2 ∧ ∃ x3, v2 = .int .i64 x3 ∧ if ((x3 : Int) == (1)) = true then
    (∃ v4, World.cell? (World.alloc w (.cells (x1) 74)) ((⟨w.heap.size, 0, none⟩ : Addr).add 3) = some v4 ∧ ∃ x5, v4 = .int .i64 x5 ∧ ∃ v6, World.cell? (World.alloc w (.cells (x1) 74)) ((⟨w.heap.size, 0, none⟩ : Addr).add 2) = some v6 ∧ ∃ x7, v6 = .int .i64 x7 ∧ R (.returned (.int .i64 (IntKind.i64.wrap ((IntKind.i64.wrap ((x5 : Int) - (x7)) : Int) + (1))) : Value)) (World.alloc w (.cells (x1) 74)))
    else
    (∃ v8, World.cell? (World.alloc w (.cells (x1) 74)) ((⟨w.heap.size, 0, none⟩ : Addr).add 7) = some v8 ∧ ∃ x9A x9n x9c, v8 = .slice x9A x9n x9c ∧ R (.returned (.int .i64 (((x9n : Nat) : Int)) : Value)) (World.alloc w (.cells (x1) 74)))

theorem e49 (R : Ending → World → Prop) (x1 : Array Value) (w : World) : bodyP Tryz.prog T B (drawP Tryz.prog T B) m49_A Tryz.f49 [.agg (x1)] w R = m49 R x1 w := by kernel_rfl
theorem c49 {R : Ending → World → Prop} (x1 : Array Value) {w : World} (h : m49 R x1 w) : Calls Tryz.prog 49 #[.agg (x1)] w R :=
  calls_of_bodyP hT hB hD Tryz.func49 (Nat.le_of_ble_eq_true (by kernel_rfl)) (by kernel_rfl) ((e49 R x1 w).symm ▸ h)

/-! ### 52 refuter/tree.walk -/
def m52_A : Nat → List (Nat × TK) × List Nat
  | _ => ([], [])
def m52_K1 (R : Ending → World → Prop) (v69 : Addr) (v70 : Addr) (r71 : Addr) (v72 : Addr) (s73 : Addr) (w : World) : Prop :=
    ∃ Sv74 : World → Prop, Sv74 (World.drew w) ∧
    ∃ v75, (∀ w', Sv74 w' → World.cell? w' (r71) = some v75) ∧ ∃ x76, v75 = .pointer x76 ∧ ∃ x77 : Array Value, x77.size = 4 ∧ (∀ w', Sv74 w' → CellsAt w' (v72) x77) ∧
    ∃ x78 : Array Value, x78.size = 2 ∧ (∀ w', Sv74 w' → CellsAt w' (s73) x78) ∧
    (x77 : Array Value).size = 4 ∧ RunU Tryz.prog (storeCells (v69) (x77 : Array Value).toList) (World.drew w) fun wv79 =>
    Sv74 wv79 ∧
    (x78 : Array Value).size = 2 ∧ RunU Tryz.prog (storeCells (v70) (x78 : Array Value).toList) wv79 fun wv80 =>
    ∃ Sv81 : World → Prop, Sv81 wv80 ∧
    ∃ res82 : Array Value, res82.size = 4 ∧ CellsAt wv80 (v69) res82 ∧
    ∃ res83 : Array Value, res83.size = 2 ∧ CellsAt wv80 (v70) res83 ∧
    R (.returned (.tuple #[.pointer (x76), .agg (res82), .agg (res83)])) wv80

def m52_K2 (R : Ending → World → Prop) (v62 : Addr) (v63 : Addr) (r64 : Addr) (v65 : Addr) (s66 : Addr) (v67 : Bool) (w : World) : Prop :=
    if (v67) = true then
    ((∃ u68, World.cell? w ((s66 : Addr).add 1) = some u68) ∧ World.frozen? w ((s66 : Addr).add 1) = false ∧
    m52_K1 R (v62) (v63) (r64) (v65) (s66) (World.setCell w ((s66 : Addr).add 1) (.int .i64 (11))))
    else
    (m52_K1 R (v62) (v63) (r64) (v65) (s66) w)

def m52 (R : Ending → World → Prop) (t1 : Array Value) (path2A : Option Addr) (path2n : Nat) (path2c : Nat) (w : World) : Prop :=
    ∃ x3 : Array Value, x3.size = 1 ∧ CellsAt (World.alloc (World.alloc (World.alloc (World.alloc w (.cells (t1) 40)) (.cells (#[.slice (path2A) (path2n) (path2c)]) 22)) (.cells (#[.int .i64 0, .int .i64 0, .string ⟨#[]⟩, .slice none 0 0]) 45)) (.cells (#[.int .i64 0, .int .i64 0]) 76)) (⟨w.heap.size, 0, none⟩) x3 ∧
    Calls Tryz.prog 47 #[.agg (x3)] (World.alloc (World.alloc (World.alloc (World.alloc w (.cells (t1) 40)) (.cells (#[.slice (path2A) (path2n) (path2c)]) 22)) (.cells (#[.int .i64 0, .int .i64 0, .string ⟨#[]⟩, .slice none 0 0]) 45)) (.cells (#[.int .i64 0, .int .i64 0]) 76)) (Ret (fun r4 wv5 =>
    ∃ x6, r4 = .int .i64 x6 ∧ if ((x6 : Int) != (0)) = true then
    (RunV Tryz.prog (Instr.build 45 #[]) wv5 fun r7 wv8 =>
    ∃ x9, r7 = .agg x9 ∧ RunV Tryz.prog (Instr.build 76 #[(0, .int .i64 (-1)), (1, .int .i64 (x6))]) wv8 fun r10 wv11 =>
    ∃ x12, r10 = .agg x12 ∧ (x9 : Array Value).size = 4 ∧ RunU Tryz.prog (storeCells (⟨(World.alloc (World.alloc w (.cells (t1) 40)) (.cells (#[.slice (path2A) (path2n) (path2c)]) 22)).heap.size, 0, none⟩) (x9 : Array Value).toList) wv11 fun wv13 =>
    (x12 : Array Value).size = 2 ∧ RunU Tryz.prog (storeCells (⟨(World.alloc (World.alloc (World.alloc w (.cells (t1) 40)) (.cells (#[.slice (path2A) (path2n) (path2c)]) 22)) (.cells (#[.int .i64 0, .int .i64 0, .string ⟨#[]⟩, .slice none 0 0]) 45)).heap.size, 0, none⟩) (x12 : Array Value).toList) wv13 fun wv14 =>
    ∃ res15 : Array Value, res15.size = 4 ∧ CellsAt wv14 (⟨(World.alloc (World.alloc w (.cells (t1) 40)) (.cells (#[.slice (path2A) (path2n) (path2c)]) 22)).heap.size, 0, none⟩) res15 ∧
    ∃ res16 : Array Value, res16.size = 2 ∧ CellsAt wv14 (⟨(World.alloc (World.alloc (World.alloc w (.cells (t1) 40)) (.cells (#[.slice (path2A) (path2n) (path2c)]) 22)) (.cells (#[.int .i64 0, .int .i64 0, .string ⟨#[]⟩, .slice none 0 0]) 45)).heap.size, 0, none⟩) res16 ∧
    R (.returned (.tuple #[.pointer (none), .agg (res15), .agg (res16)])) wv14)
    else
    (∃ x17 : Array Value, x17.size = 1 ∧ CellsAt wv5 (⟨w.heap.size, 0, none⟩) x17 ∧
    RunV Tryz.prog (Instr.build 70 #[(0, .agg (x17))]) wv5 fun r18 wv19 =>
    ∃ x20, r18 = .agg x20 ∧ (∃ u21, World.cell? (World.alloc (World.alloc wv19 (.cells (x20) 70)) (.cells (#[.pointer none]) 66)) (⟨(World.alloc wv19 (.cells (x20) 70)).heap.size, 0, none⟩) = some u21) ∧ World.frozen? (World.alloc (World.alloc wv19 (.cells (x20) 70)) (.cells (#[.pointer none]) 66)) (⟨(World.alloc wv19 (.cells (x20) 70)).heap.size, 0, none⟩) = false ∧
    ∃ v22, World.cell? (World.setCell (World.alloc (World.alloc wv19 (.cells (x20) 70)) (.cells (#[.pointer none]) 66)) (⟨(World.alloc wv19 (.cells (x20) 70)).heap.size, 0, none⟩) (.pointer (some (⟨wv19.heap.size, 0, none⟩)))) (⟨(World.alloc wv19 (.cells (x20) 70)).heap.size, 0, none⟩) = some v22 ∧ ∃ x23, v22 = .pointer x23 ∧ ∃ a24, x23 = some a24 ∧ (∃ u25, World.cell? (World.setCell (World.alloc (World.alloc wv19 (.cells (x20) 70)) (.cells (#[.pointer none]) 66)) (⟨(World.alloc wv19 (.cells (x20) 70)).heap.size, 0, none⟩) (.pointer (some (⟨wv19.heap.size, 0, none⟩)))) ((a24 : Addr).add 1) = some u25) ∧ World.frozen? (World.setCell (World.alloc (World.alloc wv19 (.cells (x20) 70)) (.cells (#[.pointer none]) 66)) (⟨(World.alloc wv19 (.cells (x20) 70)).heap.size, 0, none⟩) (.pointer (some (⟨wv19.heap.size, 0, none⟩)))) ((a24 : Addr).add 1) = false ∧
    ∃ v26, World.cell? (World.setCell (World.setCell (World.alloc (World.alloc wv19 (.cells (x20) 70)) (.cells (#[.pointer none]) 66)) (⟨(World.alloc wv19 (.cells (x20) 70)).heap.size, 0, none⟩) (.pointer (some (⟨wv19.heap.size, 0, none⟩)))) ((a24 : Addr).add 1) (.func (.func 79) #[] #[.pointer (some (⟨(World.alloc wv19 (.cells (x20) 70)).heap.size, 0, none⟩)), .pointer (some (⟨(World.alloc w (.cells (t1) 40)).heap.size, 0, none⟩)), .pointer (some (⟨w.heap.size, 0, none⟩))])) ((⟨w.heap.size, 0, none⟩ : Addr).add 0) = some v26 ∧ ∃ x27A x27n x27c, v26 = .slice x27A x27n x27c ∧ if ((((x27n : Nat) : Int) : Int) == (0)) = true then
    (∃ v28, World.cell? (World.setCell (World.setCell (World.alloc (World.alloc wv19 (.cells (x20) 70)) (.cells (#[.pointer none]) 66)) (⟨(World.alloc wv19 (.cells (x20) 70)).heap.size, 0, none⟩) (.pointer (some (⟨wv19.heap.size, 0, none⟩)))) ((a24 : Addr).add 1) (.func (.func 79) #[] #[.pointer (some (⟨(World.alloc wv19 (.cells (x20) 70)).heap.size, 0, none⟩)), .pointer (some (⟨(World.alloc w (.cells (t1) 40)).heap.size, 0, none⟩)), .pointer (some (⟨w.heap.size, 0, none⟩))])) (⟨(World.alloc wv19 (.cells (x20) 70)).heap.size, 0, none⟩) = some v28 ∧ ∃ x29, v28 = .pointer x29 ∧ RunV Tryz.prog (Instr.build 45 #[]) (World.setCell (World.setCell (World.alloc (World.alloc wv19 (.cells (x20) 70)) (.cells (#[.pointer none]) 66)) (⟨(World.alloc wv19 (.cells (x20) 70)).heap.size, 0, none⟩) (.pointer (some (⟨wv19.heap.size, 0, none⟩)))) ((a24 : Addr).add 1) (.func (.func 79) #[] #[.pointer (some (⟨(World.alloc wv19 (.cells (x20) 70)).heap.size, 0, none⟩)), .pointer (some (⟨(World.alloc w (.cells (t1) 40)).heap.size, 0, none⟩)), .pointer (some (⟨w.heap.size, 0, none⟩))])) fun r30 wv31 =>
    ∃ x32, r30 = .agg x32 ∧ RunV Tryz.prog (Instr.build 76 #[(0, .int .i64 (-1)), (1, .int .i64 (11))]) wv31 fun r33 wv34 =>
    ∃ x35, r33 = .agg x35 ∧ (x32 : Array Value).size = 4 ∧ RunU Tryz.prog (storeCells (⟨(World.alloc (World.alloc w (.cells (t1) 40)) (.cells (#[.slice (path2A) (path2n) (path2c)]) 22)).heap.size, 0, none⟩) (x32 : Array Value).toList) wv34 fun wv36 =>
    (x35 : Array Value).size = 2 ∧ RunU Tryz.prog (storeCells (⟨(World.alloc (World.alloc (World.alloc w (.cells (t1) 40)) (.cells (#[.slice (path2A) (path2n) (path2c)]) 22)) (.cells (#[.int .i64 0, .int .i64 0, .string ⟨#[]⟩, .slice none 0 0]) 45)).heap.size, 0, none⟩) (x35 : Array Value).toList) wv36 fun wv37 =>
    ∃ res38 : Array Value, res38.size = 4 ∧ CellsAt wv37 (⟨(World.alloc (World.alloc w (.cells (t1) 40)) (.cells (#[.slice (path2A) (path2n) (path2c)]) 22)).heap.size, 0, none⟩) res38 ∧
    ∃ res39 : Array Value, res39.size = 2 ∧ CellsAt wv37 (⟨(World.alloc (World.alloc (World.alloc w (.cells (t1) 40)) (.cells (#[.slice (path2A) (path2n) (path2c)]) 22)) (.cells (#[.int .i64 0, .int .i64 0, .string ⟨#[]⟩, .slice none 0 0]) 45)).heap.size, 0, none⟩) res39 ∧
    R (.returned (.tuple #[.pointer (x29), .agg (res38), .agg (res39)])) wv37)
    else
    (∃ v40, World.cell? (World.setCell (World.setCell (World.alloc (World.alloc wv19 (.cells (x20) 70)) (.cells (#[.pointer none]) 66)) (⟨(World.alloc wv19 (.cells (x20) 70)).heap.size, 0, none⟩) (.pointer (some (⟨wv19.heap.size, 0, none⟩)))) ((a24 : Addr).add 1) (.func (.func 79) #[] #[.pointer (some (⟨(World.alloc wv19 (.cells (x20) 70)).heap.size, 0, none⟩)), .pointer (some (⟨(World.alloc w (.cells (t1) 40)).heap.size, 0, none⟩)), .pointer (some (⟨w.heap.size, 0, none⟩))])) (⟨(World.alloc wv19 (.cells (x20) 70)).heap.size, 0, none⟩) = some v40 ∧ ∃ x41, v40 = .pointer x41 ∧ Calls Tryz.prog 50 #[.pointer (x41)] (World.setCell (World.setCell (World.alloc (World.alloc wv19 (.cells (x20) 70)) (.cells (#[.pointer none]) 66)) (⟨(World.alloc wv19 (.cells (x20) 70)).heap.size, 0, none⟩) (.pointer (some (⟨wv19.heap.size, 0, none⟩)))) ((a24 : Addr).add 1) (.func (.func 79) #[] #[.pointer (some (⟨(World.alloc wv19 (.cells (x20) 70)).heap.size, 0, none⟩)), .pointer (some (⟨(World.alloc w (.cells (t1) 40)).heap.size, 0, none⟩)), .pointer (some (⟨w.heap.size, 0, none⟩))])) (Ret (fun r42 wv43 =>
    ∃ x44 x45, r42 = .tuple #[x44, x45] ∧ ∃ x46, x44 = .agg x46 ∧ ∃ x47, x45 = .agg x47 ∧ (x46 : Array Value).size = 4 ∧ RunU Tryz.prog (storeCells (⟨wv43.heap.size, 0, none⟩) (x46 : Array Value).toList) (World.alloc (World.alloc wv43 (.cells (#[.int .i64 0, .int .i64 0, .string ⟨#[]⟩, .slice none 0 0]) 45)) (.cells (#[.int .i64 0, .int .i64 0]) 76)) fun wv48 =>
    (x47 : Array Value).size = 2 ∧ RunU Tryz.prog (storeCells (⟨(World.alloc wv43 (.cells (#[.int .i64 0, .int .i64 0, .string ⟨#[]⟩, .slice none 0 0]) 45)).heap.size, 0, none⟩) (x47 : Array Value).toList) wv48 fun wv49 =>
    ∃ Sv50 : World → Prop, Sv50 (World.drew wv49) ∧
    ∃ v51, (∀ w', Sv50 w' → World.cell? w' ((⟨(World.alloc wv43 (.cells (#[.int .i64 0, .int .i64 0, .string ⟨#[]⟩, .slice none 0 0]) 45)).heap.size, 0, none⟩ : Addr).add 1) = some v51) ∧ ∃ x52, v51 = .int .i64 x52 ∧ if ((x52 : Int) == (0)) = true then
    (∃ v53, (∀ w', Sv50 w' → World.cell? w' ((⟨(World.alloc wv43 (.cells (#[.int .i64 0, .int .i64 0, .string ⟨#[]⟩, .slice none 0 0]) 45)).heap.size, 0, none⟩ : Addr).add 0) = some v53) ∧ ∃ x54, v53 = .int .i64 x54 ∧ if (decide ((x54 : Int) < (0))) = true then
    (∃ v55, (∀ w', Sv50 w' → World.cell? w' (⟨(World.alloc wv19 (.cells (x20) 70)).heap.size, 0, none⟩) = some v55) ∧ ∃ x56, v55 = .pointer x56 ∧ ∃ a57, x56 = some a57 ∧ ∃ v58, (∀ w', Sv50 w' → World.cell? w' ((a57 : Addr).add 2) = some v58) ∧ ∃ x59, v58 = .int .i64 x59 ∧ ∃ v60, (∀ w', Sv50 w' → World.cell? w' (⟨(World.alloc w (.cells (t1) 40)).heap.size, 0, none⟩) = some v60) ∧ ∃ x61A x61n x61c, v60 = .slice x61A x61n x61c ∧ m52_K2 R (⟨(World.alloc (World.alloc w (.cells (t1) 40)) (.cells (#[.slice (path2A) (path2n) (path2c)]) 22)).heap.size, 0, none⟩) (⟨(World.alloc (World.alloc (World.alloc w (.cells (t1) 40)) (.cells (#[.slice (path2A) (path2n) (path2c)]) 22)) (.cells (#[.int .i64 0, .int .i64 0, .string ⟨#[]⟩, .slice none 0 0]) 45)).heap.size, 0, none⟩) (⟨(World.alloc wv19 (.cells (x20) 70)).heap.size, 0, none⟩) (⟨wv43.heap.size, 0, none⟩) (⟨(World.alloc wv43 (.cells (#[.int .i64 0, .int .i64 0, .string ⟨#[]⟩, .slice none 0 0]) 45)).heap.size, 0, none⟩) (decide ((x59 : Int) < (((x61n : Nat) : Int)))) (World.drew wv49))
    else
    (m52_K2 R (⟨(World.alloc (World.alloc w (.cells (t1) 40)) (.cells (#[.slice (path2A) (path2n) (path2c)]) 22)).heap.size, 0, none⟩) (⟨(World.alloc (World.alloc (World.alloc w (.cells (t1) 40)) (.cells (#[.slice (path2A) (path2n) (path2c)]) 22)) (.cells (#[.int .i64 0, .int .i64 0, .string ⟨#[]⟩, .slice none 0 0]) 45)).heap.size, 0, none⟩) (⟨(World.alloc wv19 (.cells (x20) 70)).heap.size, 0, none⟩) (⟨wv43.heap.size, 0, none⟩) (⟨(World.alloc wv43 (.cells (#[.int .i64 0, .int .i64 0, .string ⟨#[]⟩, .slice none 0 0]) 45)).heap.size, 0, none⟩) (false) (World.drew wv49)))
    else
    (m52_K2 R (⟨(World.alloc (World.alloc w (.cells (t1) 40)) (.cells (#[.slice (path2A) (path2n) (path2c)]) 22)).heap.size, 0, none⟩) (⟨(World.alloc (World.alloc (World.alloc w (.cells (t1) 40)) (.cells (#[.slice (path2A) (path2n) (path2c)]) 22)) (.cells (#[.int .i64 0, .int .i64 0, .string ⟨#[]⟩, .slice none 0 0]) 45)).heap.size, 0, none⟩) (⟨(World.alloc wv19 (.cells (x20) 70)).heap.size, 0, none⟩) (⟨wv43.heap.size, 0, none⟩) (⟨(World.alloc wv43 (.cells (#[.int .i64 0, .int .i64 0, .string ⟨#[]⟩, .slice none 0 0]) 45)).heap.size, 0, none⟩) (false) (World.drew wv49))) (fun ch w => R (.panicked ch) w))))) (fun ch w => R (.panicked ch) w))

theorem e52 (R : Ending → World → Prop) (t1 : Array Value) (path2A : Option Addr) (path2n : Nat) (path2c : Nat) (w : World) : bodyP Tryz.prog T B (drawP Tryz.prog T B) m52_A Tryz.f52 [.agg (t1), .slice (path2A) (path2n) (path2c)] w R = m52 R t1 path2A path2n path2c w := by kernel_rfl
theorem c52 {R : Ending → World → Prop} (t1 : Array Value) (path2A : Option Addr) (path2n : Nat) (path2c : Nat) {w : World} (h : m52 R t1 path2A path2n path2c w) : Calls Tryz.prog 52 #[.agg (t1), .slice (path2A) (path2n) (path2c)] w R :=
  calls_of_bodyP hT hB hD Tryz.func52 (Nat.le_of_ble_eq_true (by kernel_rfl)) (by kernel_rfl) ((e52 R t1 path2A path2n path2c w).symm ▸ h)

/-! ### 73 (*refuter/tree.reader).read -/
def m73_S1 : List (Nat × TK) := [(7, .slice 0 0), (53, .int .i64)]
def m73_A : Nat → List (Nat × TK) × List Nat
  | 1 => (m73_S1, [0, 4, 5, 6, 51, 52])
  | _ => ([], [])
def m73_K1 (R : Ending → World → Prop) (x88 : Addr) (x89 : Addr) (x90A : Option Addr) (x90n : Nat) (x90c : Nat) (w : World) : Prop :=
    ∃ x91 : Array Value, x91.size = 12 ∧ CellsAt w (x89) x91 ∧
    Calls Tryz.prog 126 #[.agg (x91), .slice (x90A) (x90n) (x90c)] w (Ret (fun r92 wv93 =>
    ∃ x94, r92 = .agg x94 ∧ (x94 : Array Value).size = 4 ∧ RunU Tryz.prog (storeCells (x88) (x94 : Array Value).toList) wv93 fun wv95 =>
    ∃ res96 : Array Value, res96.size = 4 ∧ CellsAt wv95 (x88) res96 ∧
    R (.returned (.agg (res96) : Value)) wv95) (fun ch w => R (.panicked ch) w))

def m73_B1 (R : Ending → World → Prop) (GoCodetoArray42 : Option Addr) (x43 : Addr) (x44 : Addr) (x45 : Int) (x46A : Option Addr) (x46n : Nat) (x46c : Nat) (x47 : Int) (again1 : StOf m73_S1 → World → Prop) (x48A : Option Addr) (x48n : Nat) (x48c : Nat) (x49 : Int) (w : World) : Prop :=
    if (decide ((x49 : Int) < (x47))) = true then
    (∃ a50, (x46A : Option Addr) = some a50 ∧ 0 ≤ (x49 : Int) ∧ (x49 : Int) < ((x46n : Nat) : Int) ∧
    ∃ v51, World.cell? w (a50.add ((x49 : Int).toNat * 1)) = some v51 ∧ ∃ x52, v51 = .int .i64 x52 ∧ ∃ a53, GoCodetoArray42 = some a53 ∧ ∃ v54, World.cell? w ((a53 : Addr).add 3) = some v54 ∧ ∃ x55A x55n x55c, v54 = .slice x55A x55n x55c ∧ ∃ Sv56 : World → Prop, Sv56 (World.drew w) ∧
    ∃ a57, GoCodetoArray42 = some a57 ∧ ∃ v58, (∀ w', Sv56 w' → World.cell? w' ((a57 : Addr).add 3) = some v58) ∧ ∃ x59A x59n x59c, v58 = .slice x59A x59n x59c ∧ ∃ a60, GoCodetoArray42 = some a60 ∧ ∃ v61, (∀ w', Sv56 w' → World.cell? w' ((a60 : Addr).add 2) = some v61) ∧ ∃ x62, v61 = .int .i64 x62 ∧ ∃ v63, (∀ w', (Instr.build 168 #[(0, .int .i64 (x45)), (1, .int .i64 (x62)), (2, .int .i64 (0))]).run Tryz.prog w' = .ok v63 w') ∧ ∃ x64, v63 = .agg x64 ∧ Sized 3 [.agg (x64)] ∧
    Sv56 (World.alloc (World.drew w) (.cells (flat [.agg (x64)]) 168)) ∧
    RunV Tryz.prog (Builtin.append_ #[68, 68] 68 #[.slice (x59A) (x59n) (x59c), .slice (some (⟨(World.drew w).heap.size, 0, none⟩)) (1) (1)]) (World.alloc (World.drew w) (.cells (flat [.agg (x64)]) 168)) fun r65 wv66 =>
    ∃ x67A x67n x67c, r65 = .slice x67A x67n x67c ∧ Sv56 wv66 ∧
    ∃ a68, GoCodetoArray42 = some a68 ∧ (∃ u69, World.cell? wv66 ((a68 : Addr).add 3) = some u69) ∧ World.frozen? wv66 ((a68 : Addr).add 3) = false ∧
    ∃ Sv70 : World → Prop, Sv70 (World.setCell wv66 ((a68 : Addr).add 3) (.slice (x67A) (x67n) (x67c))) ∧
    Calls Tryz.prog 73 #[.pointer (GoCodetoArray42), .int .i64 (x52)] (World.setCell wv66 ((a68 : Addr).add 3) (.slice (x67A) (x67n) (x67c))) (Ret (fun r71 wv72 =>
    ∃ x73, r71 = .agg x73 ∧ Sized 4 [.agg (x73)] ∧
    RunV Tryz.prog (Builtin.append_ #[43, 43] 43 #[.slice (x48A) (x48n) (x48c), .slice (some (⟨wv72.heap.size, 0, none⟩)) (1) (1)]) (World.alloc wv72 (.cells (flat [.agg (x73)]) 45)) fun r74 wv75 =>
    ∃ x76A x76n x76c, r74 = .slice x76A x76n x76c ∧ ∃ Sv77 : World → Prop, Sv77 (World.drew wv75) ∧
    ∃ a78, GoCodetoArray42 = some a78 ∧ ∃ v79, (∀ w', Sv77 w' → World.cell? w' ((a78 : Addr).add 3) = some v79) ∧ ∃ x80A x80n x80c, v79 = .slice x80A x80n x80c ∧ ∃ a81, GoCodetoArray42 = some a81 ∧ ∃ v82, (∀ w', Sv77 w' → World.cell? w' ((a81 : Addr).add 2) = some v82) ∧ ∃ x83, v82 = .int .i64 x83 ∧ ∃ a84, (x80A : Option Addr) = some a84 ∧ 0 ≤ (((x55n : Nat) : Int) : Int) ∧ (((x55n : Nat) : Int) : Int) < ((x80n : Nat) : Int) ∧
    0 ≤ (2 : Int) ∧ (2 : Int) < ((3 : Nat) : Int) ∧ (∃ u85, World.cell? (World.drew wv75) ((a84.add ((((x55n : Nat) : Int) : Int).toNat * 3) : Addr).add ((2 : Int).toNat * 1)) = some u85) ∧ World.frozen? (World.drew wv75) ((a84.add ((((x55n : Nat) : Int) : Int).toNat * 3) : Addr).add ((2 : Int).toNat * 1)) = false ∧
    ∃ Sv86 : World → Prop, Sv86 (World.setCell (World.drew wv75) ((a84.add ((((x55n : Nat) : Int) : Int).toNat * 3) : Addr).add ((2 : Int).toNat * 1)) (.int .i64 (x83))) ∧
    ∃ s87 : StOf m73_S1, [.slice (x76A) (x76n) (x76c), .int .i64 (IntKind.i64.wrap ((x49 : Int) + (1)))] = encOf m73_S1 s87 ∧ again1 s87 (World.setCell (World.drew wv75) ((a84.add ((((x55n : Nat) : Int) : Int).toNat * 3) : Addr).add ((2 : Int).toNat * 1)) (.int .i64 (x83)))) (fun ch w => R (.panicked ch) w)))
    else
    (m73_K1 R (x43) (x44) (x48A) (x48n) (x48c) w)

def m73 (R : Ending → World → Prop) (GoCodetoArray1 : Option Addr) (v2 : Int) (w : World) : Prop :=
    ∃ a3, GoCodetoArray1 = some a3 ∧ ∃ v4, World.cell? (World.alloc w (.cells (#[.int .i64 0, .int .i64 0, .string ⟨#[]⟩, .slice none 0 0]) 45)) (((a3 : Addr).add 0 : Addr).add 0) = some v4 ∧ ∃ x5A x5n x5c, v4 = .slice x5A x5n x5c ∧ ∃ a6, (x5A : Option Addr) = some a6 ∧ 0 ≤ (v2 : Int) ∧ (v2 : Int) < ((x5n : Nat) : Int) ∧
    ∃ x7 : Array Value, x7.size = 12 ∧ CellsAt (World.alloc w (.cells (#[.int .i64 0, .int .i64 0, .string ⟨#[]⟩, .slice none 0 0]) 45)) (a6.add ((v2 : Int).toNat * 12)) x7 ∧
    (x7 : Array Value).size = 12 ∧ RunU Tryz.prog (storeCells (⟨(World.alloc w (.cells (#[.int .i64 0, .int .i64 0, .string ⟨#[]⟩, .slice none 0 0]) 45)).heap.size, 0, none⟩) (x7 : Array Value).toList) (World.alloc (World.alloc w (.cells (#[.int .i64 0, .int .i64 0, .string ⟨#[]⟩, .slice none 0 0]) 45)) (.cells (#[.int .i64 0, .string ⟨#[]⟩, .int .i64 0, .int .i64 0, .slice none 0 0, .slice none 0 0, .slice none 0 0, .slice none 0 0, .int .i64 0, .int .i64 0, .string ⟨#[]⟩, .slice none 0 0]) 74)) fun wv8 =>
    ∃ v9, World.cell? wv8 ((⟨(World.alloc w (.cells (#[.int .i64 0, .int .i64 0, .string ⟨#[]⟩, .slice none 0 0]) 45)).heap.size, 0, none⟩ : Addr).add 0) = some v9 ∧ ∃ x10, v9 = .int .i64 x10 ∧ if ((x10 : Int) == (1)) = true then
    (∃ Sv11 : World → Prop, Sv11 (World.drew wv8) ∧
    ∃ v12, (∀ w', Sv11 w' → World.cell? w' ((⟨(World.alloc w (.cells (#[.int .i64 0, .int .i64 0, .string ⟨#[]⟩, .slice none 0 0]) 45)).heap.size, 0, none⟩ : Addr).add 2) = some v12) ∧ ∃ x13, v12 = .int .i64 x13 ∧ Calls Tryz.prog 127 #[.pointer (GoCodetoArray1), .int .i64 (v2)] (World.drew wv8) (Ret (fun r14 wv15 =>
    ∃ x16, r14 = .int .i64 x16 ∧ Sv11 wv15 ∧
    ∃ v17, (∀ w', (Instr.build 45 #[(1, .int .i64 (IntKind.i64.wrap ((x13 : Int) + (x16))))]).run Tryz.prog w' = .ok v17 w') ∧ ∃ x18, v17 = .agg x18 ∧ (x18 : Array Value).size = 4 ∧ RunU Tryz.prog (storeCells (⟨w.heap.size, 0, none⟩) (x18 : Array Value).toList) wv15 fun wv19 =>
    ∃ Sv20 : World → Prop, Sv20 wv19 ∧
    ∃ res21 : Array Value, res21.size = 4 ∧ CellsAt wv19 (⟨w.heap.size, 0, none⟩) res21 ∧
    R (.returned (.agg (res21) : Value)) wv19) (fun ch w => R (.panicked ch) w)))
    else
    (if ((x10 : Int) == (2)) = true then
    (∃ Sv22 : World → Prop, Sv22 (World.drew wv8) ∧
    ∃ v23, (∀ w', Sv22 w' → World.cell? w' ((⟨(World.alloc w (.cells (#[.int .i64 0, .int .i64 0, .string ⟨#[]⟩, .slice none 0 0]) 45)).heap.size, 0, none⟩ : Addr).add 7) = some v23) ∧ ∃ x24A x24n x24c, v23 = .slice x24A x24n x24c ∧ Calls Tryz.prog 127 #[.pointer (GoCodetoArray1), .int .i64 (v2)] (World.drew wv8) (Ret (fun r25 wv26 =>
    ∃ x27, r25 = .int .i64 x27 ∧ Sv22 wv26 ∧
    ∃ a28, (x24A : Option Addr) = some a28 ∧ 0 ≤ (x27 : Int) ∧ (x27 : Int) < ((x24n : Nat) : Int) ∧
    ∃ v29, (∀ w', Sv22 w' → World.cell? w' (a28.add ((x27 : Int).toNat * 1)) = some v29) ∧ ∃ x30, v29 = .int .i64 x30 ∧ Calls Tryz.prog 73 #[.pointer (GoCodetoArray1), .int .i64 (x30)] wv26 (Ret (fun r31 wv32 =>
    ∃ x33, r31 = .agg x33 ∧ Sv22 wv32 ∧
    (x33 : Array Value).size = 4 ∧ RunU Tryz.prog (storeCells (⟨w.heap.size, 0, none⟩) (x33 : Array Value).toList) wv32 fun wv34 =>
    ∃ Sv35 : World → Prop, Sv35 wv34 ∧
    ∃ res36 : Array Value, res36.size = 4 ∧ CellsAt wv34 (⟨w.heap.size, 0, none⟩) res36 ∧
    R (.returned (.agg (res36) : Value)) wv34) (fun ch w => R (.panicked ch) w))) (fun ch w => R (.panicked ch) w)))
    else
    (if ((x10 : Int) == (3)) = true then
    (∃ a37, GoCodetoArray1 = some a37 ∧ ∃ v38, World.cell? wv8 ((a37 : Addr).add 2) = some v38 ∧ ∃ x39, v38 = .int .i64 x39 ∧ ∃ v40, World.cell? wv8 ((⟨(World.alloc w (.cells (#[.int .i64 0, .int .i64 0, .string ⟨#[]⟩, .slice none 0 0]) 45)).heap.size, 0, none⟩ : Addr).add 7) = some v40 ∧ ∃ x41A x41n x41c, v40 = .slice x41A x41n x41c ∧ ∃ s97 : StOf m73_S1, [.slice (none) (0) (0), .int .i64 (0)] = encOf m73_S1 s97 ∧ LoopP (fun again s wl => ∀ _r : Env, m73_B1 R (GoCodetoArray1) (⟨w.heap.size, 0, none⟩) (⟨(World.alloc w (.cells (#[.int .i64 0, .int .i64 0, .string ⟨#[]⟩, .slice none 0 0]) 45)).heap.size, 0, none⟩) (x39) (x41A) (x41n) (x41c) (((x41n : Nat) : Int)) again (s.1.1) (s.1.2.1) (s.1.2.2) (s.2.1) wl) s97 wv8)
    else
    (if ((x10 : Int) == (4)) = true then
    (∃ v98, World.cell? wv8 ((⟨(World.alloc w (.cells (#[.int .i64 0, .int .i64 0, .string ⟨#[]⟩, .slice none 0 0]) 45)).heap.size, 0, none⟩ : Addr).add 7) = some v98 ∧ ∃ x99A x99n x99c, v98 = .slice x99A x99n x99c ∧ ∃ a100, (x99A : Option Addr) = some a100 ∧ 0 ≤ (0 : Int) ∧ (0 : Int) < ((x99n : Nat) : Int) ∧
    ∃ v101, World.cell? wv8 (a100.add ((0 : Int).toNat * 1)) = some v101 ∧ ∃ x102, v101 = .int .i64 x102 ∧ Calls Tryz.prog 73 #[.pointer (GoCodetoArray1), .int .i64 (x102)] wv8 (Ret (fun r103 wv104 =>
    ∃ x105, r103 = .agg x105 ∧ (x105 : Array Value).size = 4 ∧ RunU Tryz.prog (storeCells (⟨wv104.heap.size, 0, none⟩) (x105 : Array Value).toList) (World.alloc wv104 (.cells (#[.int .i64 0, .int .i64 0, .string ⟨#[]⟩, .slice none 0 0]) 45)) fun wv106 =>
    ∃ v107, World.cell? wv106 ((⟨(World.alloc w (.cells (#[.int .i64 0, .int .i64 0, .string ⟨#[]⟩, .slice none 0 0]) 45)).heap.size, 0, none⟩ : Addr).add 6) = some v107 ∧ ∃ x108A x108n x108c, v107 = .slice x108A x108n x108c ∧ ∃ x109 : Array Value, x109.size = 4 ∧ CellsAt wv106 (⟨wv104.heap.size, 0, none⟩) x109 ∧
    Calls Tryz.prog 128 #[.slice (x108A) (x108n) (x108c), .agg (x109), .func (.func 117) #[] #[]] wv106 (Ret (fun r110 wv111 =>
    ∃ x112 x113, r110 = .tuple #[x112, x113] ∧ ∃ x114, x112 = .int .i64 x114 ∧ ∃ x115, x113 = .bool x115 ∧ ∃ v116, World.cell? wv111 ((⟨(World.alloc w (.cells (#[.int .i64 0, .int .i64 0, .string ⟨#[]⟩, .slice none 0 0]) 45)).heap.size, 0, none⟩ : Addr).add 7) = some v116 ∧ ∃ x117A x117n x117c, v116 = .slice x117A x117n x117c ∧ ∃ a118, (x117A : Option Addr) = some a118 ∧ 0 ≤ (IntKind.i64.wrap ((x114 : Int) + (1)) : Int) ∧ (IntKind.i64.wrap ((x114 : Int) + (1)) : Int) < ((x117n : Nat) : Int) ∧
    ∃ v119, World.cell? wv111 (a118.add ((IntKind.i64.wrap ((x114 : Int) + (1)) : Int).toNat * 1)) = some v119 ∧ ∃ x120, v119 = .int .i64 x120 ∧ Calls Tryz.prog 73 #[.pointer (GoCodetoArray1), .int .i64 (x120)] wv111 (Ret (fun r121 wv122 =>
    ∃ x123, r121 = .agg x123 ∧ (x123 : Array Value).size = 4 ∧ RunU Tryz.prog (storeCells (⟨w.heap.size, 0, none⟩) (x123 : Array Value).toList) wv122 fun wv124 =>
    ∃ res125 : Array Value, res125.size = 4 ∧ CellsAt wv124 (⟨w.heap.size, 0, none⟩) res125 ∧
    R (.returned (.agg (res125) : Value)) wv124) (fun ch w => R (.panicked ch) w))) (fun ch w => R (.panicked ch) w))) (fun ch w => R (.panicked ch) w)))
    else
    (∃ x126 : Array Value, x126.size = 4 ∧ CellsAt wv8 ((⟨(World.alloc w (.cells (#[.int .i64 0, .int .i64 0, .string ⟨#[]⟩, .slice none 0 0]) 45)).heap.size, 0, none⟩ : Addr).add 8) x126 ∧
    (x126 : Array Value).size = 4 ∧ RunU Tryz.prog (storeCells (⟨w.heap.size, 0, none⟩) (x126 : Array Value).toList) wv8 fun wv127 =>
    ∃ res128 : Array Value, res128.size = 4 ∧ CellsAt wv127 (⟨w.heap.size, 0, none⟩) res128 ∧
    R (.returned (.agg (res128) : Value)) wv127))))

theorem e73 (R : Ending → World → Prop) (GoCodetoArray1 : Option Addr) (v2 : Int) (w : World) : bodyP Tryz.prog T B (drawP Tryz.prog T B) m73_A Tryz.f73 [.pointer (GoCodetoArray1), .int .i64 (v2)] w R = m73 R GoCodetoArray1 v2 w := by kernel_rfl
theorem c73 {R : Ending → World → Prop} (GoCodetoArray1 : Option Addr) (v2 : Int) {w : World} (h : m73 R GoCodetoArray1 v2 w) : Calls Tryz.prog 73 #[.pointer (GoCodetoArray1), .int .i64 (v2)] w R :=
  calls_of_bodyP hT hB hD Tryz.func73 (Nat.le_of_ble_eq_true (by kernel_rfl)) (by kernel_rfl) ((e73 R GoCodetoArray1 v2 w).symm ▸ h)

/-! ### 74 refuter/tree.Spans -/
def m74_A : Nat → List (Nat × TK) × List Nat
  | _ => ([], [])
def m74 (R : Ending → World → Prop) (t1 : Array Value) (path2A : Option Addr) (path2n : Nat) (path2c : Nat) (w : World) : Prop :=
    ∃ x3 : Array Value, x3.size = 1 ∧ CellsAt (World.alloc w (.cells (t1) 40)) (⟨w.heap.size, 0, none⟩) x3 ∧
    Calls Tryz.prog 52 #[.agg (x3), .slice (path2A) (path2n) (path2c)] (World.alloc w (.cells (t1) 40)) (Ret (fun r4 wv5 =>
    ∃ x6 x7 x8, r4 = .tuple #[x6, x7, x8] ∧ ∃ x9, x6 = .pointer x9 ∧ ∃ x10, x7 = .agg x10 ∧ ∃ x11, x8 = .agg x11 ∧ (x10 : Array Value).size = 4 ∧ RunU Tryz.prog (storeCells (⟨wv5.heap.size, 0, none⟩) (x10 : Array Value).toList) (World.alloc (World.alloc wv5 (.cells (#[.int .i64 0, .int .i64 0, .string ⟨#[]⟩, .slice none 0 0]) 45)) (.cells (#[.int .i64 0, .int .i64 0]) 76)) fun wv12 =>
    (x11 : Array Value).size = 2 ∧ RunU Tryz.prog (storeCells (⟨(World.alloc wv5 (.cells (#[.int .i64 0, .int .i64 0, .string ⟨#[]⟩, .slice none 0 0]) 45)).heap.size, 0, none⟩) (x11 : Array Value).toList) wv12 fun wv13 =>
    ∃ v14, World.cell? wv13 ((⟨(World.alloc wv5 (.cells (#[.int .i64 0, .int .i64 0, .string ⟨#[]⟩, .slice none 0 0]) 45)).heap.size, 0, none⟩ : Addr).add 1) = some v14 ∧ ∃ x15, v14 = .int .i64 x15 ∧ if ((x15 : Int) != (0)) = true then
    (∃ Sv16 : World → Prop, Sv16 (World.drew wv13) ∧
    ∃ v17, (∀ w', Sv16 w' → World.cell? w' ((⟨(World.alloc wv5 (.cells (#[.int .i64 0, .int .i64 0, .string ⟨#[]⟩, .slice none 0 0]) 45)).heap.size, 0, none⟩ : Addr).add 1) = some v17) ∧ ∃ x18, v17 = .int .i64 x18 ∧ R (.returned (.tuple #[.slice (none) (0) (0), .int .i64 (x18)])) (World.drew wv13))
    else
    (∃ v19, World.cell? wv13 ((⟨(World.alloc wv5 (.cells (#[.int .i64 0, .int .i64 0, .string ⟨#[]⟩, .slice none 0 0]) 45)).heap.size, 0, none⟩ : Addr).add 0) = some v19 ∧ ∃ x20, v19 = .int .i64 x20 ∧ if (decide ((x20 : Int) ≥ (0))) = true then
    (R (.returned (.tuple #[.slice (none) (0) (0), .int .i64 (11)])) wv13)
    else
    (∃ a21, x9 = some a21 ∧ ∃ v22, World.cell? wv13 ((a21 : Addr).add 3) = some v22 ∧ ∃ x23A x23n x23c, v22 = .slice x23A x23n x23c ∧ R (.returned (.tuple #[.slice (x23A) (x23n) (x23c), .int .i64 (0)])) wv13))) (fun ch w => R (.panicked ch) w))

theorem e74 (R : Ending → World → Prop) (t1 : Array Value) (path2A : Option Addr) (path2n : Nat) (path2c : Nat) (w : World) : bodyP Tryz.prog T B (drawP Tryz.prog T B) m74_A Tryz.f74 [.agg (t1), .slice (path2A) (path2n) (path2c)] w R = m74 R t1 path2A path2n path2c w := by kernel_rfl
theorem c74 {R : Ending → World → Prop} (t1 : Array Value) (path2A : Option Addr) (path2n : Nat) (path2c : Nat) {w : World} (h : m74 R t1 path2A path2n path2c w) : Calls Tryz.prog 74 #[.agg (t1), .slice (path2A) (path2n) (path2c)] w R :=
  calls_of_bodyP hT hB hD Tryz.func74 (Nat.le_of_ble_eq_true (by kernel_rfl)) (by kernel_rfl) ((e74 R t1 path2A path2n path2c w).symm ▸ h)

/-! ### 79 refuter/tree.walk$1 -/
def m79_A : Nat → List (Nat × TK) × List Nat
  | _ => ([], [])
def m79_K1 (R : Ending → World → Prop) (v33 : Addr) (v34 : Addr) (w : World) : Prop :=
    ∃ Sv35 : World → Prop, Sv35 (World.drew w) ∧
    ∃ v36, (∀ w', Sv35 w' → World.cell? w' (v34) = some v36) ∧ ∃ x37A x37n x37c, v36 = .slice x37A x37n x37c ∧ ∃ v38, (∀ w', Sv35 w' → World.cell? w' (v33) = some v38) ∧ ∃ x39, v38 = .pointer x39 ∧ ∃ a40, x39 = some a40 ∧ ∃ v41, (∀ w', Sv35 w' → World.cell? w' ((a40 : Addr).add 2) = some v41) ∧ ∃ x42, v41 = .int .i64 x42 ∧ ∃ a43, (x37A : Option Addr) = some a43 ∧ 0 ≤ (x42 : Int) ∧ (x42 : Int) < ((x37n : Nat) : Int) ∧
    ∃ v44, (∀ w', Sv35 w' → World.cell? w' (a43.add ((x42 : Int).toNat * 1)) = some v44) ∧ ∃ x45, v44 = .int .i64 x45 ∧ R (.returned (.int .i64 (x45) : Value)) (World.drew w)

def m79_K2 (R : Ending → World → Prop) (v27 : Addr) (v28 : Addr) (v29 : Bool) (w : World) : Prop :=
    if (v29) = true then
    (RunV Tryz.prog (Instr.build 76 #[(0, .int .i64 (-1)), (1, .int .i64 (11))]) w fun r30 wv31 =>
    ∃ x32, r30 = .agg x32 ∧ R (.panicked [{ v := .iface 76 (.agg (x32)), recovered := false }]) wv31)
    else
    (m79_K1 R (v27) (v28) w)

def m79 (R : Ending → World → Prop) (node1 : Int) (cap2 : Addr) (cap3 : Addr) (cap4 : Addr) (w : World) : Prop :=
    ∃ Sv5 : World → Prop, Sv5 (World.drew w) ∧
    ∃ v6, (∀ w', Sv5 w' → World.cell? w' (cap2) = some v6) ∧ ∃ x7, v6 = .pointer x7 ∧ ∃ a8, x7 = some a8 ∧ ∃ v9, (∀ w', Sv5 w' → World.cell? w' ((a8 : Addr).add 2) = some v9) ∧ ∃ x10, v9 = .int .i64 x10 ∧ ∃ v11, (∀ w', Sv5 w' → World.cell? w' (cap3) = some v11) ∧ ∃ x12A x12n x12c, v11 = .slice x12A x12n x12c ∧ if ((x10 : Int) == (((x12n : Nat) : Int))) = true then
    (RunV Tryz.prog (Instr.build 76 #[(0, .int .i64 (node1)), (1, .int .i64 (0))]) (World.drew w) fun r13 wv14 =>
    ∃ x15, r13 = .agg x15 ∧ R (.panicked [{ v := .iface 76 (.agg (x15)), recovered := false }]) wv14)
    else
    (∃ Sv16 : World → Prop, Sv16 (World.drew (World.drew w)) ∧
    ∃ v17, (∀ w', Sv16 w' → World.cell? w' (cap3) = some v17) ∧ ∃ x18A x18n x18c, v17 = .slice x18A x18n x18c ∧ ∃ v19, (∀ w', Sv16 w' → World.cell? w' (cap2) = some v19) ∧ ∃ x20, v19 = .pointer x20 ∧ ∃ a21, x20 = some a21 ∧ ∃ v22, (∀ w', Sv16 w' → World.cell? w' ((a21 : Addr).add 2) = some v22) ∧ ∃ x23, v22 = .int .i64 x23 ∧ ∃ a24, (x18A : Option Addr) = some a24 ∧ 0 ≤ (x23 : Int) ∧ (x23 : Int) < ((x18n : Nat) : Int) ∧
    ∃ v25, (∀ w', Sv16 w' → World.cell? w' (a24.add ((x23 : Int).toNat * 1)) = some v25) ∧ ∃ x26, v25 = .int .i64 x26 ∧ if (decide ((x26 : Int) < (0))) = true then
    (m79_K2 R (cap2) (cap3) (true) (World.drew (World.drew w)))
    else
    (∃ v46, (∀ w', Sv16 w' → World.cell? w' (cap3) = some v46) ∧ ∃ x47A x47n x47c, v46 = .slice x47A x47n x47c ∧ ∃ v48, (∀ w', Sv16 w' → World.cell? w' (cap2) = some v48) ∧ ∃ x49, v48 = .pointer x49 ∧ ∃ a50, x49 = some a50 ∧ ∃ v51, (∀ w', Sv16 w' → World.cell? w' ((a50 : Addr).add 2) = some v51) ∧ ∃ x52, v51 = .int .i64 x52 ∧ ∃ a53, (x47A : Option Addr) = some a53 ∧ 0 ≤ (x52 : Int) ∧ (x52 : Int) < ((x47n : Nat) : Int) ∧
    ∃ v54, (∀ w', Sv16 w' → World.cell? w' (a53.add ((x52 : Int).toNat * 1)) = some v54) ∧ ∃ x55, v54 = .int .i64 x55 ∧ ∃ v56, (∀ w', Sv16 w' → World.cell? w' ((cap4 : Addr).add 0) = some v56) ∧ ∃ x57A x57n x57c, v56 = .slice x57A x57n x57c ∧ ∃ a58, (x57A : Option Addr) = some a58 ∧ 0 ≤ (node1 : Int) ∧ (node1 : Int) < ((x57n : Nat) : Int) ∧
    ∃ x59 : Array Value, x59.size = 12 ∧ (∀ w', Sv16 w' → CellsAt w' (a58.add ((node1 : Int).toNat * 12)) x59) ∧
    Calls Tryz.prog 49 #[.agg (x59)] (World.drew (World.drew w)) (Ret (fun r60 wv61 =>
    ∃ x62, r60 = .int .i64 x62 ∧ Sv16 wv61 ∧
    m79_K2 R (cap2) (cap3) (decide ((x55 : Int) ≥ (x62))) wv61) (fun ch w => R (.panicked ch) w))))

theorem e79 (R : Ending → World → Prop) (node1 : Int) (cap2 : Addr) (cap3 : Addr) (cap4 : Addr) (w : World) : bodyP Tryz.prog T B (drawP Tryz.prog T B) m79_A Tryz.f79 [.int .i64 (node1), .pointer (some (cap2)), .pointer (some (cap3)), .pointer (some (cap4))] w R = m79 R node1 cap2 cap3 cap4 w := by kernel_rfl
theorem c79 {R : Ending → World → Prop} (node1 : Int) (cap2 : Addr) (cap3 : Addr) (cap4 : Addr) {w : World} (h : m79 R node1 cap2 cap3 cap4 w) : Calls Tryz.prog 79 #[.int .i64 (node1), .pointer (some (cap2)), .pointer (some (cap3)), .pointer (some (cap4))] w R :=
  calls_of_bodyP hT hB hD Tryz.func79 (Nat.le_of_ble_eq_true (by kernel_rfl)) (by kernel_rfl) ((e79 R node1 cap2 cap3 cap4 w).symm ▸ h)

/-! ### 126 refuter/tree.made -/
def m126_A : Nat → List (Nat × TK) × List Nat
  | _ => ([], [])
def m126 (R : Ending → World → Prop) (x1 : Array Value) (kids2A : Option Addr) (kids2n : Nat) (kids2c : Nat) (w : World) : Prop :=
    ∃ v3, World.cell? (World.alloc (World.alloc w (.cells (x1) 74)) (.cells (#[.int .i64 0, .int .i64 0, .string ⟨#[]⟩, .slice none 0 0]) 45)) ((⟨w.heap.size, 0, none⟩ : Addr).add 1) = some v3 ∧ ∃ x4, v3 = .string x4 ∧ if ((x4 : ByteArray).toList == (⟨#[]⟩ : ByteArray).toList) = true then
    (RunV Tryz.prog (Instr.build 45 #[(0, .int .i64 (2)), (3, .slice (kids2A) (kids2n) (kids2c))]) (World.alloc (World.alloc w (.cells (x1) 74)) (.cells (#[.int .i64 0, .int .i64 0, .string ⟨#[]⟩, .slice none 0 0]) 45)) fun r5 wv6 =>
    ∃ x7, r5 = .agg x7 ∧ (x7 : Array Value).size = 4 ∧ RunU Tryz.prog (storeCells (⟨(World.alloc w (.cells (x1) 74)).heap.size, 0, none⟩) (x7 : Array Value).toList) wv6 fun wv8 =>
    ∃ res9 : Array Value, res9.size = 4 ∧ CellsAt wv8 (⟨(World.alloc w (.cells (x1) 74)).heap.size, 0, none⟩) res9 ∧
    R (.returned (.agg (res9) : Value)) wv8)
    else
    (∃ v10, World.cell? (World.alloc (World.alloc w (.cells (x1) 74)) (.cells (#[.int .i64 0, .int .i64 0, .string ⟨#[]⟩, .slice none 0 0]) 45)) ((⟨w.heap.size, 0, none⟩ : Addr).add 1) = some v10 ∧ ∃ x11, v10 = .string x11 ∧ RunV Tryz.prog (Instr.build 45 #[(0, .int .i64 (3)), (2, .string (x11)), (3, .slice (kids2A) (kids2n) (kids2c))]) (World.alloc (World.alloc w (.cells (x1) 74)) (.cells (#[.int .i64 0, .int .i64 0, .string ⟨#[]⟩, .slice none 0 0]) 45)) fun r12 wv13 =>
    ∃ x14, r12 = .agg x14 ∧ (x14 : Array Value).size = 4 ∧ RunU Tryz.prog (storeCells (⟨(World.alloc w (.cells (x1) 74)).heap.size, 0, none⟩) (x14 : Array Value).toList) wv13 fun wv15 =>
    ∃ res16 : Array Value, res16.size = 4 ∧ CellsAt wv15 (⟨(World.alloc w (.cells (x1) 74)).heap.size, 0, none⟩) res16 ∧
    R (.returned (.agg (res16) : Value)) wv15)

theorem e126 (R : Ending → World → Prop) (x1 : Array Value) (kids2A : Option Addr) (kids2n : Nat) (kids2c : Nat) (w : World) : bodyP Tryz.prog T B (drawP Tryz.prog T B) m126_A Tryz.f126 [.agg (x1), .slice (kids2A) (kids2n) (kids2c)] w R = m126 R x1 kids2A kids2n kids2c w := by kernel_rfl
theorem c126 {R : Ending → World → Prop} (x1 : Array Value) (kids2A : Option Addr) (kids2n : Nat) (kids2c : Nat) {w : World} (h : m126 R x1 kids2A kids2n kids2c w) : Calls Tryz.prog 126 #[.agg (x1), .slice (kids2A) (kids2n) (kids2c)] w R :=
  calls_of_bodyP hT hB hD Tryz.func126 (Nat.le_of_ble_eq_true (by kernel_rfl)) (by kernel_rfl) ((e126 R x1 kids2A kids2n kids2c w).symm ▸ h)

/-! ### 127 (*refuter/tree.reader).choice -/
def m127_A : Nat → List (Nat × TK) × List Nat
  | _ => ([], [])
def m127 (R : Ending → World → Prop) (r1 : Option Addr) (node2 : Int) (w : World) : Prop :=
    ∃ a3, r1 = some a3 ∧ ∃ v4, World.cell? w ((a3 : Addr).add 1) = some v4 ∧ ∃ x5g x5f x5c, v4 = .func (.func x5g) x5f x5c ∧ B x5g = true ∧ Calls Tryz.prog x5g (callV x5f [.int .i64 (node2)] x5c) w (Ret (fun r6 wv7 =>
    ∃ x8, r6 = .int .i64 x8 ∧ ∃ a9, r1 = some a9 ∧ ∃ v10, World.cell? wv7 ((a9 : Addr).add 2) = some v10 ∧ ∃ x11, v10 = .int .i64 x11 ∧ ∃ a12, r1 = some a12 ∧ (∃ u13, World.cell? wv7 ((a12 : Addr).add 2) = some u13) ∧ World.frozen? wv7 ((a12 : Addr).add 2) = false ∧
    R (.returned (.int .i64 (x8) : Value)) (World.setCell wv7 ((a12 : Addr).add 2) (.int .i64 (IntKind.i64.wrap ((x11 : Int) + (1)))))) (fun ch w => R (.panicked ch) w))

theorem e127 (R : Ending → World → Prop) (r1 : Option Addr) (node2 : Int) (w : World) : bodyP Tryz.prog T B (drawP Tryz.prog T B) m127_A Tryz.f127 [.pointer (r1), .int .i64 (node2)] w R = m127 R r1 node2 w := by kernel_rfl
theorem c127 {R : Ending → World → Prop} (r1 : Option Addr) (node2 : Int) {w : World} (h : m127 R r1 node2 w) : Calls Tryz.prog 127 #[.pointer (r1), .int .i64 (node2)] w R :=
  calls_of_bodyP hT hB hD Tryz.func127 (Nat.le_of_ble_eq_true (by kernel_rfl)) (by kernel_rfl) ((e127 R r1 node2 w).symm ▸ h)

end Go.Proofs.YtilacabmbjephaaGreatDoor
