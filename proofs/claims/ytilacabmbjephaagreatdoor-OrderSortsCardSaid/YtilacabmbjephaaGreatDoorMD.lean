/- Mirrors of Go functions and their links to the evaluator; printed by wip/mir.py. -/
import Derived.Test.YtilacabmbjephaaGreatDoorGxT
namespace Go.Proofs.YtilacabmbjephaaGreatDoor
open Go Go.GX
set_option linter.unusedVariables false
set_option maxRecDepth 100000

/-! ### 47 refuter/tree.Valid -/
def m47_S0 : List (Nat × TK) := [(22, .int .i64)]
def m47_S2 : List (Nat × TK) := [(41, .int .i64)]
def m47_A : Nat → List (Nat × TK) × List Nat
  | 0 => (m47_S0, [1, 3, 20, 21])
  | 2 => (m47_S2, [1, 3, 4, 5, 20, 21, 22, 39, 40])
  | _ => ([], [])
def m47_K2 (R : Ending → World → Prop) (again0 : StOf m47_S0 → World → Prop) (v80 : Addr) (x81A : Option Addr) (x81n : Nat) (x81c : Nat) (x82A : Option Addr) (x82n : Nat) (x82c : Nat) (x83 : Int) (x84 : Int) (w : World) : Prop :=
    ∃ s85 : StOf m47_S0, [.int .i64 (IntKind.i64.wrap ((x84 : Int) + (1)))] = encOf m47_S0 s85 ∧ again0 s85 w

def m47_K5 (R : Ending → World → Prop) (again0 : StOf m47_S0 → World → Prop) (v71 : Addr) (x72A : Option Addr) (x72n : Nat) (x72c : Nat) (x73 : Addr) (x74A : Option Addr) (x74n : Nat) (x74c : Nat) (x75 : Int) (x76 : Int) (x77 : Bool) (w : World) : Prop :=
    if (x77) = true then
    (R (.returned (.int .i64 (4) : Value)) w)
    else
    (∃ v78, World.cell? w ((x73 : Addr).add 0) = some v78 ∧ ∃ x79, v78 = .int .i64 x79 ∧ if ((x79 : Int) != (4)) = true then
    (m47_K2 R again0 (v71) (x72A) (x72n) (x72c) (x74A) (x74n) (x74c) (x75) (x76) w)
    else
    (∃ Sv86 : World → Prop, Sv86 (World.drew w) ∧
    ∃ x87 : Array Value, x87.size = 1 ∧ (∀ w', Sv86 w' → CellsAt w' (v71) x87) ∧
    ∃ v88, (∀ w', Sv86 w' → World.cell? w' ((x73 : Addr).add 7) = some v88) ∧ ∃ x89A x89n x89c, v88 = .slice x89A x89n x89c ∧ ∃ a90, (x89A : Option Addr) = some a90 ∧ 0 ≤ (0 : Int) ∧ (0 : Int) < ((x89n : Nat) : Int) ∧
    ∃ v91, (∀ w', Sv86 w' → World.cell? w' (a90.add ((0 : Int).toNat * 1)) = some v91) ∧ ∃ x92, v91 = .int .i64 x92 ∧ Calls Tryz.prog 69 #[.agg (x87), .slice (x72A) (x72n) (x72c), .int .i64 (x92)] (World.drew w) (Ret (fun r93 wv94 =>
    ∃ x95, r93 = .pointer x95 ∧ Sv86 wv94 ∧
    ∃ a96, x95 = some a96 ∧ ∃ v97, World.cell? wv94 ((a96 : Addr).add 4) = some v97 ∧ ∃ x98, v97 = .bool x98 ∧ if (x98) = true then
    (R (.returned (.int .i64 (4) : Value)) wv94)
    else
    (∃ Sv99 : World → Prop, Sv99 (World.drew wv94) ∧
    ∃ a100, x95 = some a100 ∧ ∃ v101, (∀ w', Sv99 w' → World.cell? w' ((a100 : Addr).add 2) = some v101) ∧ ∃ x102A x102n x102c, v101 = .slice x102A x102n x102c ∧ ∃ v103, (∀ w', Sv99 w' → World.cell? w' ((x73 : Addr).add 6) = some v103) ∧ ∃ x104A x104n x104c, v103 = .slice x104A x104n x104c ∧ Calls Tryz.prog 70 #[.slice (x102A) (x102n) (x102c), .slice (x104A) (x104n) (x104c), .func (.func 71) #[] #[]] (World.drew wv94) (Ret (fun r105 wv106 =>
    ∃ x107, r105 = .bool x107 ∧ Sv99 wv106 ∧
    if (!(x107 : Bool)) = true then
    (R (.returned (.int .i64 (1) : Value)) wv106)
    else
    (m47_K2 R again0 (v71) (x72A) (x72n) (x72c) (x74A) (x74n) (x74c) (x75) (x76) wv106)) (fun ch w => R (.panicked ch) w)))) (fun ch w => R (.panicked ch) w))))

def m47_K4 (R : Ending → World → Prop) (again0 : StOf m47_S0 → World → Prop) (v54 : Addr) (x55A : Option Addr) (x55n : Nat) (x55c : Nat) (x56 : Int) (x57 : Addr) (x58A : Option Addr) (x58n : Nat) (x58c : Nat) (x59 : Int) (x60 : Int) (w : World) : Prop :=
    ∃ x61 : Array Value, x61.size = 12 ∧ CellsAt w (x57) x61 ∧
    Calls Tryz.prog 67 #[.agg (x61)] w (Ret (fun r62 wv63 =>
    ∃ x64, r62 = .bool x64 ∧ if (!(x64 : Bool)) = true then
    (R (.returned (.int .i64 (5) : Value)) wv63)
    else
    (∃ x65 : Array Value, x65.size = 1 ∧ CellsAt wv63 (v54) x65 ∧
    Calls Tryz.prog 68 #[.agg (x65), .slice (x55A) (x55n) (x55c), .int .i64 (x56)] wv63 (Ret (fun r66 wv67 =>
    ∃ a68, (x55A : Option Addr) = some a68 ∧ 0 ≤ (x56 : Int) ∧ (x56 : Int) < ((x55n : Nat) : Int) ∧
    ∃ v69, World.cell? wv67 ((a68.add ((x56 : Int).toNat * 5) : Addr).add 0) = some v69 ∧ ∃ x70, v69 = .int .i64 x70 ∧ if (decide ((x70 : Int) > (256))) = true then
    (m47_K5 R again0 (v54) (x55A) (x55n) (x55c) (x57) (x58A) (x58n) (x58c) (x59) (x60) (true) wv67)
    else
    (∃ a108, (x55A : Option Addr) = some a108 ∧ 0 ≤ (x56 : Int) ∧ (x56 : Int) < ((x55n : Nat) : Int) ∧
    ∃ v109, World.cell? wv67 ((a108.add ((x56 : Int).toNat * 5) : Addr).add 1) = some v109 ∧ ∃ x110, v109 = .int .i64 x110 ∧ m47_K5 R again0 (v54) (x55A) (x55n) (x55c) (x57) (x58A) (x58n) (x58c) (x59) (x60) (decide ((x110 : Int) > (1024))) wv67)) (fun ch w => R (.panicked ch) w)))) (fun ch w => R (.panicked ch) w))

def m47_B2 (R : Ending → World → Prop) (again0 : StOf m47_S0 → World → Prop) (v36 : Addr) (x37A : Option Addr) (x37n : Nat) (x37c : Nat) (x38 : Int) (x39 : Addr) (x40A : Option Addr) (x40n : Nat) (x40c : Nat) (x41 : Int) (x42 : Int) (x43A : Option Addr) (x43n : Nat) (x43c : Nat) (x44 : Int) (again2 : StOf m47_S2 → World → Prop) (x45 : Int) (w : World) : Prop :=
    if (decide ((x45 : Int) < (x44))) = true then
    (∃ a46, (x43A : Option Addr) = some a46 ∧ 0 ≤ (x45 : Int) ∧ (x45 : Int) < ((x43n : Nat) : Int) ∧
    ∃ x47 : Array Value, x47.size = 4 ∧ CellsAt w (a46.add ((x45 : Int).toNat * 4)) x47 ∧
    (x47 : Array Value).size = 4 ∧ RunU Tryz.prog (storeCells (⟨w.heap.size, 0, none⟩) (x47 : Array Value).toList) (World.alloc w (.cells (#[.int .i64 0, .int .i64 0, .string ⟨#[]⟩, .slice none 0 0]) 45)) fun wv48 =>
    ∃ x49 : Array Value, x49.size = 4 ∧ CellsAt wv48 (⟨w.heap.size, 0, none⟩) x49 ∧
    Calls Tryz.prog 66 #[.agg (x49)] wv48 (Ret (fun r50 wv51 =>
    ∃ x52, r50 = .int .i64 x52 ∧ if ((x52 : Int) != (0)) = true then
    (R (.returned (.int .i64 (x52) : Value)) wv51)
    else
    (∃ s53 : StOf m47_S2, [.int .i64 (IntKind.i64.wrap ((x45 : Int) + (1)))] = encOf m47_S2 s53 ∧ again2 s53 wv51)) (fun ch w => R (.panicked ch) w)))
    else
    (m47_K4 R again0 (v36) (x37A) (x37n) (x37c) (x38) (x39) (x40A) (x40n) (x40c) (x41) (x42) w)

def m47_K3 (R : Ending → World → Prop) (again0 : StOf m47_S0 → World → Prop) (v28 : Addr) (x29A : Option Addr) (x29n : Nat) (x29c : Nat) (x30 : Int) (x31 : Addr) (x32A : Option Addr) (x32n : Nat) (x32c : Nat) (x33A : Option Addr) (x33n : Nat) (x33c : Nat) (x34 : Int) (x35 : Int) (w : World) : Prop :=
    ∃ s111 : StOf m47_S2, [.int .i64 (0)] = encOf m47_S2 s111 ∧ LoopP (fun again s wl => ∀ _r : Env, m47_B2 R again0 (v28) (x29A) (x29n) (x29c) (x30) (x31) (x33A) (x33n) (x33c) (x34) (x35) (x32A) (x32n) (x32c) (((x32n : Nat) : Int)) again (s.1) wl) s111 w

def m47_K1 (R : Ending → World → Prop) (w : World) : Prop :=
    R (.returned (.int .i64 (0) : Value)) w

def m47_B0 (R : Ending → World → Prop) (v11 : Addr) (x12A : Option Addr) (x12n : Nat) (x12c : Nat) (x13A : Option Addr) (x13n : Nat) (x13c : Nat) (x14 : Int) (again0 : StOf m47_S0 → World → Prop) (x15 : Int) (w : World) : Prop :=
    if (decide ((x15 : Int) < (x14))) = true then
    (∃ a16, (x13A : Option Addr) = some a16 ∧ 0 ≤ (x15 : Int) ∧ (x15 : Int) < ((x13n : Nat) : Int) ∧
    ∃ x17 : Array Value, x17.size = 12 ∧ CellsAt w (a16.add ((x15 : Int).toNat * 12)) x17 ∧
    (x17 : Array Value).size = 12 ∧ RunU Tryz.prog (storeCells (⟨w.heap.size, 0, none⟩) (x17 : Array Value).toList) (World.alloc w (.cells (#[.int .i64 0, .string ⟨#[]⟩, .int .i64 0, .int .i64 0, .slice none 0 0, .slice none 0 0, .slice none 0 0, .slice none 0 0, .int .i64 0, .int .i64 0, .string ⟨#[]⟩, .slice none 0 0]) 74)) fun wv18 =>
    ∃ x19 : Array Value, x19.size = 12 ∧ CellsAt wv18 (⟨w.heap.size, 0, none⟩) x19 ∧
    Calls Tryz.prog 65 #[.int .i64 (x15), .agg (x19)] wv18 (Ret (fun r20 wv21 =>
    ∃ x22, r20 = .bool x22 ∧ if (!(x22 : Bool)) = true then
    (R (.returned (.int .i64 (1) : Value)) wv21)
    else
    (∃ v23, World.cell? wv21 ((⟨w.heap.size, 0, none⟩ : Addr).add 6) = some v23 ∧ ∃ x24A x24n x24c, v23 = .slice x24A x24n x24c ∧ ∃ v25, World.cell? wv21 ((⟨w.heap.size, 0, none⟩ : Addr).add 0) = some v25 ∧ ∃ x26, v25 = .int .i64 x26 ∧ if ((x26 : Int) == (0)) = true then
    (∃ x27 : Array Value, x27.size = 4 ∧ CellsAt wv21 ((⟨w.heap.size, 0, none⟩ : Addr).add 8) x27 ∧
    Sized 4 [.agg (x27)] ∧
    m47_K3 R again0 (v11) (x12A) (x12n) (x12c) (x15) (⟨w.heap.size, 0, none⟩) (some (⟨wv21.heap.size, 0, none⟩)) (1) (1) (x13A) (x13n) (x13c) (x14) (x15) (World.alloc wv21 (.cells (flat [.agg (x27)]) 45)))
    else
    (m47_K3 R again0 (v11) (x12A) (x12n) (x12c) (x15) (⟨w.heap.size, 0, none⟩) (x24A) (x24n) (x24c) (x13A) (x13n) (x13c) (x14) (x15) wv21))) (fun ch w => R (.panicked ch) w)))
    else
    (m47_K1 R w)

def m47 (R : Ending → World → Prop) (GoCodetoArray1 : Array Value) (w : World) : Prop :=
    ∃ v2, World.cell? (World.alloc w (.cells (GoCodetoArray1) 40)) ((⟨w.heap.size, 0, none⟩ : Addr).add 0) = some v2 ∧ ∃ x3A x3n x3c, v2 = .slice x3A x3n x3c ∧ if (decide ((((x3n : Nat) : Int) : Int) > (4096))) = true then
    (R (.returned (.int .i64 (4) : Value)) (World.alloc w (.cells (GoCodetoArray1) 40)))
    else
    (∃ v4, World.cell? (World.alloc w (.cells (GoCodetoArray1) 40)) ((⟨w.heap.size, 0, none⟩ : Addr).add 0) = some v4 ∧ ∃ x5A x5n x5c, v4 = .slice x5A x5n x5c ∧ RunV Tryz.prog (Instr.makeSlice 94 (.int .i64 (((x5n : Nat) : Int)) : Value) (.int .i64 (((x5n : Nat) : Int)) : Value)) (World.alloc w (.cells (GoCodetoArray1) 40)) fun r6 wv7 =>
    ∃ x8A x8n x8c, r6 = .slice x8A x8n x8c ∧ ∃ v9, World.cell? wv7 ((⟨w.heap.size, 0, none⟩ : Addr).add 0) = some v9 ∧ ∃ x10A x10n x10c, v9 = .slice x10A x10n x10c ∧ ∃ s112 : StOf m47_S0, [.int .i64 (0)] = encOf m47_S0 s112 ∧ LoopP (fun again s wl => ∀ _r : Env, m47_B0 R (⟨w.heap.size, 0, none⟩) (x8A) (x8n) (x8c) (x10A) (x10n) (x10c) (((x10n : Nat) : Int)) again (s.1) wl) s112 wv7)

theorem e47 (R : Ending → World → Prop) (GoCodetoArray1 : Array Value) (w : World) : bodyP Tryz.prog T B (drawP Tryz.prog T B) m47_A Tryz.f47 [.agg (GoCodetoArray1)] w R = m47 R GoCodetoArray1 w := by kernel_rfl
theorem c47 {R : Ending → World → Prop} (GoCodetoArray1 : Array Value) {w : World} (h : m47 R GoCodetoArray1 w) : Calls Tryz.prog 47 #[.agg (GoCodetoArray1)] w R :=
  calls_of_bodyP hT hB hD Tryz.func47 (Nat.le_of_ble_eq_true (by kernel_rfl)) (by kernel_rfl) ((e47 R GoCodetoArray1 w).symm ▸ h)

/-! ### 65 refuter/tree.formed -/
def m65_S0 : List (Nat × TK) := [(52, .int .i64)]
def m65_A : Nat → List (Nat × TK) × List Nat
  | 0 => (m65_S0, [2, 3, 51])
  | _ => ([], [])
def m65_K4 (R : Ending → World → Prop) (again0 : StOf m65_S0 → World → Prop) (x41 : Addr) (x42 : Addr) (x43 : Array Value) (x44 : Int) (x45 : Bool) (w : World) : Prop :=
    if (x45) = true then
    (R (.returned (.bool (false) : Value)) w)
    else
    (∃ s46 : StOf m65_S0, [.int .i64 (IntKind.i64.wrap ((x44 : Int) + (1)))] = encOf m65_S0 s46 ∧ again0 s46 w)

def m65_K3 (R : Ending → World → Prop) (x47 : Addr) (x48 : Addr) (w : World) : Prop :=
    ∃ v49, World.cell? w ((x48 : Addr).add 7) = some v49 ∧ ∃ x50A x50n x50c, v49 = .slice x50A x50n x50c ∧ ∃ v51, World.cell? w ((x48 : Addr).add 7) = some v51 ∧ ∃ x52A x52n x52c, v51 = .slice x52A x52n x52c ∧ Calls Tryz.prog 111 #[.slice (x52A) (x52n) (x52c), .func (.func 112) #[] #[.pointer (some (x47))]] w (Ret (fun r53 wv54 =>
    ∃ x55, r53 = .bool x55 ∧ if (x55) = true then
    (R (.returned (.bool (false) : Value)) wv54)
    else
    (∃ v56, World.cell? wv54 ((x48 : Addr).add 0) = some v56 ∧ ∃ x57, v56 = .int .i64 x57 ∧ if ((x57 : Int) == (2)) = true then
    (if (decide ((((x50n : Nat) : Int) : Int) ≥ (1))) = true then
    (if (decide ((((x50n : Nat) : Int) : Int) ≤ (256))) = true then
    (∃ v58, World.cell? wv54 ((x48 : Addr).add 4) = some v58 ∧ ∃ x59A x59n x59c, v58 = .slice x59A x59n x59c ∧ if ((((x59n : Nat) : Int) : Int) == (((x50n : Nat) : Int))) = true then
    (∃ v60, World.cell? wv54 ((x48 : Addr).add 5) = some v60 ∧ ∃ x61A x61n x61c, v60 = .slice x61A x61n x61c ∧ if ((((x61n : Nat) : Int) : Int) == (0)) = true then
    (R (.returned (.bool (true) : Value)) wv54)
    else
    (∃ v62, World.cell? wv54 ((x48 : Addr).add 5) = some v62 ∧ ∃ x63A x63n x63c, v62 = .slice x63A x63n x63c ∧ R (.returned (.bool ((((x63n : Nat) : Int) : Int) == (((x50n : Nat) : Int))) : Value)) wv54))
    else
    (R (.returned (.bool (false) : Value)) wv54))
    else
    (R (.returned (.bool (false) : Value)) wv54))
    else
    (R (.returned (.bool (false) : Value)) wv54))
    else
    (if ((x57 : Int) == (3)) = true then
    (if (decide ((((x50n : Nat) : Int) : Int) ≤ (256))) = true then
    (∃ v64, World.cell? wv54 ((x48 : Addr).add 1) = some v64 ∧ ∃ x65, v64 = .string x65 ∧ if ((x65 : ByteArray).toList == (⟨#[]⟩ : ByteArray).toList) = true then
    (R (.returned (.bool (true) : Value)) wv54)
    else
    (∃ v66, World.cell? wv54 ((x48 : Addr).add 1) = some v66 ∧ ∃ x67, v66 = .string x67 ∧ Calls Tryz.prog 113 #[.string (x67)] wv54 (Ret (fun r68 wv69 =>
    ∃ x70, r68 = .bool x70 ∧ if (x70) = true then
    (R (.returned (.bool (decide ((((x50n : Nat) : Int) : Int) ≤ (16))) : Value)) wv69)
    else
    (R (.returned (.bool (false) : Value)) wv69)) (fun ch w => R (.panicked ch) w))))
    else
    (R (.returned (.bool (false) : Value)) wv54))
    else
    (if ((x57 : Int) == (4)) = true then
    (∃ v71, World.cell? wv54 ((x48 : Addr).add 6) = some v71 ∧ ∃ x72A x72n x72c, v71 = .slice x72A x72n x72c ∧ if ((((x50n : Nat) : Int) : Int) == (IntKind.i64.wrap ((((x72n : Nat) : Int) : Int) + (1)))) = true then
    (∃ v73, World.cell? wv54 ((x48 : Addr).add 6) = some v73 ∧ ∃ x74A x74n x74c, v73 = .slice x74A x74n x74c ∧ Calls Tryz.prog 115 #[.slice (x74A) (x74n) (x74c)] wv54 (Ret (fun r75 wv76 =>
    ∃ x77A x77n x77c, r75 = .slice x77A x77n x77c ∧ Calls Tryz.prog 114 #[.slice (x77A) (x77n) (x77c), .func (.func 116) #[] #[]] wv76 (Ret (fun r78 wv79 =>
    ∃ x80, r78 = .bool x80 ∧ R (.returned (.bool (!(x80 : Bool)) : Value)) wv79) (fun ch w => R (.panicked ch) w))) (fun ch w => R (.panicked ch) w)))
    else
    (R (.returned (.bool (false) : Value)) wv54))
    else
    (R (.returned (.bool (true) : Value)) wv54))))) (fun ch w => R (.panicked ch) w))

def m65_B0 (R : Ending → World → Prop) (x31 : Addr) (x32 : Addr) (x33 : Array Value) (again0 : StOf m65_S0 → World → Prop) (x34 : Int) (w : World) : Prop :=
    if (decide ((x34 : Int) < (6))) = true then
    (0 ≤ (x34 : Int) ∧ (x34 : Int) < ((6 : Nat) : Int) ∧ ∃ v35, (x33 : Array Value)[(x34 : Int).toNat * 1]? = some v35 ∧ ∃ x36, v35 = .bool x36 ∧ if (x36) = true then
    (∃ v37, World.cell? w ((x32 : Addr).add 0) = some v37 ∧ ∃ x38, v37 = .int .i64 x38 ∧ 0 ≤ (x38 : Int) ∧ (x38 : Int) < ((5 : Nat) : Int) ∧ 0 ≤ (x34 : Int) ∧ (x34 : Int) < ((6 : Nat) : Int) ∧ ∃ v39, World.cell? w (((⟨0, 0, none⟩ : Addr).add ((x38 : Int).toNat * 6) : Addr).add ((x34 : Int).toNat * 1)) = some v39 ∧ ∃ x40, v39 = .bool x40 ∧ m65_K4 R again0 (x31) (x32) (x33) (x34) (!(x40 : Bool)) w)
    else
    (m65_K4 R again0 (x31) (x32) (x33) (x34) (false) w))
    else
    (m65_K3 R (x31) (x32) w)

def m65_K2 (R : Ending → World → Prop) (x27 : Addr) (x28 : Addr) (x29 : Addr) (w : World) : Prop :=
    ∃ x30 : Array Value, x30.size = 6 * 1 ∧ CellsAt w (x29) x30 ∧
    ∃ s81 : StOf m65_S0, [.int .i64 (0)] = encOf m65_S0 s81 ∧ LoopP (fun again s wl => ∀ _r : Env, m65_B0 R (x27) (x28) (x30) again (s.1) wl) s81 w

def m65_K1 (R : Ending → World → Prop) (x5 : Addr) (x6 : Addr) (x7 : Bool) (w : World) : Prop :=
    if (x7) = true then
    (R (.returned (.bool (false) : Value)) w)
    else
    (∃ Sv8 : World → Prop, Sv8 (World.drew w) ∧
    ∃ v9, (∀ w', Sv8 w' → World.cell? w' ((x6 : Addr).add 1) = some v9) ∧ ∃ x10, v9 = .string x10 ∧ ∃ v11, (∀ w', Sv8 w' → World.cell? w' ((x6 : Addr).add 2) = some v11) ∧ ∃ x12, v11 = .int .i64 x12 ∧ if ((x12 : Int) != (0)) = true then
    (∃ v13, (∀ w', Sv8 w' → World.cell? w' ((x6 : Addr).add 4) = some v13) ∧ ∃ x14A x14n x14c, v13 = .slice x14A x14n x14c ∧ if (decide ((((x14n : Nat) : Int) : Int) > (0))) = true then
    (∃ v15, (∀ w', Sv8 w' → World.cell? w' ((x6 : Addr).add 6) = some v15) ∧ ∃ x16A x16n x16c, v15 = .slice x16A x16n x16c ∧ ∃ v17, (∀ w', Sv8 w' → World.cell? w' ((x6 : Addr).add 7) = some v17) ∧ ∃ x18A x18n x18c, v17 = .slice x18A x18n x18c ∧ ∃ x19 : Array Value, x19.size = 4 ∧ (∀ w', Sv8 w' → CellsAt w' ((x6 : Addr).add 8) x19) ∧
    (Calls Tryz.prog 110 #[.agg (x19)] (World.drew w) (Ret (fun r20 wv21 =>
    ∃ x22, r20 = .bool x22 ∧ Sv8 wv21 ∧
    ∃ v23, (∀ w', (Instr.build 152 #[(0, .bool (!((x10 : ByteArray).toList == (⟨#[]⟩ : ByteArray).toList))), (1, .bool (true)), (2, .bool (true)), (3, .bool (decide ((((x16n : Nat) : Int) : Int) > (0)))), (4, .bool (decide ((((x18n : Nat) : Int) : Int) > (0)))), (5, .bool (!(x22 : Bool)))]).run Tryz.prog w' = .ok v23 w') ∧ ∃ x24, v23 = .agg x24 ∧ Sv8 (World.alloc wv21 (.cells (#[.bool false, .bool false, .bool false, .bool false, .bool false, .bool false]) 152)) ∧
    (x24 : Array Value).size = 6 * 1 ∧ RunU Tryz.prog (storeCells (⟨wv21.heap.size, 0, none⟩) (x24 : Array Value).toList) (World.alloc wv21 (.cells (#[.bool false, .bool false, .bool false, .bool false, .bool false, .bool false]) 152)) fun wv25 =>
    ∃ Sv26 : World → Prop, Sv26 wv25 ∧
    m65_K2 R (x5) (x6) (⟨wv21.heap.size, 0, none⟩) wv25) (fun ch w => R (.panicked ch) w))) ∧
    (Sv8 (World.alloc (World.drew w) (.cells (#[.bool false, .bool false, .bool false, .bool false, .bool false, .bool false]) 152)) ∧
    Calls Tryz.prog 110 #[.agg (x19)] (World.alloc (World.drew w) (.cells (#[.bool false, .bool false, .bool false, .bool false, .bool false, .bool false]) 152)) (Ret (fun r82 wv83 =>
    ∃ x84, r82 = .bool x84 ∧ Sv8 wv83 ∧
    ∃ v85, (∀ w', (Instr.build 152 #[(0, .bool (!((x10 : ByteArray).toList == (⟨#[]⟩ : ByteArray).toList))), (1, .bool (true)), (2, .bool (true)), (3, .bool (decide ((((x16n : Nat) : Int) : Int) > (0)))), (4, .bool (decide ((((x18n : Nat) : Int) : Int) > (0)))), (5, .bool (!(x84 : Bool)))]).run Tryz.prog w' = .ok v85 w') ∧ ∃ x86, v85 = .agg x86 ∧ (x86 : Array Value).size = 6 * 1 ∧ RunU Tryz.prog (storeCells (⟨(World.drew w).heap.size, 0, none⟩) (x86 : Array Value).toList) wv83 fun wv87 =>
    ∃ Sv88 : World → Prop, Sv88 wv87 ∧
    m65_K2 R (x5) (x6) (⟨(World.drew w).heap.size, 0, none⟩) wv87) (fun ch w => R (.panicked ch) w))))
    else
    (∃ v89, (∀ w', Sv8 w' → World.cell? w' ((x6 : Addr).add 5) = some v89) ∧ ∃ x90A x90n x90c, v89 = .slice x90A x90n x90c ∧ ∃ v91, (∀ w', Sv8 w' → World.cell? w' ((x6 : Addr).add 6) = some v91) ∧ ∃ x92A x92n x92c, v91 = .slice x92A x92n x92c ∧ ∃ v93, (∀ w', Sv8 w' → World.cell? w' ((x6 : Addr).add 7) = some v93) ∧ ∃ x94A x94n x94c, v93 = .slice x94A x94n x94c ∧ ∃ x95 : Array Value, x95.size = 4 ∧ (∀ w', Sv8 w' → CellsAt w' ((x6 : Addr).add 8) x95) ∧
    (Calls Tryz.prog 110 #[.agg (x95)] (World.drew w) (Ret (fun r96 wv97 =>
    ∃ x98, r96 = .bool x98 ∧ Sv8 wv97 ∧
    ∃ v99, (∀ w', (Instr.build 152 #[(0, .bool (!((x10 : ByteArray).toList == (⟨#[]⟩ : ByteArray).toList))), (1, .bool (true)), (2, .bool (decide ((((x90n : Nat) : Int) : Int) > (0)))), (3, .bool (decide ((((x92n : Nat) : Int) : Int) > (0)))), (4, .bool (decide ((((x94n : Nat) : Int) : Int) > (0)))), (5, .bool (!(x98 : Bool)))]).run Tryz.prog w' = .ok v99 w') ∧ ∃ x100, v99 = .agg x100 ∧ Sv8 (World.alloc wv97 (.cells (#[.bool false, .bool false, .bool false, .bool false, .bool false, .bool false]) 152)) ∧
    (x100 : Array Value).size = 6 * 1 ∧ RunU Tryz.prog (storeCells (⟨wv97.heap.size, 0, none⟩) (x100 : Array Value).toList) (World.alloc wv97 (.cells (#[.bool false, .bool false, .bool false, .bool false, .bool false, .bool false]) 152)) fun wv101 =>
    ∃ Sv102 : World → Prop, Sv102 wv101 ∧
    m65_K2 R (x5) (x6) (⟨wv97.heap.size, 0, none⟩) wv101) (fun ch w => R (.panicked ch) w))) ∧
    (Sv8 (World.alloc (World.drew w) (.cells (#[.bool false, .bool false, .bool false, .bool false, .bool false, .bool false]) 152)) ∧
    Calls Tryz.prog 110 #[.agg (x95)] (World.alloc (World.drew w) (.cells (#[.bool false, .bool false, .bool false, .bool false, .bool false, .bool false]) 152)) (Ret (fun r103 wv104 =>
    ∃ x105, r103 = .bool x105 ∧ Sv8 wv104 ∧
    ∃ v106, (∀ w', (Instr.build 152 #[(0, .bool (!((x10 : ByteArray).toList == (⟨#[]⟩ : ByteArray).toList))), (1, .bool (true)), (2, .bool (decide ((((x90n : Nat) : Int) : Int) > (0)))), (3, .bool (decide ((((x92n : Nat) : Int) : Int) > (0)))), (4, .bool (decide ((((x94n : Nat) : Int) : Int) > (0)))), (5, .bool (!(x105 : Bool)))]).run Tryz.prog w' = .ok v106 w') ∧ ∃ x107, v106 = .agg x107 ∧ (x107 : Array Value).size = 6 * 1 ∧ RunU Tryz.prog (storeCells (⟨(World.drew w).heap.size, 0, none⟩) (x107 : Array Value).toList) wv104 fun wv108 =>
    ∃ Sv109 : World → Prop, Sv109 wv108 ∧
    m65_K2 R (x5) (x6) (⟨(World.drew w).heap.size, 0, none⟩) wv108) (fun ch w => R (.panicked ch) w)))))
    else
    (∃ v110, (∀ w', Sv8 w' → World.cell? w' ((x6 : Addr).add 3) = some v110) ∧ ∃ x111, v110 = .int .i64 x111 ∧ ∃ v112, (∀ w', Sv8 w' → World.cell? w' ((x6 : Addr).add 4) = some v112) ∧ ∃ x113A x113n x113c, v112 = .slice x113A x113n x113c ∧ if (decide ((((x113n : Nat) : Int) : Int) > (0))) = true then
    (∃ v114, (∀ w', Sv8 w' → World.cell? w' ((x6 : Addr).add 6) = some v114) ∧ ∃ x115A x115n x115c, v114 = .slice x115A x115n x115c ∧ ∃ v116, (∀ w', Sv8 w' → World.cell? w' ((x6 : Addr).add 7) = some v116) ∧ ∃ x117A x117n x117c, v116 = .slice x117A x117n x117c ∧ ∃ x118 : Array Value, x118.size = 4 ∧ (∀ w', Sv8 w' → CellsAt w' ((x6 : Addr).add 8) x118) ∧
    (Calls Tryz.prog 110 #[.agg (x118)] (World.drew w) (Ret (fun r119 wv120 =>
    ∃ x121, r119 = .bool x121 ∧ Sv8 wv120 ∧
    ∃ v122, (∀ w', (Instr.build 152 #[(0, .bool (!((x10 : ByteArray).toList == (⟨#[]⟩ : ByteArray).toList))), (1, .bool ((x111 : Int) != (0))), (2, .bool (true)), (3, .bool (decide ((((x115n : Nat) : Int) : Int) > (0)))), (4, .bool (decide ((((x117n : Nat) : Int) : Int) > (0)))), (5, .bool (!(x121 : Bool)))]).run Tryz.prog w' = .ok v122 w') ∧ ∃ x123, v122 = .agg x123 ∧ Sv8 (World.alloc wv120 (.cells (#[.bool false, .bool false, .bool false, .bool false, .bool false, .bool false]) 152)) ∧
    (x123 : Array Value).size = 6 * 1 ∧ RunU Tryz.prog (storeCells (⟨wv120.heap.size, 0, none⟩) (x123 : Array Value).toList) (World.alloc wv120 (.cells (#[.bool false, .bool false, .bool false, .bool false, .bool false, .bool false]) 152)) fun wv124 =>
    ∃ Sv125 : World → Prop, Sv125 wv124 ∧
    m65_K2 R (x5) (x6) (⟨wv120.heap.size, 0, none⟩) wv124) (fun ch w => R (.panicked ch) w))) ∧
    (Sv8 (World.alloc (World.drew w) (.cells (#[.bool false, .bool false, .bool false, .bool false, .bool false, .bool false]) 152)) ∧
    Calls Tryz.prog 110 #[.agg (x118)] (World.alloc (World.drew w) (.cells (#[.bool false, .bool false, .bool false, .bool false, .bool false, .bool false]) 152)) (Ret (fun r126 wv127 =>
    ∃ x128, r126 = .bool x128 ∧ Sv8 wv127 ∧
    ∃ v129, (∀ w', (Instr.build 152 #[(0, .bool (!((x10 : ByteArray).toList == (⟨#[]⟩ : ByteArray).toList))), (1, .bool ((x111 : Int) != (0))), (2, .bool (true)), (3, .bool (decide ((((x115n : Nat) : Int) : Int) > (0)))), (4, .bool (decide ((((x117n : Nat) : Int) : Int) > (0)))), (5, .bool (!(x128 : Bool)))]).run Tryz.prog w' = .ok v129 w') ∧ ∃ x130, v129 = .agg x130 ∧ (x130 : Array Value).size = 6 * 1 ∧ RunU Tryz.prog (storeCells (⟨(World.drew w).heap.size, 0, none⟩) (x130 : Array Value).toList) wv127 fun wv131 =>
    ∃ Sv132 : World → Prop, Sv132 wv131 ∧
    m65_K2 R (x5) (x6) (⟨(World.drew w).heap.size, 0, none⟩) wv131) (fun ch w => R (.panicked ch) w))))
    else
    (∃ v133, (∀ w', Sv8 w' → World.cell? w' ((x6 : Addr).add 5) = some v133) ∧ ∃ x134A x134n x134c, v133 = .slice x134A x134n x134c ∧ ∃ v135, (∀ w', Sv8 w' → World.cell? w' ((x6 : Addr).add 6) = some v135) ∧ ∃ x136A x136n x136c, v135 = .slice x136A x136n x136c ∧ ∃ v137, (∀ w', Sv8 w' → World.cell? w' ((x6 : Addr).add 7) = some v137) ∧ ∃ x138A x138n x138c, v137 = .slice x138A x138n x138c ∧ ∃ x139 : Array Value, x139.size = 4 ∧ (∀ w', Sv8 w' → CellsAt w' ((x6 : Addr).add 8) x139) ∧
    (Calls Tryz.prog 110 #[.agg (x139)] (World.drew w) (Ret (fun r140 wv141 =>
    ∃ x142, r140 = .bool x142 ∧ Sv8 wv141 ∧
    ∃ v143, (∀ w', (Instr.build 152 #[(0, .bool (!((x10 : ByteArray).toList == (⟨#[]⟩ : ByteArray).toList))), (1, .bool ((x111 : Int) != (0))), (2, .bool (decide ((((x134n : Nat) : Int) : Int) > (0)))), (3, .bool (decide ((((x136n : Nat) : Int) : Int) > (0)))), (4, .bool (decide ((((x138n : Nat) : Int) : Int) > (0)))), (5, .bool (!(x142 : Bool)))]).run Tryz.prog w' = .ok v143 w') ∧ ∃ x144, v143 = .agg x144 ∧ Sv8 (World.alloc wv141 (.cells (#[.bool false, .bool false, .bool false, .bool false, .bool false, .bool false]) 152)) ∧
    (x144 : Array Value).size = 6 * 1 ∧ RunU Tryz.prog (storeCells (⟨wv141.heap.size, 0, none⟩) (x144 : Array Value).toList) (World.alloc wv141 (.cells (#[.bool false, .bool false, .bool false, .bool false, .bool false, .bool false]) 152)) fun wv145 =>
    ∃ Sv146 : World → Prop, Sv146 wv145 ∧
    m65_K2 R (x5) (x6) (⟨wv141.heap.size, 0, none⟩) wv145) (fun ch w => R (.panicked ch) w))) ∧
    (Sv8 (World.alloc (World.drew w) (.cells (#[.bool false, .bool false, .bool false, .bool false, .bool false, .bool false]) 152)) ∧
    Calls Tryz.prog 110 #[.agg (x139)] (World.alloc (World.drew w) (.cells (#[.bool false, .bool false, .bool false, .bool false, .bool false, .bool false]) 152)) (Ret (fun r147 wv148 =>
    ∃ x149, r147 = .bool x149 ∧ Sv8 wv148 ∧
    ∃ v150, (∀ w', (Instr.build 152 #[(0, .bool (!((x10 : ByteArray).toList == (⟨#[]⟩ : ByteArray).toList))), (1, .bool ((x111 : Int) != (0))), (2, .bool (decide ((((x134n : Nat) : Int) : Int) > (0)))), (3, .bool (decide ((((x136n : Nat) : Int) : Int) > (0)))), (4, .bool (decide ((((x138n : Nat) : Int) : Int) > (0)))), (5, .bool (!(x149 : Bool)))]).run Tryz.prog w' = .ok v150 w') ∧ ∃ x151, v150 = .agg x151 ∧ (x151 : Array Value).size = 6 * 1 ∧ RunU Tryz.prog (storeCells (⟨(World.drew w).heap.size, 0, none⟩) (x151 : Array Value).toList) wv148 fun wv152 =>
    ∃ Sv153 : World → Prop, Sv153 wv152 ∧
    m65_K2 R (x5) (x6) (⟨(World.drew w).heap.size, 0, none⟩) wv152) (fun ch w => R (.panicked ch) w))))))

def m65 (R : Ending → World → Prop) (GoCodetoArray1 : Int) (v2 : Array Value) (w : World) : Prop :=
    ∃ v3, World.cell? (World.alloc (World.alloc w (.cells (#[.int .i64 (GoCodetoArray1)]) 3)) (.cells (v2) 74)) ((⟨(World.alloc w (.cells (#[.int .i64 (GoCodetoArray1)]) 3)).heap.size, 0, none⟩ : Addr).add 0) = some v3 ∧ ∃ x4, v3 = .int .i64 x4 ∧ if (decide ((x4 : Int) < (0))) = true then
    (m65_K1 R (⟨w.heap.size, 0, none⟩) (⟨(World.alloc w (.cells (#[.int .i64 (GoCodetoArray1)]) 3)).heap.size, 0, none⟩) (true) (World.alloc (World.alloc w (.cells (#[.int .i64 (GoCodetoArray1)]) 3)) (.cells (v2) 74)))
    else
    (∃ v154, World.cell? (World.alloc (World.alloc w (.cells (#[.int .i64 (GoCodetoArray1)]) 3)) (.cells (v2) 74)) ((⟨(World.alloc w (.cells (#[.int .i64 (GoCodetoArray1)]) 3)).heap.size, 0, none⟩ : Addr).add 0) = some v154 ∧ ∃ x155, v154 = .int .i64 x155 ∧ m65_K1 R (⟨w.heap.size, 0, none⟩) (⟨(World.alloc w (.cells (#[.int .i64 (GoCodetoArray1)]) 3)).heap.size, 0, none⟩) (decide ((x155 : Int) ≥ (5))) (World.alloc (World.alloc w (.cells (#[.int .i64 (GoCodetoArray1)]) 3)) (.cells (v2) 74)))

theorem e65 (R : Ending → World → Prop) (GoCodetoArray1 : Int) (v2 : Array Value) (w : World) : bodyP Tryz.prog T B (drawP Tryz.prog T B) m65_A Tryz.f65 [.int .i64 (GoCodetoArray1), .agg (v2)] w R = m65 R GoCodetoArray1 v2 w := by kernel_rfl
theorem c65 {R : Ending → World → Prop} (GoCodetoArray1 : Int) (v2 : Array Value) {w : World} (h : m65 R GoCodetoArray1 v2 w) : Calls Tryz.prog 65 #[.int .i64 (GoCodetoArray1), .agg (v2)] w R :=
  calls_of_bodyP hT hB hD Tryz.func65 (Nat.le_of_ble_eq_true (by kernel_rfl)) (by kernel_rfl) ((e65 R GoCodetoArray1 v2 w).symm ▸ h)

/-! ### 67 refuter/tree.inRange -/
def m67_A : Nat → List (Nat × TK) × List Nat
  | _ => ([], [])
def m67_K1 (R : Ending → World → Prop) (x6 : Addr) (v7 : Bool) (w : World) : Prop :=
    if (v7) = true then
    (R (.returned (.bool (false) : Value)) w)
    else
    (∃ v8, World.cell? w ((x6 : Addr).add 4) = some v8 ∧ ∃ x9A x9n x9c, v8 = .slice x9A x9n x9c ∧ Calls Tryz.prog 111 #[.slice (x9A) (x9n) (x9c), .func (.func 122) #[] #[]] w (Ret (fun r10 wv11 =>
    ∃ x12, r10 = .bool x12 ∧ R (.returned (.bool (!(x12 : Bool)) : Value)) wv11) (fun ch w => R (.panicked ch) w)))

def m67 (R : Ending → World → Prop) (x1 : Array Value) (w : World) : Prop :=
    ∃ v2, World.cell? (World.alloc w (.cells (x1) 74)) ((⟨w.heap.size, 0, none⟩ : Addr).add 2) = some v2 ∧ ∃ x3, v2 = .int .i64 x3 ∧ ∃ v4, World.cell? (World.alloc w (.cells (x1) 74)) ((⟨w.heap.size, 0, none⟩ : Addr).add 3) = some v4 ∧ ∃ x5, v4 = .int .i64 x5 ∧ if (decide ((x3 : Int) > (x5))) = true then
    (m67_K1 R (⟨w.heap.size, 0, none⟩) (true) (World.alloc w (.cells (x1) 74)))
    else
    (∃ v13, World.cell? (World.alloc w (.cells (x1) 74)) ((⟨w.heap.size, 0, none⟩ : Addr).add 2) = some v13 ∧ ∃ x14, v13 = .int .i64 x14 ∧ if (decide ((x14 : Int) < (-4611686018427387904))) = true then
    (m67_K1 R (⟨w.heap.size, 0, none⟩) (true) (World.alloc w (.cells (x1) 74)))
    else
    (∃ v15, World.cell? (World.alloc w (.cells (x1) 74)) ((⟨w.heap.size, 0, none⟩ : Addr).add 3) = some v15 ∧ ∃ x16, v15 = .int .i64 x16 ∧ if (decide ((x16 : Int) > (4611686018427387904))) = true then
    (m67_K1 R (⟨w.heap.size, 0, none⟩) (true) (World.alloc w (.cells (x1) 74)))
    else
    (∃ v17, World.cell? (World.alloc w (.cells (x1) 74)) ((⟨w.heap.size, 0, none⟩ : Addr).add 3) = some v17 ∧ ∃ x18, v17 = .int .i64 x18 ∧ ∃ v19, World.cell? (World.alloc w (.cells (x1) 74)) ((⟨w.heap.size, 0, none⟩ : Addr).add 2) = some v19 ∧ ∃ x20, v19 = .int .i64 x20 ∧ m67_K1 R (⟨w.heap.size, 0, none⟩) (decide ((x18 : Int) ≥ (IntKind.i64.wrap ((x20 : Int) + (1099511627776))))) (World.alloc w (.cells (x1) 74)))))

theorem e67 (R : Ending → World → Prop) (x1 : Array Value) (w : World) : bodyP Tryz.prog T B (drawP Tryz.prog T B) m67_A Tryz.f67 [.agg (x1)] w R = m67 R x1 w := by kernel_rfl
theorem c67 {R : Ending → World → Prop} (x1 : Array Value) {w : World} (h : m67 R x1 w) : Calls Tryz.prog 67 #[.agg (x1)] w R :=
  calls_of_bodyP hT hB hD Tryz.func67 (Nat.le_of_ble_eq_true (by kernel_rfl)) (by kernel_rfl) ((e67 R x1 w).symm ▸ h)

/-! ### 68 refuter/tree.measure -/
def m68_S1 : List (Nat × TK) := [(48, .int .i64)]
def m68_S3 : List (Nat × TK) := [(96, .int .i64)]
def m68_A : Nat → List (Nat × TK) × List Nat
  | 1 => (m68_S1, [1, 7, 46, 47])
  | 3 => (m68_S3, [1, 7, 11, 94, 95])
  | _ => ([], [])
def m68_K1 (R : Ending → World → Prop) (w : World) : Prop :=
    R (.returned (.tuple #[])) w

def m68_B1 (R : Ending → World → Prop) (v26A : Option Addr) (v26n : Nat) (v26c : Nat) (x27 : Addr) (x28A : Option Addr) (x28n : Nat) (x28c : Nat) (x29 : Int) (again1 : StOf m68_S1 → World → Prop) (x30 : Int) (w : World) : Prop :=
    if (decide ((x30 : Int) < (x29))) = true then
    (∃ a31, (x28A : Option Addr) = some a31 ∧ 0 ≤ (x30 : Int) ∧ (x30 : Int) < ((x28n : Nat) : Int) ∧
    ∃ v32, World.cell? w (a31.add ((x30 : Int).toNat * 1)) = some v32 ∧ ∃ x33, v32 = .int .i64 x33 ∧ ∃ Sv34 : World → Prop, Sv34 (World.drew w) ∧
    ∃ a35, some (x27) = some a35 ∧ ∃ v36, (∀ w', Sv34 w' → World.cell? w' ((a35 : Addr).add 0) = some v36) ∧ ∃ x37, v36 = .int .i64 x37 ∧ ∃ a38, (v26A : Option Addr) = some a38 ∧ 0 ≤ (x33 : Int) ∧ (x33 : Int) < ((v26n : Nat) : Int) ∧
    ∃ v39, (∀ w', Sv34 w' → World.cell? w' ((a38.add ((x33 : Int).toNat * 5) : Addr).add 0) = some v39) ∧ ∃ x40, v39 = .int .i64 x40 ∧ ∃ a41, some (x27) = some a41 ∧ (∃ u42, World.cell? (World.drew w) ((a41 : Addr).add 0) = some u42) ∧ World.frozen? (World.drew w) ((a41 : Addr).add 0) = false ∧
    ∃ Sv43 : World → Prop, Sv43 (World.setCell (World.drew w) ((a41 : Addr).add 0) (.int .i64 (IntKind.i64.wrap ((x37 : Int) + (x40))))) ∧
    ∃ Sv44 : World → Prop, Sv44 (World.drew (World.setCell (World.drew w) ((a41 : Addr).add 0) (.int .i64 (IntKind.i64.wrap ((x37 : Int) + (x40)))))) ∧
    ∃ a45, some (x27) = some a45 ∧ ∃ v46, (∀ w', Sv44 w' → World.cell? w' ((a45 : Addr).add 1) = some v46) ∧ ∃ x47, v46 = .int .i64 x47 ∧ ∃ a48, (v26A : Option Addr) = some a48 ∧ 0 ≤ (x33 : Int) ∧ (x33 : Int) < ((v26n : Nat) : Int) ∧
    ∃ v49, (∀ w', Sv44 w' → World.cell? w' ((a48.add ((x33 : Int).toNat * 5) : Addr).add 1) = some v49) ∧ ∃ x50, v49 = .int .i64 x50 ∧ ∃ a51, some (x27) = some a51 ∧ (∃ u52, World.cell? (World.drew (World.setCell (World.drew w) ((a41 : Addr).add 0) (.int .i64 (IntKind.i64.wrap ((x37 : Int) + (x40)))))) ((a51 : Addr).add 1) = some u52) ∧ World.frozen? (World.drew (World.setCell (World.drew w) ((a41 : Addr).add 0) (.int .i64 (IntKind.i64.wrap ((x37 : Int) + (x40)))))) ((a51 : Addr).add 1) = false ∧
    ∃ Sv53 : World → Prop, Sv53 (World.setCell (World.drew (World.setCell (World.drew w) ((a41 : Addr).add 0) (.int .i64 (IntKind.i64.wrap ((x37 : Int) + (x40)))))) ((a51 : Addr).add 1) (.int .i64 (IntKind.i64.wrap ((x47 : Int) + (x50))))) ∧
    ∃ s54 : StOf m68_S1, [.int .i64 (IntKind.i64.wrap ((x30 : Int) + (1)))] = encOf m68_S1 s54 ∧ again1 s54 (World.setCell (World.drew (World.setCell (World.drew w) ((a41 : Addr).add 0) (.int .i64 (IntKind.i64.wrap ((x37 : Int) + (x40)))))) ((a51 : Addr).add 1) (.int .i64 (IntKind.i64.wrap ((x47 : Int) + (x50))))))
    else
    (m68_K1 R w)

def m68_K4 (R : Ending → World → Prop) (x104 : Addr) (x105 : Int) (w : World) : Prop :=
    ∃ a106, some (x104) = some a106 ∧ ∃ v107, World.cell? w ((a106 : Addr).add 0) = some v107 ∧ ∃ x108, v107 = .int .i64 x108 ∧ ∃ a109, some (x104) = some a109 ∧ (∃ u110, World.cell? w ((a109 : Addr).add 0) = some u110) ∧ World.frozen? w ((a109 : Addr).add 0) = false ∧
    m68_K1 R (World.setCell w ((a109 : Addr).add 0) (.int .i64 (IntKind.i64.wrap ((x108 : Int) + (x105)))))

def m68_B3 (R : Ending → World → Prop) (v74A : Option Addr) (v74n : Nat) (v74c : Nat) (x75 : Addr) (x76 : Int) (x77A : Option Addr) (x77n : Nat) (x77c : Nat) (x78 : Int) (again3 : StOf m68_S3 → World → Prop) (x79 : Int) (w : World) : Prop :=
    if (decide ((x79 : Int) < (x78))) = true then
    (∃ a80, (x77A : Option Addr) = some a80 ∧ 0 ≤ (x79 : Int) ∧ (x79 : Int) < ((x77n : Nat) : Int) ∧
    ∃ v81, World.cell? w (a80.add ((x79 : Int).toNat * 1)) = some v81 ∧ ∃ x82, v81 = .int .i64 x82 ∧ ∃ Sv83 : World → Prop, Sv83 (World.drew w) ∧
    ∃ a84, some (x75) = some a84 ∧ ∃ v85, (∀ w', Sv83 w' → World.cell? w' ((a84 : Addr).add 0) = some v85) ∧ ∃ x86, v85 = .int .i64 x86 ∧ ∃ a87, (v74A : Option Addr) = some a87 ∧ 0 ≤ (x82 : Int) ∧ (x82 : Int) < ((v74n : Nat) : Int) ∧
    ∃ v88, (∀ w', Sv83 w' → World.cell? w' ((a87.add ((x82 : Int).toNat * 5) : Addr).add 0) = some v88) ∧ ∃ x89, v88 = .int .i64 x89 ∧ ∃ a90, some (x75) = some a90 ∧ (∃ u91, World.cell? (World.drew w) ((a90 : Addr).add 0) = some u91) ∧ World.frozen? (World.drew w) ((a90 : Addr).add 0) = false ∧
    ∃ Sv92 : World → Prop, Sv92 (World.setCell (World.drew w) ((a90 : Addr).add 0) (.int .i64 (if (x89 : Int) > (x86 : Int) then (x89 : Int) else (x86 : Int)))) ∧
    ∃ Sv93 : World → Prop, Sv93 (World.drew (World.setCell (World.drew w) ((a90 : Addr).add 0) (.int .i64 (if (x89 : Int) > (x86 : Int) then (x89 : Int) else (x86 : Int))))) ∧
    ∃ a94, some (x75) = some a94 ∧ ∃ v95, (∀ w', Sv93 w' → World.cell? w' ((a94 : Addr).add 1) = some v95) ∧ ∃ x96, v95 = .int .i64 x96 ∧ ∃ a97, (v74A : Option Addr) = some a97 ∧ 0 ≤ (x82 : Int) ∧ (x82 : Int) < ((v74n : Nat) : Int) ∧
    ∃ v98, (∀ w', Sv93 w' → World.cell? w' ((a97.add ((x82 : Int).toNat * 5) : Addr).add 1) = some v98) ∧ ∃ x99, v98 = .int .i64 x99 ∧ ∃ a100, some (x75) = some a100 ∧ (∃ u101, World.cell? (World.drew (World.setCell (World.drew w) ((a90 : Addr).add 0) (.int .i64 (if (x89 : Int) > (x86 : Int) then (x89 : Int) else (x86 : Int))))) ((a100 : Addr).add 1) = some u101) ∧ World.frozen? (World.drew (World.setCell (World.drew w) ((a90 : Addr).add 0) (.int .i64 (if (x89 : Int) > (x86 : Int) then (x89 : Int) else (x86 : Int))))) ((a100 : Addr).add 1) = false ∧
    ∃ Sv102 : World → Prop, Sv102 (World.setCell (World.drew (World.setCell (World.drew w) ((a90 : Addr).add 0) (.int .i64 (if (x89 : Int) > (x86 : Int) then (x89 : Int) else (x86 : Int))))) ((a100 : Addr).add 1) (.int .i64 (if (x99 : Int) > (x96 : Int) then (x99 : Int) else (x96 : Int)))) ∧
    ∃ s103 : StOf m68_S3, [.int .i64 (IntKind.i64.wrap ((x79 : Int) + (1)))] = encOf m68_S3 s103 ∧ again3 s103 (World.setCell (World.drew (World.setCell (World.drew w) ((a90 : Addr).add 0) (.int .i64 (if (x89 : Int) > (x86 : Int) then (x89 : Int) else (x86 : Int))))) ((a100 : Addr).add 1) (.int .i64 (if (x99 : Int) > (x96 : Int) then (x99 : Int) else (x96 : Int)))))
    else
    (m68_K4 R (x75) (x76) w)

def m68_K3 (R : Ending → World → Prop) (v70A : Option Addr) (v70n : Nat) (v70c : Nat) (x71 : Addr) (x72A : Option Addr) (x72n : Nat) (x72c : Nat) (x73 : Int) (w : World) : Prop :=
    ∃ s111 : StOf m68_S3, [.int .i64 (0)] = encOf m68_S3 s111 ∧ LoopP (fun again s wl => ∀ _r : Env, m68_B3 R (v70A) (v70n) (v70c) (x71) (x73) (x72A) (x72n) (x72c) (((x72n : Nat) : Int)) again (s.1) wl) s111 w

def m68_K2 (R : Ending → World → Prop) (v56A : Option Addr) (v56n : Nat) (v56c : Nat) (x57 : Addr) (x58 : Addr) (x59 : Bool) (w : World) : Prop :=
    if (x59) = true then
    (∃ v60, World.cell? w ((x57 : Addr).add 7) = some v60 ∧ ∃ x61A x61n x61c, v60 = .slice x61A x61n x61c ∧ ∃ v62, World.cell? w ((x57 : Addr).add 0) = some v62 ∧ ∃ x63, v62 = .int .i64 x63 ∧ if ((x63 : Int) == (4)) = true then
    (∃ a64, (x61A : Option Addr) = some a64 ∧ 0 ≤ (0 : Int) ∧ (0 : Int) < ((x61n : Nat) : Int) ∧
    ∃ v65, World.cell? w (a64.add ((0 : Int).toNat * 1)) = some v65 ∧ ∃ x66, v65 = .int .i64 x66 ∧ ∃ a67, (v56A : Option Addr) = some a67 ∧ 0 ≤ (x66 : Int) ∧ (x66 : Int) < ((v56n : Nat) : Int) ∧
    ∃ v68, World.cell? w ((a67.add ((x66 : Int).toNat * 5) : Addr).add 0) = some v68 ∧ ∃ x69, v68 = .int .i64 x69 ∧ 0 ≤ (1 : Int) ∧ (1 : Int) ≤ ((x61n : Nat) : Int) ∧ m68_K3 R (v56A) (v56n) (v56c) (x58) (sliceAddr (x61A) ((1 : Int).toNat) (x61c) 1) ((x61n) - ((1 : Int).toNat)) ((x61c) - ((1 : Int).toNat)) (x69) w)
    else
    (m68_K3 R (v56A) (v56n) (v56c) (x58) (x61A) (x61n) (x61c) (1) w))
    else
    (m68_K1 R w)

def m68 (R : Ending → World → Prop) (GoCodetoArray1 : Array Value) (v2A : Option Addr) (v2n : Nat) (v2c : Nat) (x3 : Int) (w : World) : Prop :=
    ∃ v4, World.cell? (World.alloc w (.cells (GoCodetoArray1) 40)) ((⟨w.heap.size, 0, none⟩ : Addr).add 0) = some v4 ∧ ∃ x5A x5n x5c, v4 = .slice x5A x5n x5c ∧ ∃ a6, (x5A : Option Addr) = some a6 ∧ 0 ≤ (x3 : Int) ∧ (x3 : Int) < ((x5n : Nat) : Int) ∧
    ∃ x7 : Array Value, x7.size = 12 ∧ CellsAt (World.alloc w (.cells (GoCodetoArray1) 40)) (a6.add ((x3 : Int).toNat * 12)) x7 ∧
    (x7 : Array Value).size = 12 ∧ RunU Tryz.prog (storeCells (⟨(World.alloc w (.cells (GoCodetoArray1) 40)).heap.size, 0, none⟩) (x7 : Array Value).toList) (World.alloc (World.alloc w (.cells (GoCodetoArray1) 40)) (.cells (#[.int .i64 0, .string ⟨#[]⟩, .int .i64 0, .int .i64 0, .slice none 0 0, .slice none 0 0, .slice none 0 0, .slice none 0 0, .int .i64 0, .int .i64 0, .string ⟨#[]⟩, .slice none 0 0]) 74)) fun wv8 =>
    ∃ a9, (v2A : Option Addr) = some a9 ∧ 0 ≤ (x3 : Int) ∧ (x3 : Int) < ((v2n : Nat) : Int) ∧
    ∃ v10, World.cell? wv8 ((⟨(World.alloc w (.cells (GoCodetoArray1) 40)).heap.size, 0, none⟩ : Addr).add 0) = some v10 ∧ ∃ x11, v10 = .int .i64 x11 ∧ if ((x11 : Int) == (0)) = true then
    (∃ x12 : Array Value, x12.size = 4 ∧ CellsAt wv8 ((⟨(World.alloc w (.cells (GoCodetoArray1) 40)).heap.size, 0, none⟩ : Addr).add 8) x12 ∧
    Calls Tryz.prog 121 #[.agg (x12)] wv8 (Ret (fun r13 wv14 =>
    ∃ x15, r13 = .int .i64 x15 ∧ ∃ a16, some (a9.add ((x3 : Int).toNat * 5)) = some a16 ∧ (∃ u17, World.cell? wv14 ((a16 : Addr).add 1) = some u17) ∧ World.frozen? wv14 ((a16 : Addr).add 1) = false ∧
    m68_K1 R (World.setCell wv14 ((a16 : Addr).add 1) (.int .i64 (x15)))) (fun ch w => R (.panicked ch) w)))
    else
    (if ((x11 : Int) == (1)) = true then
    (∃ a18, some (a9.add ((x3 : Int).toNat * 5)) = some a18 ∧ (∃ u19, World.cell? wv8 ((a18 : Addr).add 0) = some u19) ∧ World.frozen? wv8 ((a18 : Addr).add 0) = false ∧
    ∃ a20, some (a9.add ((x3 : Int).toNat * 5)) = some a20 ∧ (∃ u21, World.cell? (World.setCell wv8 ((a18 : Addr).add 0) (.int .i64 (1))) ((a20 : Addr).add 1) = some u21) ∧ World.frozen? (World.setCell wv8 ((a18 : Addr).add 0) (.int .i64 (1))) ((a20 : Addr).add 1) = false ∧
    m68_K1 R (World.setCell (World.setCell wv8 ((a18 : Addr).add 0) (.int .i64 (1))) ((a20 : Addr).add 1) (.int .i64 (1))))
    else
    (if ((x11 : Int) == (3)) = true then
    (∃ a22, some (a9.add ((x3 : Int).toNat * 5)) = some a22 ∧ (∃ u23, World.cell? wv8 ((a22 : Addr).add 1) = some u23) ∧ World.frozen? wv8 ((a22 : Addr).add 1) = false ∧
    ∃ v24, World.cell? (World.setCell wv8 ((a22 : Addr).add 1) (.int .i64 (1))) ((⟨(World.alloc w (.cells (GoCodetoArray1) 40)).heap.size, 0, none⟩ : Addr).add 7) = some v24 ∧ ∃ x25A x25n x25c, v24 = .slice x25A x25n x25c ∧ ∃ s55 : StOf m68_S1, [.int .i64 (0)] = encOf m68_S1 s55 ∧ LoopP (fun again s wl => ∀ _r : Env, m68_B1 R (v2A) (v2n) (v2c) (a9.add ((x3 : Int).toNat * 5)) (x25A) (x25n) (x25c) (((x25n : Nat) : Int)) again (s.1) wl) s55 (World.setCell wv8 ((a22 : Addr).add 1) (.int .i64 (1))))
    else
    (if ((x11 : Int) == (2)) = true then
    (m68_K2 R (v2A) (v2n) (v2c) (⟨(World.alloc w (.cells (GoCodetoArray1) 40)).heap.size, 0, none⟩) (a9.add ((x3 : Int).toNat * 5)) (true) wv8)
    else
    (m68_K2 R (v2A) (v2n) (v2c) (⟨(World.alloc w (.cells (GoCodetoArray1) 40)).heap.size, 0, none⟩) (a9.add ((x3 : Int).toNat * 5)) ((x11 : Int) == (4)) wv8))))

theorem e68 (R : Ending → World → Prop) (GoCodetoArray1 : Array Value) (v2A : Option Addr) (v2n : Nat) (v2c : Nat) (x3 : Int) (w : World) : bodyP Tryz.prog T B (drawP Tryz.prog T B) m68_A Tryz.f68 [.agg (GoCodetoArray1), .slice (v2A) (v2n) (v2c), .int .i64 (x3)] w R = m68 R GoCodetoArray1 v2A v2n v2c x3 w := by kernel_rfl
theorem c68 {R : Ending → World → Prop} (GoCodetoArray1 : Array Value) (v2A : Option Addr) (v2n : Nat) (v2c : Nat) (x3 : Int) {w : World} (h : m68 R GoCodetoArray1 v2A v2n v2c x3 w) : Calls Tryz.prog 68 #[.agg (GoCodetoArray1), .slice (v2A) (v2n) (v2c), .int .i64 (x3)] w R :=
  calls_of_bodyP hT hB hD Tryz.func68 (Nat.le_of_ble_eq_true (by kernel_rfl)) (by kernel_rfl) ((e68 R GoCodetoArray1 v2A v2n v2c x3 w).symm ▸ h)

/-! ### 110 refuter/tree.zero -/
def m110_A : Nat → List (Nat × TK) × List Nat
  | _ => ([], [])
def m110 (R : Ending → World → Prop) (v1 : Array Value) (w : World) : Prop :=
    ∃ v2, World.cell? (World.alloc w (.cells (v1) 45)) ((⟨w.heap.size, 0, none⟩ : Addr).add 0) = some v2 ∧ ∃ x3, v2 = .int .i64 x3 ∧ if ((x3 : Int) == (0)) = true then
    (∃ v4, World.cell? (World.alloc w (.cells (v1) 45)) ((⟨w.heap.size, 0, none⟩ : Addr).add 1) = some v4 ∧ ∃ x5, v4 = .int .i64 x5 ∧ if ((x5 : Int) == (0)) = true then
    (∃ v6, World.cell? (World.alloc w (.cells (v1) 45)) ((⟨w.heap.size, 0, none⟩ : Addr).add 2) = some v6 ∧ ∃ x7, v6 = .string x7 ∧ if ((x7 : ByteArray).toList == (⟨#[]⟩ : ByteArray).toList) = true then
    (∃ v8, World.cell? (World.alloc w (.cells (v1) 45)) ((⟨w.heap.size, 0, none⟩ : Addr).add 3) = some v8 ∧ ∃ x9A x9n x9c, v8 = .slice x9A x9n x9c ∧ R (.returned (.bool ((((x9n : Nat) : Int) : Int) == (0)) : Value)) (World.alloc w (.cells (v1) 45)))
    else
    (R (.returned (.bool (false) : Value)) (World.alloc w (.cells (v1) 45))))
    else
    (R (.returned (.bool (false) : Value)) (World.alloc w (.cells (v1) 45))))
    else
    (R (.returned (.bool (false) : Value)) (World.alloc w (.cells (v1) 45)))

theorem e110 (R : Ending → World → Prop) (v1 : Array Value) (w : World) : bodyP Tryz.prog T B (drawP Tryz.prog T B) m110_A Tryz.f110 [.agg (v1)] w R = m110 R v1 w := by kernel_rfl
theorem c110 {R : Ending → World → Prop} (v1 : Array Value) {w : World} (h : m110 R v1 w) : Calls Tryz.prog 110 #[.agg (v1)] w R :=
  calls_of_bodyP hT hB hD Tryz.func110 (Nat.le_of_ble_eq_true (by kernel_rfl)) (by kernel_rfl) ((e110 R v1 w).symm ▸ h)

/-! ### 111 slices.ContainsFunc[[]int,int] -/
def m111_A : Nat → List (Nat × TK) × List Nat
  | _ => ([], [])
def m111 (R : Ending → World → Prop) (s1A : Option Addr) (s1n : Nat) (s1c : Nat) (f2g : Nat) (f2f : Array Value) (f2c : Array Value) (w : World) : Prop :=
    Calls Tryz.prog 164 #[.slice (s1A) (s1n) (s1c), .func (.func (f2g)) (f2f) (f2c)] w (Ret (fun r3 wv4 =>
    ∃ x5, r3 = .int .i64 x5 ∧ R (.returned (.bool (decide ((x5 : Int) ≥ (0))) : Value)) wv4) (fun ch w => R (.panicked ch) w))

theorem e111 (R : Ending → World → Prop) (s1A : Option Addr) (s1n : Nat) (s1c : Nat) (f2g : Nat) (f2f : Array Value) (f2c : Array Value) (w : World) : bodyP Tryz.prog T B (drawP Tryz.prog T B) m111_A Tryz.f111 [.slice (s1A) (s1n) (s1c), .func (.func (f2g)) (f2f) (f2c)] w R = m111 R s1A s1n s1c f2g f2f f2c w := by kernel_rfl
theorem c111 {R : Ending → World → Prop} (s1A : Option Addr) (s1n : Nat) (s1c : Nat) (f2g : Nat) (f2f : Array Value) (f2c : Array Value) {w : World} (h : m111 R s1A s1n s1c f2g f2f f2c w) : Calls Tryz.prog 111 #[.slice (s1A) (s1n) (s1c), .func (.func (f2g)) (f2f) (f2c)] w R :=
  calls_of_bodyP hT hB hD Tryz.func111 (Nat.le_of_ble_eq_true (by kernel_rfl)) (by kernel_rfl) ((e111 R s1A s1n s1c f2g f2f f2c w).symm ▸ h)

/-! ### 112 refuter/tree.formed$1 -/
def m112_A : Nat → List (Nat × TK) × List Nat
  | _ => ([], [])
def m112 (R : Ending → World → Prop) (k1 : Int) (cap2 : Addr) (w : World) : Prop :=
    if (decide ((k1 : Int) < (0))) = true then
    (R (.returned (.bool (true) : Value)) w)
    else
    (∃ v3, World.cell? w (cap2) = some v3 ∧ ∃ x4, v3 = .int .i64 x4 ∧ R (.returned (.bool (decide ((k1 : Int) ≥ (x4))) : Value)) w)

theorem e112 (R : Ending → World → Prop) (k1 : Int) (cap2 : Addr) (w : World) : bodyP Tryz.prog T B (drawP Tryz.prog T B) m112_A Tryz.f112 [.int .i64 (k1), .pointer (some (cap2))] w R = m112 R k1 cap2 w := by kernel_rfl
theorem c112 {R : Ending → World → Prop} (k1 : Int) (cap2 : Addr) {w : World} (h : m112 R k1 cap2 w) : Calls Tryz.prog 112 #[.int .i64 (k1), .pointer (some (cap2))] w R :=
  calls_of_bodyP hT hB hD Tryz.func112 (Nat.le_of_ble_eq_true (by kernel_rfl)) (by kernel_rfl) ((e112 R k1 cap2 w).symm ▸ h)

/-! ### 122 refuter/tree.inRange$1 -/
def m122_A : Nat → List (Nat × TK) × List Nat
  | _ => ([], [])
def m122 (R : Ending → World → Prop) (wv1 : Int) (w : World) : Prop :=
    if (decide ((wv1 : Int) < (1))) = true then
    (R (.returned (.bool (true) : Value)) w)
    else
    (R (.returned (.bool (decide ((wv1 : Int) > (1000))) : Value)) w)

theorem e122 (R : Ending → World → Prop) (wv1 : Int) (w : World) : bodyP Tryz.prog T B (drawP Tryz.prog T B) m122_A Tryz.f122 [.int .i64 (wv1)] w R = m122 R wv1 w := by kernel_rfl
theorem c122 {R : Ending → World → Prop} (wv1 : Int) {w : World} (h : m122 R wv1 w) : Calls Tryz.prog 122 #[.int .i64 (wv1)] w R :=
  calls_of_bodyP hT hB hD Tryz.func122 (Nat.le_of_ble_eq_true (by kernel_rfl)) (by kernel_rfl) ((e122 R wv1 w).symm ▸ h)

/-! ### 164 slices.IndexFunc[[]int,int] -/
def m164_S0 : List (Nat × TK) := [(8, .int .i64)]
def m164_A : Nat → List (Nat × TK) × List Nat
  | 0 => (m164_S0, [0, 1, 7])
  | _ => ([], [])
def m164_K1 (R : Ending → World → Prop) (w : World) : Prop :=
    R (.returned (.int .i64 (-1) : Value)) w

def m164_B0 (R : Ending → World → Prop) (s3A : Option Addr) (s3n : Nat) (s3c : Nat) (f4g : Nat) (f4f : Array Value) (f4c : Array Value) (v5 : Int) (again0 : StOf m164_S0 → World → Prop) (v6 : Int) (w : World) : Prop :=
    if (decide ((v6 : Int) < (v5))) = true then
    (∃ a7, (s3A : Option Addr) = some a7 ∧ 0 ≤ (v6 : Int) ∧ (v6 : Int) < ((s3n : Nat) : Int) ∧
    ∃ v8, World.cell? w (a7.add ((v6 : Int).toNat * 1)) = some v8 ∧ ∃ x9, v8 = .int .i64 x9 ∧ B f4g = true ∧ Calls Tryz.prog f4g (callV f4f [.int .i64 (x9)] f4c) w (Ret (fun r10 wv11 =>
    ∃ x12, r10 = .bool x12 ∧ if (x12) = true then
    (R (.returned (.int .i64 (v6) : Value)) wv11)
    else
    (∃ s13 : StOf m164_S0, [.int .i64 (IntKind.i64.wrap ((v6 : Int) + (1)))] = encOf m164_S0 s13 ∧ again0 s13 wv11)) (fun ch w => R (.panicked ch) w)))
    else
    (m164_K1 R w)

def m164 (R : Ending → World → Prop) (s1A : Option Addr) (s1n : Nat) (s1c : Nat) (f2g : Nat) (f2f : Array Value) (f2c : Array Value) (w : World) : Prop :=
    ∃ s14 : StOf m164_S0, [.int .i64 (0)] = encOf m164_S0 s14 ∧ LoopP (fun again s wl => ∀ _r : Env, m164_B0 R (s1A) (s1n) (s1c) (f2g) (f2f) (f2c) (((s1n : Nat) : Int)) again (s.1) wl) s14 w

theorem e164 (R : Ending → World → Prop) (s1A : Option Addr) (s1n : Nat) (s1c : Nat) (f2g : Nat) (f2f : Array Value) (f2c : Array Value) (w : World) : bodyP Tryz.prog T B (drawP Tryz.prog T B) m164_A Tryz.f164 [.slice (s1A) (s1n) (s1c), .func (.func (f2g)) (f2f) (f2c)] w R = m164 R s1A s1n s1c f2g f2f f2c w := by kernel_rfl
theorem c164 {R : Ending → World → Prop} (s1A : Option Addr) (s1n : Nat) (s1c : Nat) (f2g : Nat) (f2f : Array Value) (f2c : Array Value) {w : World} (h : m164 R s1A s1n s1c f2g f2f f2c w) : Calls Tryz.prog 164 #[.slice (s1A) (s1n) (s1c), .func (.func (f2g)) (f2f) (f2c)] w R :=
  calls_of_bodyP hT hB hD Tryz.func164 (Nat.le_of_ble_eq_true (by kernel_rfl)) (by kernel_rfl) ((e164 R s1A s1n s1c f2g f2f f2c w).symm ▸ h)

end Go.Proofs.YtilacabmbjephaaGreatDoor
