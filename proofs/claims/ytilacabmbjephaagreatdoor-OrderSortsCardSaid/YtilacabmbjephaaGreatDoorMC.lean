/- Mirrors of Go functions and their links to the evaluator; printed by wip/mir.py. -/
import Derived.Test.YtilacabmbjephaaGreatDoorGxT
namespace Go.Proofs.YtilacabmbjephaaGreatDoor
open Go Go.GX
set_option linter.unusedVariables false
set_option maxRecDepth 100000

/-! ### 35 slices.SortFunc[[][]int,[]int] -/
def m35_A : Nat → List (Nat × TK) × List Nat
  | _ => ([], [])
def m35 (R : Ending → World → Prop) (x1A : Option Addr) (x1n : Nat) (x1c : Nat) (cmp2g : Nat) (cmp2f : Array Value) (cmp2c : Array Value) (w : World) : Prop :=
    RunV Tryz.prog (convert 3 87 (.int .i64 (((x1n : Nat) : Int)) : Value)) w fun r3 wv4 =>
    ∃ x5, r3 = .int .u64 x5 ∧ Calls Tryz.prog 57 #[.int .u64 (x5)] wv4 (Ret (fun r6 wv7 =>
    ∃ x8, r6 = .int .i64 x8 ∧ Calls Tryz.prog 56 #[.slice (x1A) (x1n) (x1c), .int .i64 (0), .int .i64 (((x1n : Nat) : Int)), .int .i64 (x8), .func (.func (cmp2g)) (cmp2f) (cmp2c)] wv7 (Ret (fun r9 wv10 =>
    R (.returned (.tuple #[])) wv10) (fun ch w => R (.panicked ch) w))) (fun ch w => R (.panicked ch) w))

theorem e35 (R : Ending → World → Prop) (x1A : Option Addr) (x1n : Nat) (x1c : Nat) (cmp2g : Nat) (cmp2f : Array Value) (cmp2c : Array Value) (w : World) : bodyP Tryz.prog T B (drawP Tryz.prog T B) m35_A Tryz.f35 [.slice (x1A) (x1n) (x1c), .func (.func (cmp2g)) (cmp2f) (cmp2c)] w R = m35 R x1A x1n x1c cmp2g cmp2f cmp2c w := by kernel_rfl
theorem c35 {R : Ending → World → Prop} (x1A : Option Addr) (x1n : Nat) (x1c : Nat) (cmp2g : Nat) (cmp2f : Array Value) (cmp2c : Array Value) {w : World} (h : m35 R x1A x1n x1c cmp2g cmp2f cmp2c w) : Calls Tryz.prog 35 #[.slice (x1A) (x1n) (x1c), .func (.func (cmp2g)) (cmp2f) (cmp2c)] w R :=
  calls_of_bodyP hT hB hD Tryz.func35 (Nat.le_of_ble_eq_true (by kernel_rfl)) (by kernel_rfl) ((e35 R x1A x1n x1c cmp2g cmp2f cmp2c w).symm ▸ h)

/-! ### 56 slices.pdqsortCmpFunc[[]int] -/
def m56_S0 : List (Nat × TK) := [(1, .int .i64), (2, .int .i64), (3, .int .i64), (10, .bool), (11, .bool)]
def m56_A : Nat → List (Nat × TK) × List Nat
  | 0 => (m56_S0, [0, 4])
  | _ => ([], [])
def m56_K5 (R : Ending → World → Prop) (again0 : StOf m56_S0 → World → Prop) (GoCodetoArray77A : Option Addr) (GoCodetoArray77n : Nat) (GoCodetoArray77c : Nat) (v78 : Int) (x79 : Int) (x80 : Int) (x81g : Nat) (x81f : Array Value) (x81c : Array Value) (x82 : Bool) (x83 : Bool) (x84 : Int) (x85 : Int) (x86 : Bool) (w : World) : Prop :=
    if (x86) = true then
    (Calls Tryz.prog 94 #[.slice (GoCodetoArray77A) (GoCodetoArray77n) (GoCodetoArray77c), .int .i64 (v78), .int .i64 (x79), .int .i64 (x85), .func (.func (x81g)) (x81f) (x81c)] w (Ret (fun r87 wv88 =>
    ∃ x89, r87 = .int .i64 x89 ∧ ∃ s90 : StOf m56_S0, [.int .i64 (x89), .int .i64 (x79), .int .i64 (x80), .bool (x82), .bool (x83)] = encOf m56_S0 s90 ∧ again0 s90 wv88) (fun ch w => R (.panicked ch) w)))
    else
    (Calls Tryz.prog 95 #[.slice (GoCodetoArray77A) (GoCodetoArray77n) (GoCodetoArray77c), .int .i64 (v78), .int .i64 (x79), .int .i64 (x85), .func (.func (x81g)) (x81f) (x81c)] w (Ret (fun r91 wv92 =>
    ∃ x93 x94, r91 = .tuple #[x93, x94] ∧ ∃ x95, x93 = .int .i64 x95 ∧ ∃ x96, x94 = .bool x96 ∧ (8 : Int) ≠ 0 ∧ if (decide ((IntKind.i64.wrap ((x95 : Int) - (v78)) : Int) < (IntKind.i64.wrap ((x79 : Int) - (x95))))) = true then
    (Calls Tryz.prog 56 #[.slice (GoCodetoArray77A) (GoCodetoArray77n) (GoCodetoArray77c), .int .i64 (v78), .int .i64 (x95), .int .i64 (x80), .func (.func (x81g)) (x81f) (x81c)] wv92 (Ret (fun r97 wv98 =>
    ∃ s99 : StOf m56_S0, [.int .i64 (IntKind.i64.wrap ((x95 : Int) + (1))), .int .i64 (x79), .int .i64 (x80), .bool (decide ((IntKind.i64.wrap ((x95 : Int) - (v78)) : Int) ≥ (IntKind.i64.wrap ((x84 : Int).tdiv (8))))), .bool (x96)] = encOf m56_S0 s99 ∧ again0 s99 wv98) (fun ch w => R (.panicked ch) w)))
    else
    (Calls Tryz.prog 56 #[.slice (GoCodetoArray77A) (GoCodetoArray77n) (GoCodetoArray77c), .int .i64 (IntKind.i64.wrap ((x95 : Int) + (1))), .int .i64 (x79), .int .i64 (x80), .func (.func (x81g)) (x81f) (x81c)] wv92 (Ret (fun r100 wv101 =>
    ∃ s102 : StOf m56_S0, [.int .i64 (v78), .int .i64 (x95), .int .i64 (x80), .bool (decide ((IntKind.i64.wrap ((x79 : Int) - (x95)) : Int) ≥ (IntKind.i64.wrap ((x84 : Int).tdiv (8))))), .bool (x96)] = encOf m56_S0 s102 ∧ again0 s102 wv101) (fun ch w => R (.panicked ch) w)))) (fun ch w => R (.panicked ch) w)))

def m56_K3 (R : Ending → World → Prop) (again0 : StOf m56_S0 → World → Prop) (GoCodetoArray58A : Option Addr) (GoCodetoArray58n : Nat) (GoCodetoArray58c : Nat) (v59 : Int) (x60 : Int) (x61 : Int) (x62g : Nat) (x62f : Array Value) (x62c : Array Value) (x63 : Bool) (x64 : Bool) (x65 : Int) (x66 : Int) (w : World) : Prop :=
    ∃ Sv67 : World → Prop, Sv67 (World.drew w) ∧
    if (decide ((v59 : Int) > (0))) = true then
    (∃ a68, (GoCodetoArray58A : Option Addr) = some a68 ∧ 0 ≤ (IntKind.i64.wrap ((v59 : Int) - (1)) : Int) ∧ (IntKind.i64.wrap ((v59 : Int) - (1)) : Int) < ((GoCodetoArray58n : Nat) : Int) ∧
    ∃ v69, (∀ w', Sv67 w' → World.cell? w' (a68.add ((IntKind.i64.wrap ((v59 : Int) - (1)) : Int).toNat * 1)) = some v69) ∧ ∃ x70A x70n x70c, v69 = .slice x70A x70n x70c ∧ ∃ a71, (GoCodetoArray58A : Option Addr) = some a71 ∧ 0 ≤ (x66 : Int) ∧ (x66 : Int) < ((GoCodetoArray58n : Nat) : Int) ∧
    ∃ v72, (∀ w', Sv67 w' → World.cell? w' (a71.add ((x66 : Int).toNat * 1)) = some v72) ∧ ∃ x73A x73n x73c, v72 = .slice x73A x73n x73c ∧ B x62g = true ∧ Calls Tryz.prog x62g (callV x62f [.slice (x70A) (x70n) (x70c), .slice (x73A) (x73n) (x73c)] x62c) (World.drew w) (Ret (fun r74 wv75 =>
    ∃ x76, r74 = .int .i64 x76 ∧ Sv67 wv75 ∧
    m56_K5 R again0 (GoCodetoArray58A) (GoCodetoArray58n) (GoCodetoArray58c) (v59) (x60) (x61) (x62g) (x62f) (x62c) (x63) (x64) (x65) (x66) (!(decide ((x76 : Int) < (0)) : Bool)) wv75) (fun ch w => R (.panicked ch) w)))
    else
    (m56_K5 R again0 (GoCodetoArray58A) (GoCodetoArray58n) (GoCodetoArray58c) (v59) (x60) (x61) (x62g) (x62f) (x62c) (x63) (x64) (x65) (x66) (false) (World.drew w))

def m56_K4 (R : Ending → World → Prop) (again0 : StOf m56_S0 → World → Prop) (GoCodetoArray45A : Option Addr) (GoCodetoArray45n : Nat) (GoCodetoArray45c : Nat) (v46 : Int) (x47 : Int) (x48 : Int) (x49g : Nat) (x49f : Array Value) (x49c : Array Value) (x50 : Bool) (x51 : Bool) (x52 : Int) (x53 : Int) (x54 : Bool) (w : World) : Prop :=
    if (x54) = true then
    (Calls Tryz.prog 93 #[.slice (GoCodetoArray45A) (GoCodetoArray45n) (GoCodetoArray45c), .int .i64 (v46), .int .i64 (x47), .func (.func (x49g)) (x49f) (x49c)] w (Ret (fun r55 wv56 =>
    ∃ x57, r55 = .bool x57 ∧ if (x57) = true then
    (R (.returned (.tuple #[])) wv56)
    else
    (m56_K3 R again0 (GoCodetoArray45A) (GoCodetoArray45n) (GoCodetoArray45c) (v46) (x47) (x48) (x49g) (x49f) (x49c) (x50) (x51) (x52) (x53) wv56)) (fun ch w => R (.panicked ch) w)))
    else
    (m56_K3 R again0 (GoCodetoArray45A) (GoCodetoArray45n) (GoCodetoArray45c) (v46) (x47) (x48) (x49g) (x49f) (x49c) (x50) (x51) (x52) (x53) w)

def m56_K2 (R : Ending → World → Prop) (again0 : StOf m56_S0 → World → Prop) (GoCodetoArray35A : Option Addr) (GoCodetoArray35n : Nat) (GoCodetoArray35c : Nat) (v36 : Int) (x37 : Int) (x38 : Int) (x39g : Nat) (x39f : Array Value) (x39c : Array Value) (x40 : Bool) (x41 : Bool) (x42 : Int) (x43 : Int) (x44 : Int) (w : World) : Prop :=
    if (x40) = true then
    (if (x41) = true then
    (m56_K4 R again0 (GoCodetoArray35A) (GoCodetoArray35n) (GoCodetoArray35c) (v36) (x37) (x38) (x39g) (x39f) (x39c) (x40) (x41) (x42) (x43) ((x44 : Int) == (1)) w)
    else
    (m56_K4 R again0 (GoCodetoArray35A) (GoCodetoArray35n) (GoCodetoArray35c) (v36) (x37) (x38) (x39g) (x39f) (x39c) (x40) (x41) (x42) (x43) (false) w))
    else
    (m56_K4 R again0 (GoCodetoArray35A) (GoCodetoArray35n) (GoCodetoArray35c) (v36) (x37) (x38) (x39g) (x39f) (x39c) (x40) (x41) (x42) (x43) (false) w)

def m56_K1 (R : Ending → World → Prop) (again0 : StOf m56_S0 → World → Prop) (GoCodetoArray19A : Option Addr) (GoCodetoArray19n : Nat) (GoCodetoArray19c : Nat) (v20 : Int) (x21 : Int) (x22 : Int) (x23g : Nat) (x23f : Array Value) (x23c : Array Value) (x24 : Bool) (x25 : Bool) (x26 : Int) (w : World) : Prop :=
    Calls Tryz.prog 91 #[.slice (GoCodetoArray19A) (GoCodetoArray19n) (GoCodetoArray19c), .int .i64 (v20), .int .i64 (x21), .func (.func (x23g)) (x23f) (x23c)] w (Ret (fun r27 wv28 =>
    ∃ x29 x30, r27 = .tuple #[x29, x30] ∧ ∃ x31, x29 = .int .i64 x31 ∧ ∃ x32, x30 = .int .i64 x32 ∧ if ((x32 : Int) == (2)) = true then
    (Calls Tryz.prog 92 #[.slice (GoCodetoArray19A) (GoCodetoArray19n) (GoCodetoArray19c), .int .i64 (v20), .int .i64 (x21), .func (.func (x23g)) (x23f) (x23c)] wv28 (Ret (fun r33 wv34 =>
    m56_K2 R again0 (GoCodetoArray19A) (GoCodetoArray19n) (GoCodetoArray19c) (v20) (x21) (x22) (x23g) (x23f) (x23c) (x24) (x25) (x26) (IntKind.i64.wrap ((IntKind.i64.wrap ((x21 : Int) - (1)) : Int) - (IntKind.i64.wrap ((x31 : Int) - (v20))))) (1) wv34) (fun ch w => R (.panicked ch) w)))
    else
    (m56_K2 R again0 (GoCodetoArray19A) (GoCodetoArray19n) (GoCodetoArray19c) (v20) (x21) (x22) (x23g) (x23f) (x23c) (x24) (x25) (x26) (x31) (x32) wv28)) (fun ch w => R (.panicked ch) w))

def m56_B0 (R : Ending → World → Prop) (GoCodetoArray6A : Option Addr) (GoCodetoArray6n : Nat) (GoCodetoArray6c : Nat) (x7g : Nat) (x7f : Array Value) (x7c : Array Value) (again0 : StOf m56_S0 → World → Prop) (v8 : Int) (x9 : Int) (x10 : Int) (x11 : Bool) (x12 : Bool) (w : World) : Prop :=
    if (decide ((IntKind.i64.wrap ((x9 : Int) - (v8)) : Int) ≤ (12))) = true then
    (Calls Tryz.prog 88 #[.slice (GoCodetoArray6A) (GoCodetoArray6n) (GoCodetoArray6c), .int .i64 (v8), .int .i64 (x9), .func (.func (x7g)) (x7f) (x7c)] w (Ret (fun r13 wv14 =>
    R (.returned (.tuple #[])) wv14) (fun ch w => R (.panicked ch) w)))
    else
    (if ((x10 : Int) == (0)) = true then
    (Calls Tryz.prog 89 #[.slice (GoCodetoArray6A) (GoCodetoArray6n) (GoCodetoArray6c), .int .i64 (v8), .int .i64 (x9), .func (.func (x7g)) (x7f) (x7c)] w (Ret (fun r15 wv16 =>
    R (.returned (.tuple #[])) wv16) (fun ch w => R (.panicked ch) w)))
    else
    (if (!(x11 : Bool)) = true then
    (Calls Tryz.prog 90 #[.slice (GoCodetoArray6A) (GoCodetoArray6n) (GoCodetoArray6c), .int .i64 (v8), .int .i64 (x9), .func (.func (x7g)) (x7f) (x7c)] w (Ret (fun r17 wv18 =>
    m56_K1 R again0 (GoCodetoArray6A) (GoCodetoArray6n) (GoCodetoArray6c) (v8) (x9) (IntKind.i64.wrap ((x10 : Int) - (1))) (x7g) (x7f) (x7c) (x11) (x12) (IntKind.i64.wrap ((x9 : Int) - (v8))) wv18) (fun ch w => R (.panicked ch) w)))
    else
    (m56_K1 R again0 (GoCodetoArray6A) (GoCodetoArray6n) (GoCodetoArray6c) (v8) (x9) (x10) (x7g) (x7f) (x7c) (x11) (x12) (IntKind.i64.wrap ((x9 : Int) - (v8))) w)))

def m56 (R : Ending → World → Prop) (GoCodetoArray1A : Option Addr) (GoCodetoArray1n : Nat) (GoCodetoArray1c : Nat) (v2 : Int) (x3 : Int) (x4 : Int) (x5g : Nat) (x5f : Array Value) (x5c : Array Value) (w : World) : Prop :=
    ∃ s103 : StOf m56_S0, [.int .i64 (v2), .int .i64 (x3), .int .i64 (x4), .bool (true), .bool (true)] = encOf m56_S0 s103 ∧ LoopP (fun again s wl => ∀ _r : Env, m56_B0 R (GoCodetoArray1A) (GoCodetoArray1n) (GoCodetoArray1c) (x5g) (x5f) (x5c) again (s.1) (s.2.1) (s.2.2.1) (s.2.2.2.1) (s.2.2.2.2.1) wl) s103 w

theorem e56 (R : Ending → World → Prop) (GoCodetoArray1A : Option Addr) (GoCodetoArray1n : Nat) (GoCodetoArray1c : Nat) (v2 : Int) (x3 : Int) (x4 : Int) (x5g : Nat) (x5f : Array Value) (x5c : Array Value) (w : World) : bodyP Tryz.prog T B (drawP Tryz.prog T B) m56_A Tryz.f56 [.slice (GoCodetoArray1A) (GoCodetoArray1n) (GoCodetoArray1c), .int .i64 (v2), .int .i64 (x3), .int .i64 (x4), .func (.func (x5g)) (x5f) (x5c)] w R = m56 R GoCodetoArray1A GoCodetoArray1n GoCodetoArray1c v2 x3 x4 x5g x5f x5c w := by kernel_rfl
theorem c56 {R : Ending → World → Prop} (GoCodetoArray1A : Option Addr) (GoCodetoArray1n : Nat) (GoCodetoArray1c : Nat) (v2 : Int) (x3 : Int) (x4 : Int) (x5g : Nat) (x5f : Array Value) (x5c : Array Value) {w : World} (h : m56 R GoCodetoArray1A GoCodetoArray1n GoCodetoArray1c v2 x3 x4 x5g x5f x5c w) : Calls Tryz.prog 56 #[.slice (GoCodetoArray1A) (GoCodetoArray1n) (GoCodetoArray1c), .int .i64 (v2), .int .i64 (x3), .int .i64 (x4), .func (.func (x5g)) (x5f) (x5c)] w R :=
  calls_of_bodyP hT hB hD Tryz.func56 (Nat.le_of_ble_eq_true (by kernel_rfl)) (by kernel_rfl) ((e56 R GoCodetoArray1A GoCodetoArray1n GoCodetoArray1c v2 x3 x4 x5g x5f x5c w).symm ▸ h)

/-! ### 88 slices.insertionSortCmpFunc[[]int] -/
def m88_S0 : List (Nat × TK) := [(8, .int .i64)]
def m88_S2 : List (Nat × TK) := [(9, .int .i64)]
def m88_A : Nat → List (Nat × TK) × List Nat
  | 0 => (m88_S0, [0, 1, 2, 3])
  | 2 => (m88_S2, [0, 1, 2, 3, 8])
  | _ => ([], [])
def m88_K2 (R : Ending → World → Prop) (again0 : StOf m88_S0 → World → Prop) (data47A : Option Addr) (data47n : Nat) (data47c : Nat) (a48 : Int) (b49 : Int) (cmp50g : Nat) (cmp50f : Array Value) (cmp50c : Array Value) (i51 : Int) (w : World) : Prop :=
    ∃ s52 : StOf m88_S0, [.int .i64 (IntKind.i64.wrap ((i51 : Int) + (1)))] = encOf m88_S0 s52 ∧ again0 s52 w

def m88_K3 (R : Ending → World → Prop) (again0 : StOf m88_S0 → World → Prop) (again2 : StOf m88_S2 → World → Prop) (data26A : Option Addr) (data26n : Nat) (data26c : Nat) (a27 : Int) (b28 : Int) (cmp29g : Nat) (cmp29f : Array Value) (cmp29c : Array Value) (i30 : Int) (j31 : Int) (v32 : Bool) (w : World) : Prop :=
    if (v32) = true then
    (∃ Sv33 : World → Prop, Sv33 (World.drew w) ∧
    ∃ a34, (data26A : Option Addr) = some a34 ∧ 0 ≤ (IntKind.i64.wrap ((j31 : Int) - (1)) : Int) ∧ (IntKind.i64.wrap ((j31 : Int) - (1)) : Int) < ((data26n : Nat) : Int) ∧
    ∃ v35, (∀ w', Sv33 w' → World.cell? w' (a34.add ((IntKind.i64.wrap ((j31 : Int) - (1)) : Int).toNat * 1)) = some v35) ∧ ∃ x36A x36n x36c, v35 = .slice x36A x36n x36c ∧ ∃ a37, (data26A : Option Addr) = some a37 ∧ 0 ≤ (j31 : Int) ∧ (j31 : Int) < ((data26n : Nat) : Int) ∧
    ∃ v38, (∀ w', Sv33 w' → World.cell? w' (a37.add ((j31 : Int).toNat * 1)) = some v38) ∧ ∃ x39A x39n x39c, v38 = .slice x39A x39n x39c ∧ ∃ a40, (data26A : Option Addr) = some a40 ∧ 0 ≤ (j31 : Int) ∧ (j31 : Int) < ((data26n : Nat) : Int) ∧
    (∃ u41, World.cell? (World.drew w) (a40.add ((j31 : Int).toNat * 1)) = some u41) ∧ World.frozen? (World.drew w) (a40.add ((j31 : Int).toNat * 1)) = false ∧
    ∃ Sv42 : World → Prop, Sv42 (World.setCell (World.drew w) (a40.add ((j31 : Int).toNat * 1)) (.slice (x36A) (x36n) (x36c))) ∧
    ∃ a43, (data26A : Option Addr) = some a43 ∧ 0 ≤ (IntKind.i64.wrap ((j31 : Int) - (1)) : Int) ∧ (IntKind.i64.wrap ((j31 : Int) - (1)) : Int) < ((data26n : Nat) : Int) ∧
    (∃ u44, World.cell? (World.setCell (World.drew w) (a40.add ((j31 : Int).toNat * 1)) (.slice (x36A) (x36n) (x36c))) (a43.add ((IntKind.i64.wrap ((j31 : Int) - (1)) : Int).toNat * 1)) = some u44) ∧ World.frozen? (World.setCell (World.drew w) (a40.add ((j31 : Int).toNat * 1)) (.slice (x36A) (x36n) (x36c))) (a43.add ((IntKind.i64.wrap ((j31 : Int) - (1)) : Int).toNat * 1)) = false ∧
    ∃ Sv45 : World → Prop, Sv45 (World.setCell (World.setCell (World.drew w) (a40.add ((j31 : Int).toNat * 1)) (.slice (x36A) (x36n) (x36c))) (a43.add ((IntKind.i64.wrap ((j31 : Int) - (1)) : Int).toNat * 1)) (.slice (x39A) (x39n) (x39c))) ∧
    ∃ s46 : StOf m88_S2, [.int .i64 (IntKind.i64.wrap ((j31 : Int) - (1)))] = encOf m88_S2 s46 ∧ again2 s46 (World.setCell (World.setCell (World.drew w) (a40.add ((j31 : Int).toNat * 1)) (.slice (x36A) (x36n) (x36c))) (a43.add ((IntKind.i64.wrap ((j31 : Int) - (1)) : Int).toNat * 1)) (.slice (x39A) (x39n) (x39c))))
    else
    (m88_K2 R again0 (data26A) (data26n) (data26c) (a27) (b28) (cmp29g) (cmp29f) (cmp29c) (i30) w)

def m88_B2 (R : Ending → World → Prop) (again0 : StOf m88_S0 → World → Prop) (data10A : Option Addr) (data10n : Nat) (data10c : Nat) (a11 : Int) (b12 : Int) (cmp13g : Nat) (cmp13f : Array Value) (cmp13c : Array Value) (i14 : Int) (again2 : StOf m88_S2 → World → Prop) (j15 : Int) (w : World) : Prop :=
    ∃ Sv16 : World → Prop, Sv16 (World.drew w) ∧
    if (decide ((j15 : Int) > (a11))) = true then
    (∃ a17, (data10A : Option Addr) = some a17 ∧ 0 ≤ (j15 : Int) ∧ (j15 : Int) < ((data10n : Nat) : Int) ∧
    ∃ v18, (∀ w', Sv16 w' → World.cell? w' (a17.add ((j15 : Int).toNat * 1)) = some v18) ∧ ∃ x19A x19n x19c, v18 = .slice x19A x19n x19c ∧ ∃ a20, (data10A : Option Addr) = some a20 ∧ 0 ≤ (IntKind.i64.wrap ((j15 : Int) - (1)) : Int) ∧ (IntKind.i64.wrap ((j15 : Int) - (1)) : Int) < ((data10n : Nat) : Int) ∧
    ∃ v21, (∀ w', Sv16 w' → World.cell? w' (a20.add ((IntKind.i64.wrap ((j15 : Int) - (1)) : Int).toNat * 1)) = some v21) ∧ ∃ x22A x22n x22c, v21 = .slice x22A x22n x22c ∧ B cmp13g = true ∧ Calls Tryz.prog cmp13g (callV cmp13f [.slice (x19A) (x19n) (x19c), .slice (x22A) (x22n) (x22c)] cmp13c) (World.drew w) (Ret (fun r23 wv24 =>
    ∃ x25, r23 = .int .i64 x25 ∧ Sv16 wv24 ∧
    m88_K3 R again0 again2 (data10A) (data10n) (data10c) (a11) (b12) (cmp13g) (cmp13f) (cmp13c) (i14) (j15) (decide ((x25 : Int) < (0))) wv24) (fun ch w => R (.panicked ch) w)))
    else
    (m88_K3 R again0 again2 (data10A) (data10n) (data10c) (a11) (b12) (cmp13g) (cmp13f) (cmp13c) (i14) (j15) (false) (World.drew w))

def m88_K1 (R : Ending → World → Prop) (w : World) : Prop :=
    R (.returned (.tuple #[])) w

def m88_B0 (R : Ending → World → Prop) (data5A : Option Addr) (data5n : Nat) (data5c : Nat) (a6 : Int) (b7 : Int) (cmp8g : Nat) (cmp8f : Array Value) (cmp8c : Array Value) (again0 : StOf m88_S0 → World → Prop) (i9 : Int) (w : World) : Prop :=
    if (decide ((i9 : Int) < (b7))) = true then
    (∃ s53 : StOf m88_S2, [.int .i64 (i9)] = encOf m88_S2 s53 ∧ LoopP (fun again s wl => ∀ _r : Env, m88_B2 R again0 (data5A) (data5n) (data5c) (a6) (b7) (cmp8g) (cmp8f) (cmp8c) (i9) again (s.1) wl) s53 w)
    else
    (m88_K1 R w)

def m88 (R : Ending → World → Prop) (data1A : Option Addr) (data1n : Nat) (data1c : Nat) (a2 : Int) (b3 : Int) (cmp4g : Nat) (cmp4f : Array Value) (cmp4c : Array Value) (w : World) : Prop :=
    ∃ s54 : StOf m88_S0, [.int .i64 (IntKind.i64.wrap ((a2 : Int) + (1)))] = encOf m88_S0 s54 ∧ LoopP (fun again s wl => ∀ _r : Env, m88_B0 R (data1A) (data1n) (data1c) (a2) (b3) (cmp4g) (cmp4f) (cmp4c) again (s.1) wl) s54 w

theorem e88 (R : Ending → World → Prop) (data1A : Option Addr) (data1n : Nat) (data1c : Nat) (a2 : Int) (b3 : Int) (cmp4g : Nat) (cmp4f : Array Value) (cmp4c : Array Value) (w : World) : bodyP Tryz.prog T B (drawP Tryz.prog T B) m88_A Tryz.f88 [.slice (data1A) (data1n) (data1c), .int .i64 (a2), .int .i64 (b3), .func (.func (cmp4g)) (cmp4f) (cmp4c)] w R = m88 R data1A data1n data1c a2 b3 cmp4g cmp4f cmp4c w := by kernel_rfl
theorem c88 {R : Ending → World → Prop} (data1A : Option Addr) (data1n : Nat) (data1c : Nat) (a2 : Int) (b3 : Int) (cmp4g : Nat) (cmp4f : Array Value) (cmp4c : Array Value) {w : World} (h : m88 R data1A data1n data1c a2 b3 cmp4g cmp4f cmp4c w) : Calls Tryz.prog 88 #[.slice (data1A) (data1n) (data1c), .int .i64 (a2), .int .i64 (b3), .func (.func (cmp4g)) (cmp4f) (cmp4c)] w R :=
  calls_of_bodyP hT hB hD Tryz.func88 (Nat.le_of_ble_eq_true (by kernel_rfl)) (by kernel_rfl) ((e88 R data1A data1n data1c a2 b3 cmp4g cmp4f cmp4c w).symm ▸ h)

end Go.Proofs.YtilacabmbjephaaGreatDoor
