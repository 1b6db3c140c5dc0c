/- Mirrors of Go functions and their links to the evaluator; printed by wip/mir.py. -/
import Derived.Test.YtilacabmbjephaaGreatDoorGxT
namespace Go.Proofs.YtilacabmbjephaaGreatDoor
open Go Go.GX
set_option linter.unusedVariables false
set_option maxRecDepth 100000

/-! ### 3 refuter/refuterlaw21.OrderSorts -/
def m3_S0 : List (Nat × TK) := [(7, .slice 0 0), (8, .int .i64)]
def m3_S2 : List (Nat × TK) := [(10, .int .i64)]
def m3_S4 : List (Nat × TK) := [(11, .int .i64)]
def m3_A : Nat → List (Nat × TK) × List Nat
  | 0 => (m3_S0, [0, 1, 2])
  | 2 => (m3_S2, [7, 9])
  | 4 => (m3_S4, [7, 9, 10])
  | _ => ([], [])
def m3_K3 (R : Ending → World → Prop) (again2 : StOf m3_S2 → World → Prop) (x56A : Option Addr) (x56n : Nat) (x56c : Nat) (x57A : Option Addr) (x57n : Nat) (x57c : Nat) (x58 : Int) (w : World) : Prop :=
    ∃ s59 : StOf m3_S2, [.int .i64 (IntKind.i64.wrap ((x58 : Int) + (1)))] = encOf m3_S2 s59 ∧ again2 s59 w

def m3_B4 (R : Ending → World → Prop) (again2 : StOf m3_S2 → World → Prop) (x32A : Option Addr) (x32n : Nat) (x32c : Nat) (x33A : Option Addr) (x33n : Nat) (x33c : Nat) (x34 : Int) (again4 : StOf m3_S4 → World → Prop) (x35 : Int) (w : World) : Prop :=
    if (decide ((x35 : Int) < (((x32n : Nat) : Int)))) = true then
    (∃ Sv36 : World → Prop, Sv36 (World.drew w) ∧
    ∃ a37, (x32A : Option Addr) = some a37 ∧ 0 ≤ (x34 : Int) ∧ (x34 : Int) < ((x32n : Nat) : Int) ∧
    ∃ v38, (∀ w', Sv36 w' → World.cell? w' (a37.add ((x34 : Int).toNat * 1)) = some v38) ∧ ∃ x39A x39n x39c, v38 = .slice x39A x39n x39c ∧ ∃ a40, (x32A : Option Addr) = some a40 ∧ 0 ≤ (x35 : Int) ∧ (x35 : Int) < ((x32n : Nat) : Int) ∧
    ∃ v41, (∀ w', Sv36 w' → World.cell? w' (a40.add ((x35 : Int).toNat * 1)) = some v41) ∧ ∃ x42A x42n x42c, v41 = .slice x42A x42n x42c ∧ ∃ a43, (x32A : Option Addr) = some a43 ∧ 0 ≤ (x34 : Int) ∧ (x34 : Int) < ((x32n : Nat) : Int) ∧
    ∃ v44, (∀ w', Sv36 w' → World.cell? w' (a43.add ((x34 : Int).toNat * 1)) = some v44) ∧ ∃ x45A x45n x45c, v44 = .slice x45A x45n x45c ∧ ∃ a46, (x32A : Option Addr) = some a46 ∧ 0 ≤ (x35 : Int) ∧ (x35 : Int) < ((x32n : Nat) : Int) ∧
    ∃ v47, (∀ w', Sv36 w' → World.cell? w' (a46.add ((x35 : Int).toNat * 1)) = some v47) ∧ ∃ x48A x48n x48c, v47 = .slice x48A x48n x48c ∧ Calls Tryz.prog 13 #[.slice (x39A) (x39n) (x39c), .slice (x42A) (x42n) (x42c)] (World.drew w) (Ret (fun r49 wv50 =>
    ∃ x51, r49 = .int .i64 x51 ∧ Sv36 wv50 ∧
    Calls Tryz.prog 14 #[.slice (x45A) (x45n) (x45c), .slice (x48A) (x48n) (x48c)] wv50 (Ret (fun r52 wv53 =>
    ∃ x54, r52 = .int .i64 x54 ∧ Sv36 wv53 ∧
    if ((x51 : Int) != (x54)) = true then
    (R (.returned (.bool (false) : Value)) wv53)
    else
    (∃ s55 : StOf m3_S4, [.int .i64 (IntKind.i64.wrap ((x35 : Int) + (1)))] = encOf m3_S4 s55 ∧ again4 s55 wv53)) (fun ch w => R (.panicked ch) w))) (fun ch w => R (.panicked ch) w)))
    else
    (m3_K3 R again2 (x32A) (x32n) (x32c) (x33A) (x33n) (x33c) (x34) w)

def m3_K2 (R : Ending → World → Prop) (x61A : Option Addr) (x61n : Nat) (x61c : Nat) (x62A : Option Addr) (x62n : Nat) (x62c : Nat) (w : World) : Prop :=
    Calls Tryz.prog 16 #[.slice (x61A) (x61n) (x61c)] w (Ret (fun r63 wv64 =>
    ∃ x65A x65n x65c, r63 = .slice x65A x65n x65c ∧ Calls Tryz.prog 17 #[.slice (x61A) (x61n) (x61c)] wv64 (Ret (fun r66 wv67 =>
    ∃ x68A x68n x68c, r66 = .slice x68A x68n x68c ∧ Calls Tryz.prog 15 #[.slice (x65A) (x65n) (x65c), .slice (x68A) (x68n) (x68c)] wv67 (Ret (fun r69 wv70 =>
    ∃ x71, r69 = .bool x71 ∧ if (x71) = true then
    (Calls Tryz.prog 15 #[.slice (x61A) (x61n) (x61c), .slice (x62A) (x62n) (x62c)] wv70 (Ret (fun r72 wv73 =>
    ∃ x74, r72 = .bool x74 ∧ if (x74) = true then
    (Calls Tryz.prog 18 #[] wv73 (Ret (fun r75 wv76 =>
    ∃ x77, r75 = .bool x77 ∧ R (.returned (.bool (x77) : Value)) wv76) (fun ch w => R (.panicked ch) w)))
    else
    (R (.returned (.bool (false) : Value)) wv73)) (fun ch w => R (.panicked ch) w)))
    else
    (R (.returned (.bool (false) : Value)) wv70)) (fun ch w => R (.panicked ch) w))) (fun ch w => R (.panicked ch) w))) (fun ch w => R (.panicked ch) w))

def m3_B2 (R : Ending → World → Prop) (x29A : Option Addr) (x29n : Nat) (x29c : Nat) (x30A : Option Addr) (x30n : Nat) (x30c : Nat) (again2 : StOf m3_S2 → World → Prop) (x31 : Int) (w : World) : Prop :=
    if (decide ((x31 : Int) < (((x29n : Nat) : Int)))) = true then
    (∃ s60 : StOf m3_S4, [.int .i64 (0)] = encOf m3_S4 s60 ∧ LoopP (fun again s wl => ∀ _r : Env, m3_B4 R again2 (x29A) (x29n) (x29c) (x30A) (x30n) (x30c) (x31) again (s.1) wl) s60 w)
    else
    (m3_K2 R (x29A) (x29n) (x29c) (x30A) (x30n) (x30c) w)

def m3_K1 (R : Ending → World → Prop) (v20A : Option Addr) (v20n : Nat) (v20c : Nat) (x21A : Option Addr) (x21n : Nat) (x21c : Nat) (x22A : Option Addr) (x22n : Nat) (x22c : Nat) (w : World) : Prop :=
    Sized 1 [.slice (v20A) (v20n) (v20c), .slice (x21A) (x21n) (x21c), .slice (v20A) (v20n) (v20c)] ∧
    RunV Tryz.prog (Builtin.append_ #[23, 23] 23 #[.slice (x22A) (x22n) (x22c), .slice (some (⟨w.heap.size, 0, none⟩)) (3) (3)]) (World.alloc w (.cells (flat [.slice (v20A) (v20n) (v20c), .slice (x21A) (x21n) (x21c), .slice (v20A) (v20n) (v20c)]) 22)) fun r23 wv24 =>
    ∃ x25A x25n x25c, r23 = .slice x25A x25n x25c ∧ Sized 1 [] ∧
    RunV Tryz.prog (Builtin.append_ #[23, 23] 23 #[.slice (some (⟨wv24.heap.size, 0, none⟩)) (0) (0), .slice (x25A) (x25n) (x25c)]) (World.alloc wv24 (.cells (flat []) 22)) fun r26 wv27 =>
    ∃ x28A x28n x28c, r26 = .slice x28A x28n x28c ∧ ∃ s78 : StOf m3_S2, [.int .i64 (0)] = encOf m3_S2 s78 ∧ LoopP (fun again s wl => ∀ _r : Env, m3_B2 R (x25A) (x25n) (x25c) (x28A) (x28n) (x28c) again (s.1) wl) s78 wv27

def m3_B0 (R : Ending → World → Prop) (GoCodetoArray4A : Option Addr) (GoCodetoArray4n : Nat) (GoCodetoArray4c : Nat) (v5A : Option Addr) (v5n : Nat) (v5c : Nat) (x6A : Option Addr) (x6n : Nat) (x6c : Nat) (again0 : StOf m3_S0 → World → Prop) (x7A : Option Addr) (x7n : Nat) (x7c : Nat) (x8 : Int) (w : World) : Prop :=
    if (decide ((x8 : Int) < (6))) = true then
    (∃ Sv9 : World → Prop, Sv9 (World.drew w) ∧
    0 ≤ (if (IntKind.i64.wrap ((2 : Int) * (x8)) : Int) < (((GoCodetoArray4n : Nat) : Int) : Int) then (IntKind.i64.wrap ((2 : Int) * (x8)) : Int) else (((GoCodetoArray4n : Nat) : Int) : Int) : Int) ∧ (if (IntKind.i64.wrap ((2 : Int) * (x8)) : Int) < (((GoCodetoArray4n : Nat) : Int) : Int) then (IntKind.i64.wrap ((2 : Int) * (x8)) : Int) else (((GoCodetoArray4n : Nat) : Int) : Int) : Int) ≤ ((GoCodetoArray4n : Nat) : Int) ∧ Calls Tryz.prog 12 #[.slice (GoCodetoArray4A) (GoCodetoArray4n) (GoCodetoArray4c), .int .i64 (x8), .int .i64 (4)] (World.drew w) (Ret (fun r10 wv11 =>
    ∃ x12, r10 = .int .i64 x12 ∧ Sv9 wv11 ∧
    Calls Tryz.prog 11 #[.slice (sliceAddr (GoCodetoArray4A) ((if (IntKind.i64.wrap ((2 : Int) * (x8)) : Int) < (((GoCodetoArray4n : Nat) : Int) : Int) then (IntKind.i64.wrap ((2 : Int) * (x8)) : Int) else (((GoCodetoArray4n : Nat) : Int) : Int) : Int).toNat) (GoCodetoArray4c) 1) ((GoCodetoArray4n) - ((if (IntKind.i64.wrap ((2 : Int) * (x8)) : Int) < (((GoCodetoArray4n : Nat) : Int) : Int) then (IntKind.i64.wrap ((2 : Int) * (x8)) : Int) else (((GoCodetoArray4n : Nat) : Int) : Int) : Int).toNat)) ((GoCodetoArray4c) - ((if (IntKind.i64.wrap ((2 : Int) * (x8)) : Int) < (((GoCodetoArray4n : Nat) : Int) : Int) then (IntKind.i64.wrap ((2 : Int) * (x8)) : Int) else (((GoCodetoArray4n : Nat) : Int) : Int) : Int).toNat)), .int .i64 (x12)] wv11 (Ret (fun r13 wv14 =>
    ∃ x15A x15n x15c, r13 = .slice x15A x15n x15c ∧ Sv9 wv14 ∧
    Sized 1 [.slice (x15A) (x15n) (x15c)] ∧
    Sv9 (World.alloc wv14 (.cells (flat [.slice (x15A) (x15n) (x15c)]) 22)) ∧
    RunV Tryz.prog (Builtin.append_ #[23, 23] 23 #[.slice (x7A) (x7n) (x7c), .slice (some (⟨wv14.heap.size, 0, none⟩)) (1) (1)]) (World.alloc wv14 (.cells (flat [.slice (x15A) (x15n) (x15c)]) 22)) fun r16 wv17 =>
    ∃ x18A x18n x18c, r16 = .slice x18A x18n x18c ∧ Sv9 wv17 ∧
    ∃ s19 : StOf m3_S0, [.slice (x18A) (x18n) (x18c), .int .i64 (IntKind.i64.wrap ((x8 : Int) + (1)))] = encOf m3_S0 s19 ∧ again0 s19 wv17) (fun ch w => R (.panicked ch) w))) (fun ch w => R (.panicked ch) w)))
    else
    (m3_K1 R (v5A) (v5n) (v5c) (x6A) (x6n) (x6c) (x7A) (x7n) (x7c) w)

def m3 (R : Ending → World → Prop) (GoCodetoArray1A : Option Addr) (GoCodetoArray1n : Nat) (GoCodetoArray1c : Nat) (v2A : Option Addr) (v2n : Nat) (v2c : Nat) (x3A : Option Addr) (x3n : Nat) (x3c : Nat) (w : World) : Prop :=
    ∃ s79 : StOf m3_S0, [.slice (none) (0) (0), .int .i64 (0)] = encOf m3_S0 s79 ∧ LoopP (fun again s wl => ∀ _r : Env, m3_B0 R (GoCodetoArray1A) (GoCodetoArray1n) (GoCodetoArray1c) (v2A) (v2n) (v2c) (x3A) (x3n) (x3c) again (s.1.1) (s.1.2.1) (s.1.2.2) (s.2.1) wl) s79 w

theorem e3 (R : Ending → World → Prop) (GoCodetoArray1A : Option Addr) (GoCodetoArray1n : Nat) (GoCodetoArray1c : Nat) (v2A : Option Addr) (v2n : Nat) (v2c : Nat) (x3A : Option Addr) (x3n : Nat) (x3c : Nat) (w : World) : bodyP Tryz.prog T B (drawP Tryz.prog T B) m3_A Tryz.f3 [.slice (GoCodetoArray1A) (GoCodetoArray1n) (GoCodetoArray1c), .slice (v2A) (v2n) (v2c), .slice (x3A) (x3n) (x3c)] w R = m3 R GoCodetoArray1A GoCodetoArray1n GoCodetoArray1c v2A v2n v2c x3A x3n x3c w := by kernel_rfl
theorem c3 {R : Ending → World → Prop} (GoCodetoArray1A : Option Addr) (GoCodetoArray1n : Nat) (GoCodetoArray1c : Nat) (v2A : Option Addr) (v2n : Nat) (v2c : Nat) (x3A : Option Addr) (x3n : Nat) (x3c : Nat) {w : World} (h : m3 R GoCodetoArray1A GoCodetoArray1n GoCodetoArray1c v2A v2n v2c x3A x3n x3c w) : Calls Tryz.prog 3 #[.slice (GoCodetoArray1A) (GoCodetoArray1n) (GoCodetoArray1c), .slice (v2A) (v2n) (v2c), .slice (x3A) (x3n) (x3c)] w R :=
  calls_of_bodyP hT hB hD Tryz.func3 (Nat.le_of_ble_eq_true (by kernel_rfl)) (by kernel_rfl) ((e3 R GoCodetoArray1A GoCodetoArray1n GoCodetoArray1c v2A v2n v2c x3A x3n x3c w).symm ▸ h)

/-! ### 13 refuter/order.Compare -/
def m13_A : Nat → List (Nat × TK) × List Nat
  | _ => ([], [])
def m13 (R : Ending → World → Prop) (a1A : Option Addr) (a1n : Nat) (a1c : Nat) (b2A : Option Addr) (b2n : Nat) (b2c : Nat) (w : World) : Prop :=
    Calls Tryz.prog 31 #[.int .i64 (((a1n : Nat) : Int)), .int .i64 (((b2n : Nat) : Int))] w (Ret (fun r3 wv4 =>
    ∃ x5, r3 = .int .i64 x5 ∧ Calls Tryz.prog 32 #[.slice (a1A) (a1n) (a1c), .slice (b2A) (b2n) (b2c)] wv4 (Ret (fun r6 wv7 =>
    ∃ x8, r6 = .int .i64 x8 ∧ Sized 1 [.int .i64 (x5), .int .i64 (x8)] ∧
    Calls Tryz.prog 30 #[.slice (some (⟨wv7.heap.size, 0, none⟩)) (2) (2)] (World.alloc wv7 (.cells (flat [.int .i64 (x5), .int .i64 (x8)]) 3)) (Ret (fun r9 wv10 =>
    ∃ x11, r9 = .int .i64 x11 ∧ R (.returned (.int .i64 (x11) : Value)) wv10) (fun ch w => R (.panicked ch) w))) (fun ch w => R (.panicked ch) w))) (fun ch w => R (.panicked ch) w))

theorem e13 (R : Ending → World → Prop) (a1A : Option Addr) (a1n : Nat) (a1c : Nat) (b2A : Option Addr) (b2n : Nat) (b2c : Nat) (w : World) : bodyP Tryz.prog T B (drawP Tryz.prog T B) m13_A Tryz.f13 [.slice (a1A) (a1n) (a1c), .slice (b2A) (b2n) (b2c)] w R = m13 R a1A a1n a1c b2A b2n b2c w := by kernel_rfl
theorem c13 {R : Ending → World → Prop} (a1A : Option Addr) (a1n : Nat) (a1c : Nat) (b2A : Option Addr) (b2n : Nat) (b2c : Nat) {w : World} (h : m13 R a1A a1n a1c b2A b2n b2c w) : Calls Tryz.prog 13 #[.slice (a1A) (a1n) (a1c), .slice (b2A) (b2n) (b2c)] w R :=
  calls_of_bodyP hT hB hD Tryz.func13 (Nat.le_of_ble_eq_true (by kernel_rfl)) (by kernel_rfl) ((e13 R a1A a1n a1c b2A b2n b2c w).symm ▸ h)

/-! ### 16 refuter/order.Sort -/
def m16_A : Nat → List (Nat × TK) × List Nat
  | _ => ([], [])
def m16 (R : Ending → World → Prop) (l1A : Option Addr) (l1n : Nat) (l1c : Nat) (w : World) : Prop :=
    Calls Tryz.prog 34 #[.slice (l1A) (l1n) (l1c)] w (Ret (fun r2 wv3 =>
    ∃ x4A x4n x4c, r2 = .slice x4A x4n x4c ∧ Calls Tryz.prog 35 #[.slice (x4A) (x4n) (x4c), .func (.func 13) #[] #[]] wv3 (Ret (fun r5 wv6 =>
    Calls Tryz.prog 36 #[.slice (x4A) (x4n) (x4c), .func (.func 37) #[] #[]] wv6 (Ret (fun r7 wv8 =>
    ∃ x9A x9n x9c, r7 = .slice x9A x9n x9c ∧ R (.returned (.slice (x9A) (x9n) (x9c) : Value)) wv8) (fun ch w => R (.panicked ch) w))) (fun ch w => R (.panicked ch) w))) (fun ch w => R (.panicked ch) w))

theorem e16 (R : Ending → World → Prop) (l1A : Option Addr) (l1n : Nat) (l1c : Nat) (w : World) : bodyP Tryz.prog T B (drawP Tryz.prog T B) m16_A Tryz.f16 [.slice (l1A) (l1n) (l1c)] w R = m16 R l1A l1n l1c w := by kernel_rfl
theorem c16 {R : Ending → World → Prop} (l1A : Option Addr) (l1n : Nat) (l1c : Nat) {w : World} (h : m16 R l1A l1n l1c w) : Calls Tryz.prog 16 #[.slice (l1A) (l1n) (l1c)] w R :=
  calls_of_bodyP hT hB hD Tryz.func16 (Nat.le_of_ble_eq_true (by kernel_rfl)) (by kernel_rfl) ((e16 R l1A l1n l1c w).symm ▸ h)

/-! ### 30 cmp.Or[int] -/
def m30_S0 : List (Nat × TK) := [(8, .int .i64)]
def m30_A : Nat → List (Nat × TK) × List Nat
  | 0 => (m30_S0, [3, 6, 7])
  | _ => ([], [])
def m30_K1 (R : Ending → World → Prop) (zero10 : Int) (w : World) : Prop :=
    R (.returned (.int .i64 (zero10) : Value)) w

def m30_B0 (R : Ending → World → Prop) (zero2 : Int) (v3A : Option Addr) (v3n : Nat) (v3c : Nat) (v4 : Int) (again0 : StOf m30_S0 → World → Prop) (v5 : Int) (w : World) : Prop :=
    if (decide ((v5 : Int) < (v4))) = true then
    (∃ a6, (v3A : Option Addr) = some a6 ∧ 0 ≤ (v5 : Int) ∧ (v5 : Int) < ((v3n : Nat) : Int) ∧
    ∃ v7, World.cell? w (a6.add ((v5 : Int).toNat * 1)) = some v7 ∧ ∃ x8, v7 = .int .i64 x8 ∧ if ((x8 : Int) != (zero2)) = true then
    (R (.returned (.int .i64 (x8) : Value)) w)
    else
    (∃ s9 : StOf m30_S0, [.int .i64 (IntKind.i64.wrap ((v5 : Int) + (1)))] = encOf m30_S0 s9 ∧ again0 s9 w))
    else
    (m30_K1 R (zero2) w)

def m30 (R : Ending → World → Prop) (vals1A : Option Addr) (vals1n : Nat) (vals1c : Nat) (w : World) : Prop :=
    ∃ s11 : StOf m30_S0, [.int .i64 (0)] = encOf m30_S0 s11 ∧ LoopP (fun again s wl => ∀ _r : Env, m30_B0 R (0) (vals1A) (vals1n) (vals1c) (((vals1n : Nat) : Int)) again (s.1) wl) s11 w

theorem e30 (R : Ending → World → Prop) (vals1A : Option Addr) (vals1n : Nat) (vals1c : Nat) (w : World) : bodyP Tryz.prog T B (drawP Tryz.prog T B) m30_A Tryz.f30 [.slice (vals1A) (vals1n) (vals1c)] w R = m30 R vals1A vals1n vals1c w := by kernel_rfl
theorem c30 {R : Ending → World → Prop} (vals1A : Option Addr) (vals1n : Nat) (vals1c : Nat) {w : World} (h : m30 R vals1A vals1n vals1c w) : Calls Tryz.prog 30 #[.slice (vals1A) (vals1n) (vals1c)] w R :=
  calls_of_bodyP hT hB hD Tryz.func30 (Nat.le_of_ble_eq_true (by kernel_rfl)) (by kernel_rfl) ((e30 R vals1A vals1n vals1c w).symm ▸ h)

/-! ### 31 cmp.Compare[int] -/
def m31_A : Nat → List (Nat × TK) × List Nat
  | _ => ([], [])
def m31 (R : Ending → World → Prop) (x1 : Int) (y2 : Int) (w : World) : Prop :=
    Calls Tryz.prog 55 #[.int .i64 (x1)] w (Ret (fun r3 wv4 =>
    ∃ x5, r3 = .bool x5 ∧ Calls Tryz.prog 55 #[.int .i64 (y2)] wv4 (Ret (fun r6 wv7 =>
    ∃ x8, r6 = .bool x8 ∧ if (x5) = true then
    (if (x8) = true then
    (R (.returned (.int .i64 (0) : Value)) wv7)
    else
    (R (.returned (.int .i64 (-1) : Value)) wv7))
    else
    (if (x8) = true then
    (R (.returned (.int .i64 (1) : Value)) wv7)
    else
    (if (decide ((x1 : Int) < (y2))) = true then
    (R (.returned (.int .i64 (-1) : Value)) wv7)
    else
    (if (decide ((x1 : Int) > (y2))) = true then
    (R (.returned (.int .i64 (1) : Value)) wv7)
    else
    (R (.returned (.int .i64 (0) : Value)) wv7))))) (fun ch w => R (.panicked ch) w))) (fun ch w => R (.panicked ch) w))

theorem e31 (R : Ending → World → Prop) (x1 : Int) (y2 : Int) (w : World) : bodyP Tryz.prog T B (drawP Tryz.prog T B) m31_A Tryz.f31 [.int .i64 (x1), .int .i64 (y2)] w R = m31 R x1 y2 w := by kernel_rfl
theorem c31 {R : Ending → World → Prop} (x1 : Int) (y2 : Int) {w : World} (h : m31 R x1 y2 w) : Calls Tryz.prog 31 #[.int .i64 (x1), .int .i64 (y2)] w R :=
  calls_of_bodyP hT hB hD Tryz.func31 (Nat.le_of_ble_eq_true (by kernel_rfl)) (by kernel_rfl) ((e31 R x1 y2 w).symm ▸ h)

/-! ### 32 slices.Compare[[]int,int] -/
def m32_S0 : List (Nat × TK) := [(11, .int .i64)]
def m32_A : Nat → List (Nat × TK) × List Nat
  | 0 => (m32_S0, [0, 1, 9, 10])
  | _ => ([], [])
def m32_K1 (R : Ending → World → Prop) (s118A : Option Addr) (s118n : Nat) (s118c : Nat) (s219A : Option Addr) (s219n : Nat) (s219c : Nat) (w : World) : Prop :=
    if (decide ((((s118n : Nat) : Int) : Int) < (((s219n : Nat) : Int)))) = true then
    (R (.returned (.int .i64 (-1) : Value)) w)
    else
    (R (.returned (.int .i64 (0) : Value)) w)

def m32_B0 (R : Ending → World → Prop) (s13A : Option Addr) (s13n : Nat) (s13c : Nat) (s24A : Option Addr) (s24n : Nat) (s24c : Nat) (v5A : Option Addr) (v5n : Nat) (v5c : Nat) (v6 : Int) (again0 : StOf m32_S0 → World → Prop) (v7 : Int) (w : World) : Prop :=
    if (decide ((v7 : Int) < (v6))) = true then
    (∃ a8, (v5A : Option Addr) = some a8 ∧ 0 ≤ (v7 : Int) ∧ (v7 : Int) < ((v5n : Nat) : Int) ∧
    ∃ v9, World.cell? w (a8.add ((v7 : Int).toNat * 1)) = some v9 ∧ ∃ x10, v9 = .int .i64 x10 ∧ if (decide ((v7 : Int) ≥ (((s24n : Nat) : Int)))) = true then
    (R (.returned (.int .i64 (1) : Value)) w)
    else
    (∃ a11, (s24A : Option Addr) = some a11 ∧ 0 ≤ (v7 : Int) ∧ (v7 : Int) < ((s24n : Nat) : Int) ∧
    ∃ v12, World.cell? w (a11.add ((v7 : Int).toNat * 1)) = some v12 ∧ ∃ x13, v12 = .int .i64 x13 ∧ Calls Tryz.prog 31 #[.int .i64 (x10), .int .i64 (x13)] w (Ret (fun r14 wv15 =>
    ∃ x16, r14 = .int .i64 x16 ∧ if ((x16 : Int) != (0)) = true then
    (R (.returned (.int .i64 (x16) : Value)) wv15)
    else
    (∃ s17 : StOf m32_S0, [.int .i64 (IntKind.i64.wrap ((v7 : Int) + (1)))] = encOf m32_S0 s17 ∧ again0 s17 wv15)) (fun ch w => R (.panicked ch) w))))
    else
    (m32_K1 R (s13A) (s13n) (s13c) (s24A) (s24n) (s24c) w)

def m32 (R : Ending → World → Prop) (s11A : Option Addr) (s11n : Nat) (s11c : Nat) (s22A : Option Addr) (s22n : Nat) (s22c : Nat) (w : World) : Prop :=
    ∃ s20 : StOf m32_S0, [.int .i64 (0)] = encOf m32_S0 s20 ∧ LoopP (fun again s wl => ∀ _r : Env, m32_B0 R (s11A) (s11n) (s11c) (s22A) (s22n) (s22c) (s11A) (s11n) (s11c) (((s11n : Nat) : Int)) again (s.1) wl) s20 w

theorem e32 (R : Ending → World → Prop) (s11A : Option Addr) (s11n : Nat) (s11c : Nat) (s22A : Option Addr) (s22n : Nat) (s22c : Nat) (w : World) : bodyP Tryz.prog T B (drawP Tryz.prog T B) m32_A Tryz.f32 [.slice (s11A) (s11n) (s11c), .slice (s22A) (s22n) (s22c)] w R = m32 R s11A s11n s11c s22A s22n s22c w := by kernel_rfl
theorem c32 {R : Ending → World → Prop} (s11A : Option Addr) (s11n : Nat) (s11c : Nat) (s22A : Option Addr) (s22n : Nat) (s22c : Nat) {w : World} (h : m32 R s11A s11n s11c s22A s22n s22c w) : Calls Tryz.prog 32 #[.slice (s11A) (s11n) (s11c), .slice (s22A) (s22n) (s22c)] w R :=
  calls_of_bodyP hT hB hD Tryz.func32 (Nat.le_of_ble_eq_true (by kernel_rfl)) (by kernel_rfl) ((e32 R s11A s11n s11c s22A s22n s22c w).symm ▸ h)

/-! ### 34 slices.Clone[[][]int,[]int] -/
def m34_A : Nat → List (Nat × TK) × List Nat
  | _ => ([], [])
def m34 (R : Ending → World → Prop) (s1A : Option Addr) (s1n : Nat) (s1c : Nat) (w : World) : Prop :=
    RunV Tryz.prog (do eqGuard .eql 23 (.tmp 3) (.const (.slice (none) (0) (0))) (.slice (s1A) (s1n) (s1c) : Value) (.slice (none) (0) (0) : Value); binOp .eql 23 (.slice (s1A) (s1n) (s1c) : Value) (.slice (none) (0) (0) : Value)) w fun r2 wv3 =>
    ∃ x4, r2 = .bool x4 ∧ if (x4) = true then
    (R (.returned (.slice (none) (0) (0) : Value)) wv3)
    else
    (Sized 1 [] ∧
    RunV Tryz.prog (Builtin.append_ #[23, 23] 23 #[.slice (some (⟨wv3.heap.size, 0, none⟩)) (0) (0), .slice (s1A) (s1n) (s1c)]) (World.alloc wv3 (.cells (flat []) 22)) fun r5 wv6 =>
    ∃ x7A x7n x7c, r5 = .slice x7A x7n x7c ∧ R (.returned (.slice (x7A) (x7n) (x7c) : Value)) wv6)

theorem e34 (R : Ending → World → Prop) (s1A : Option Addr) (s1n : Nat) (s1c : Nat) (w : World) : bodyP Tryz.prog T B (drawP Tryz.prog T B) m34_A Tryz.f34 [.slice (s1A) (s1n) (s1c)] w R = m34 R s1A s1n s1c w := by kernel_rfl
theorem c34 {R : Ending → World → Prop} (s1A : Option Addr) (s1n : Nat) (s1c : Nat) {w : World} (h : m34 R s1A s1n s1c w) : Calls Tryz.prog 34 #[.slice (s1A) (s1n) (s1c)] w R :=
  calls_of_bodyP hT hB hD Tryz.func34 (Nat.le_of_ble_eq_true (by kernel_rfl)) (by kernel_rfl) ((e34 R s1A s1n s1c w).symm ▸ h)

/-! ### 36 slices.CompactFunc[[][]int,[]int] -/
def m36_S0 : List (Nat × TK) := [(5, .int .i64)]
def m36_S2 : List (Nat × TK) := [(5, .int .i64), (7, .int .i64)]
def m36_A : Nat → List (Nat × TK) × List Nat
  | 0 => (m36_S0, [0, 1])
  | 2 => (m36_S2, [0, 1, 6])
  | _ => ([], [])
def m36_K3 (R : Ending → World → Prop) (again0 : StOf m36_S0 → World → Prop) (again2 : StOf m36_S2 → World → Prop) (GoCodetoArray36A : Option Addr) (GoCodetoArray36n : Nat) (GoCodetoArray36c : Nat) (v37g : Nat) (v37f : Array Value) (v37c : Array Value) (x38 : Int) (x39A : Option Addr) (x39n : Nat) (x39c : Nat) (x40 : Int) (w : World) : Prop :=
    ∃ s41 : StOf m36_S2, [.int .i64 (x38), .int .i64 (IntKind.i64.wrap ((x40 : Int) + (1)))] = encOf m36_S2 s41 ∧ again2 s41 w

def m36_K2 (R : Ending → World → Prop) (again0 : StOf m36_S0 → World → Prop) (GoCodetoArray42A : Option Addr) (GoCodetoArray42n : Nat) (GoCodetoArray42c : Nat) (x43 : Int) (w : World) : Prop :=
    0 ≤ (x43 : Int) ∧ (x43 : Int) ≤ ((GoCodetoArray42n : Nat) : Int) ∧ RunV Tryz.prog (Builtin.clear_ #[23] 0 #[.slice (sliceAddr (GoCodetoArray42A) ((x43 : Int).toNat) (GoCodetoArray42c) 1) ((GoCodetoArray42n) - ((x43 : Int).toNat)) ((GoCodetoArray42c) - ((x43 : Int).toNat))]) w fun r44 wv45 =>
    0 ≤ (x43 : Int) ∧ (x43 : Int) ≤ ((GoCodetoArray42c : Nat) : Int) ∧ R (.returned (.slice (sliceAddr (GoCodetoArray42A) (0) (GoCodetoArray42c) 1) (((x43 : Int).toNat) - (0)) ((GoCodetoArray42c) - (0)) : Value)) wv45

def m36_B2 (R : Ending → World → Prop) (again0 : StOf m36_S0 → World → Prop) (GoCodetoArray16A : Option Addr) (GoCodetoArray16n : Nat) (GoCodetoArray16c : Nat) (v17g : Nat) (v17f : Array Value) (v17c : Array Value) (x18A : Option Addr) (x18n : Nat) (x18c : Nat) (again2 : StOf m36_S2 → World → Prop) (x19 : Int) (x20 : Int) (w : World) : Prop :=
    if (decide ((x20 : Int) < (((x18n : Nat) : Int)))) = true then
    (∃ Sv21 : World → Prop, Sv21 (World.drew w) ∧
    ∃ a22, (x18A : Option Addr) = some a22 ∧ 0 ≤ (x20 : Int) ∧ (x20 : Int) < ((x18n : Nat) : Int) ∧
    ∃ v23, (∀ w', Sv21 w' → World.cell? w' (a22.add ((x20 : Int).toNat * 1)) = some v23) ∧ ∃ x24A x24n x24c, v23 = .slice x24A x24n x24c ∧ ∃ a25, (x18A : Option Addr) = some a25 ∧ 0 ≤ (IntKind.i64.wrap ((x20 : Int) - (1)) : Int) ∧ (IntKind.i64.wrap ((x20 : Int) - (1)) : Int) < ((x18n : Nat) : Int) ∧
    ∃ v26, (∀ w', Sv21 w' → World.cell? w' (a25.add ((IntKind.i64.wrap ((x20 : Int) - (1)) : Int).toNat * 1)) = some v26) ∧ ∃ x27A x27n x27c, v26 = .slice x27A x27n x27c ∧ B v17g = true ∧ Calls Tryz.prog v17g (callV v17f [.slice (x24A) (x24n) (x24c), .slice (x27A) (x27n) (x27c)] v17c) (World.drew w) (Ret (fun r28 wv29 =>
    ∃ x30, r28 = .bool x30 ∧ Sv21 wv29 ∧
    if (!(x30 : Bool)) = true then
    (∃ a31, (x18A : Option Addr) = some a31 ∧ 0 ≤ (x20 : Int) ∧ (x20 : Int) < ((x18n : Nat) : Int) ∧
    ∃ v32, World.cell? wv29 (a31.add ((x20 : Int).toNat * 1)) = some v32 ∧ ∃ x33A x33n x33c, v32 = .slice x33A x33n x33c ∧ ∃ a34, (GoCodetoArray16A : Option Addr) = some a34 ∧ 0 ≤ (x19 : Int) ∧ (x19 : Int) < ((GoCodetoArray16n : Nat) : Int) ∧
    (∃ u35, World.cell? wv29 (a34.add ((x19 : Int).toNat * 1)) = some u35) ∧ World.frozen? wv29 (a34.add ((x19 : Int).toNat * 1)) = false ∧
    m36_K3 R again0 again2 (GoCodetoArray16A) (GoCodetoArray16n) (GoCodetoArray16c) (v17g) (v17f) (v17c) (IntKind.i64.wrap ((x19 : Int) + (1))) (x18A) (x18n) (x18c) (x20) (World.setCell wv29 (a34.add ((x19 : Int).toNat * 1)) (.slice (x33A) (x33n) (x33c))))
    else
    (m36_K3 R again0 again2 (GoCodetoArray16A) (GoCodetoArray16n) (GoCodetoArray16c) (v17g) (v17f) (v17c) (x19) (x18A) (x18n) (x18c) (x20) wv29)) (fun ch w => R (.panicked ch) w)))
    else
    (m36_K2 R again0 (GoCodetoArray16A) (GoCodetoArray16n) (GoCodetoArray16c) (x19) w)

def m36_K1 (R : Ending → World → Prop) (GoCodetoArray48A : Option Addr) (GoCodetoArray48n : Nat) (GoCodetoArray48c : Nat) (w : World) : Prop :=
    R (.returned (.slice (GoCodetoArray48A) (GoCodetoArray48n) (GoCodetoArray48c) : Value)) w

def m36_B0 (R : Ending → World → Prop) (GoCodetoArray3A : Option Addr) (GoCodetoArray3n : Nat) (GoCodetoArray3c : Nat) (v4g : Nat) (v4f : Array Value) (v4c : Array Value) (again0 : StOf m36_S0 → World → Prop) (x5 : Int) (w : World) : Prop :=
    if (decide ((x5 : Int) < (((GoCodetoArray3n : Nat) : Int)))) = true then
    (∃ Sv6 : World → Prop, Sv6 (World.drew w) ∧
    ∃ a7, (GoCodetoArray3A : Option Addr) = some a7 ∧ 0 ≤ (x5 : Int) ∧ (x5 : Int) < ((GoCodetoArray3n : Nat) : Int) ∧
    ∃ v8, (∀ w', Sv6 w' → World.cell? w' (a7.add ((x5 : Int).toNat * 1)) = some v8) ∧ ∃ x9A x9n x9c, v8 = .slice x9A x9n x9c ∧ ∃ a10, (GoCodetoArray3A : Option Addr) = some a10 ∧ 0 ≤ (IntKind.i64.wrap ((x5 : Int) - (1)) : Int) ∧ (IntKind.i64.wrap ((x5 : Int) - (1)) : Int) < ((GoCodetoArray3n : Nat) : Int) ∧
    ∃ v11, (∀ w', Sv6 w' → World.cell? w' (a10.add ((IntKind.i64.wrap ((x5 : Int) - (1)) : Int).toNat * 1)) = some v11) ∧ ∃ x12A x12n x12c, v11 = .slice x12A x12n x12c ∧ B v4g = true ∧ Calls Tryz.prog v4g (callV v4f [.slice (x9A) (x9n) (x9c), .slice (x12A) (x12n) (x12c)] v4c) (World.drew w) (Ret (fun r13 wv14 =>
    ∃ x15, r13 = .bool x15 ∧ Sv6 wv14 ∧
    if (x15) = true then
    (0 ≤ (x5 : Int) ∧ (x5 : Int) ≤ ((GoCodetoArray3n : Nat) : Int) ∧ ∃ s46 : StOf m36_S2, [.int .i64 (x5), .int .i64 (1)] = encOf m36_S2 s46 ∧ LoopP (fun again s wl => ∀ _r : Env, m36_B2 R again0 (GoCodetoArray3A) (GoCodetoArray3n) (GoCodetoArray3c) (v4g) (v4f) (v4c) (sliceAddr (GoCodetoArray3A) ((x5 : Int).toNat) (GoCodetoArray3c) 1) ((GoCodetoArray3n) - ((x5 : Int).toNat)) ((GoCodetoArray3c) - ((x5 : Int).toNat)) again (s.1) (s.2.1) wl) s46 wv14)
    else
    (∃ s47 : StOf m36_S0, [.int .i64 (IntKind.i64.wrap ((x5 : Int) + (1)))] = encOf m36_S0 s47 ∧ again0 s47 wv14)) (fun ch w => R (.panicked ch) w)))
    else
    (m36_K1 R (GoCodetoArray3A) (GoCodetoArray3n) (GoCodetoArray3c) w)

def m36 (R : Ending → World → Prop) (GoCodetoArray1A : Option Addr) (GoCodetoArray1n : Nat) (GoCodetoArray1c : Nat) (v2g : Nat) (v2f : Array Value) (v2c : Array Value) (w : World) : Prop :=
    if (decide ((((GoCodetoArray1n : Nat) : Int) : Int) < (2))) = true then
    (R (.returned (.slice (GoCodetoArray1A) (GoCodetoArray1n) (GoCodetoArray1c) : Value)) w)
    else
    (∃ s49 : StOf m36_S0, [.int .i64 (1)] = encOf m36_S0 s49 ∧ LoopP (fun again s wl => ∀ _r : Env, m36_B0 R (GoCodetoArray1A) (GoCodetoArray1n) (GoCodetoArray1c) (v2g) (v2f) (v2c) again (s.1) wl) s49 w)

theorem e36 (R : Ending → World → Prop) (GoCodetoArray1A : Option Addr) (GoCodetoArray1n : Nat) (GoCodetoArray1c : Nat) (v2g : Nat) (v2f : Array Value) (v2c : Array Value) (w : World) : bodyP Tryz.prog T B (drawP Tryz.prog T B) m36_A Tryz.f36 [.slice (GoCodetoArray1A) (GoCodetoArray1n) (GoCodetoArray1c), .func (.func (v2g)) (v2f) (v2c)] w R = m36 R GoCodetoArray1A GoCodetoArray1n GoCodetoArray1c v2g v2f v2c w := by kernel_rfl
theorem c36 {R : Ending → World → Prop} (GoCodetoArray1A : Option Addr) (GoCodetoArray1n : Nat) (GoCodetoArray1c : Nat) (v2g : Nat) (v2f : Array Value) (v2c : Array Value) {w : World} (h : m36 R GoCodetoArray1A GoCodetoArray1n GoCodetoArray1c v2g v2f v2c w) : Calls Tryz.prog 36 #[.slice (GoCodetoArray1A) (GoCodetoArray1n) (GoCodetoArray1c), .func (.func (v2g)) (v2f) (v2c)] w R :=
  calls_of_bodyP hT hB hD Tryz.func36 (Nat.le_of_ble_eq_true (by kernel_rfl)) (by kernel_rfl) ((e36 R GoCodetoArray1A GoCodetoArray1n GoCodetoArray1c v2g v2f v2c w).symm ▸ h)

/-! ### 37 slices.Equal[[]int,int] -/
def m37_S0 : List (Nat × TK) := [(13, .int .i64)]
def m37_A : Nat → List (Nat × TK) × List Nat
  | 0 => (m37_S0, [0, 1, 12])
  | _ => ([], [])
def m37_K1 (R : Ending → World → Prop) (w : World) : Prop :=
    R (.returned (.bool (true) : Value)) w

def m37_B0 (R : Ending → World → Prop) (s13A : Option Addr) (s13n : Nat) (s13c : Nat) (s24A : Option Addr) (s24n : Nat) (s24c : Nat) (v5 : Int) (again0 : StOf m37_S0 → World → Prop) (v6 : Int) (w : World) : Prop :=
    if (decide ((v6 : Int) < (v5))) = true then
    (∃ Sv7 : World → Prop, Sv7 (World.drew w) ∧
    ∃ a8, (s13A : Option Addr) = some a8 ∧ 0 ≤ (v6 : Int) ∧ (v6 : Int) < ((s13n : Nat) : Int) ∧
    ∃ v9, (∀ w', Sv7 w' → World.cell? w' (a8.add ((v6 : Int).toNat * 1)) = some v9) ∧ ∃ x10, v9 = .int .i64 x10 ∧ ∃ a11, (s24A : Option Addr) = some a11 ∧ 0 ≤ (v6 : Int) ∧ (v6 : Int) < ((s24n : Nat) : Int) ∧
    ∃ v12, (∀ w', Sv7 w' → World.cell? w' (a11.add ((v6 : Int).toNat * 1)) = some v12) ∧ ∃ x13, v12 = .int .i64 x13 ∧ if ((x10 : Int) != (x13)) = true then
    (R (.returned (.bool (false) : Value)) (World.drew w))
    else
    (∃ s14 : StOf m37_S0, [.int .i64 (IntKind.i64.wrap ((v6 : Int) + (1)))] = encOf m37_S0 s14 ∧ again0 s14 (World.drew w)))
    else
    (m37_K1 R w)

def m37 (R : Ending → World → Prop) (s11A : Option Addr) (s11n : Nat) (s11c : Nat) (s22A : Option Addr) (s22n : Nat) (s22c : Nat) (w : World) : Prop :=
    if ((((s11n : Nat) : Int) : Int) != (((s22n : Nat) : Int))) = true then
    (R (.returned (.bool (false) : Value)) w)
    else
    (∃ s15 : StOf m37_S0, [.int .i64 (0)] = encOf m37_S0 s15 ∧ LoopP (fun again s wl => ∀ _r : Env, m37_B0 R (s11A) (s11n) (s11c) (s22A) (s22n) (s22c) (((s11n : Nat) : Int)) again (s.1) wl) s15 w)

theorem e37 (R : Ending → World → Prop) (s11A : Option Addr) (s11n : Nat) (s11c : Nat) (s22A : Option Addr) (s22n : Nat) (s22c : Nat) (w : World) : bodyP Tryz.prog T B (drawP Tryz.prog T B) m37_A Tryz.f37 [.slice (s11A) (s11n) (s11c), .slice (s22A) (s22n) (s22c)] w R = m37 R s11A s11n s11c s22A s22n s22c w := by kernel_rfl
theorem c37 {R : Ending → World → Prop} (s11A : Option Addr) (s11n : Nat) (s11c : Nat) (s22A : Option Addr) (s22n : Nat) (s22c : Nat) {w : World} (h : m37 R s11A s11n s11c s22A s22n s22c w) : Calls Tryz.prog 37 #[.slice (s11A) (s11n) (s11c), .slice (s22A) (s22n) (s22c)] w R :=
  calls_of_bodyP hT hB hD Tryz.func37 (Nat.le_of_ble_eq_true (by kernel_rfl)) (by kernel_rfl) ((e37 R s11A s11n s11c s22A s22n s22c w).symm ▸ h)

/-! ### 55 cmp.isNaN[int] -/
def m55_A : Nat → List (Nat × TK) × List Nat
  | _ => ([], [])
def m55 (R : Ending → World → Prop) (x1 : Int) (w : World) : Prop :=
    R (.returned (.bool ((x1 : Int) != (x1)) : Value)) w

theorem e55 (R : Ending → World → Prop) (x1 : Int) (w : World) : bodyP Tryz.prog T B (drawP Tryz.prog T B) m55_A Tryz.f55 [.int .i64 (x1)] w R = m55 R x1 w := by kernel_rfl
theorem c55 {R : Ending → World → Prop} (x1 : Int) {w : World} (h : m55 R x1 w) : Calls Tryz.prog 55 #[.int .i64 (x1)] w R :=
  calls_of_bodyP hT hB hD Tryz.func55 (Nat.le_of_ble_eq_true (by kernel_rfl)) (by kernel_rfl) ((e55 R x1 w).symm ▸ h)

end Go.Proofs.YtilacabmbjephaaGreatDoor
