/- Mirrors of Go functions and their links to the evaluator; printed by wip/mir.py. -/
import Derived.Test.YtilacabmbjephaaGreatDoorGxT
namespace Go.Proofs.YtilacabmbjephaaGreatDoor
open Go Go.GX
set_option linter.unusedVariables false
set_option maxRecDepth 100000

/-! ### 11 refuter/refuterref14.Raw -/
def m11_S0 : List (Nat × TK) := [(5, .slice 0 0), (6, .int .i64)]
def m11_A : Nat → List (Nat × TK) × List Nat
  | 0 => (m11_S0, [0, 1])
  | _ => ([], [])
def m11_K1 (R : Ending → World → Prop) (out17A : Option Addr) (out17n : Nat) (out17c : Nat) (w : World) : Prop :=
    R (.returned (.slice (out17A) (out17n) (out17c) : Value)) w

def m11_B0 (R : Ending → World → Prop) (l3A : Option Addr) (l3n : Nat) (l3c : Nat) (n4 : Int) (again0 : StOf m11_S0 → World → Prop) (out5A : Option Addr) (out5n : Nat) (out5c : Nat) (i6 : Int) (w : World) : Prop :=
    if (decide ((i6 : Int) < (n4))) = true then
    (Calls Tryz.prog 12 #[.slice (l3A) (l3n) (l3c), .int .i64 (i6), .int .i64 (9)] w (Ret (fun r7 wv8 =>
    ∃ x9, r7 = .int .i64 x9 ∧ Calls Tryz.prog 12 #[.slice (l3A) (l3n) (l3c), .int .i64 (IntKind.i64.wrap ((i6 : Int) + (1))), .int .i64 (20)] wv8 (Ret (fun r10 wv11 =>
    ∃ x12, r10 = .int .i64 x12 ∧ (19 : Int) ≠ 0 ∧ Sized 1 [.int .i64 (IntKind.i64.wrap ((x9 : Int) - (IntKind.i64.wrap ((x12 : Int).tdiv (19)))))] ∧
    RunV Tryz.prog (Builtin.append_ #[22, 22] 22 #[.slice (out5A) (out5n) (out5c), .slice (some (⟨wv11.heap.size, 0, none⟩)) (1) (1)]) (World.alloc wv11 (.cells (flat [.int .i64 (IntKind.i64.wrap ((x9 : Int) - (IntKind.i64.wrap ((x12 : Int).tdiv (19)))))]) 3)) fun r13 wv14 =>
    ∃ x15A x15n x15c, r13 = .slice x15A x15n x15c ∧ ∃ s16 : StOf m11_S0, [.slice (x15A) (x15n) (x15c), .int .i64 (IntKind.i64.wrap ((i6 : Int) + (1)))] = encOf m11_S0 s16 ∧ again0 s16 wv14) (fun ch w => R (.panicked ch) w))) (fun ch w => R (.panicked ch) w)))
    else
    (m11_K1 R (out5A) (out5n) (out5c) w)

def m11 (R : Ending → World → Prop) (l1A : Option Addr) (l1n : Nat) (l1c : Nat) (n2 : Int) (w : World) : Prop :=
    ∃ s18 : StOf m11_S0, [.slice (none) (0) (0), .int .i64 (0)] = encOf m11_S0 s18 ∧ LoopP (fun again s wl => ∀ _r : Env, m11_B0 R (l1A) (l1n) (l1c) (n2) again (s.1.1) (s.1.2.1) (s.1.2.2) (s.2.1) wl) s18 w

theorem e11 (R : Ending → World → Prop) (l1A : Option Addr) (l1n : Nat) (l1c : Nat) (n2 : Int) (w : World) : bodyP Tryz.prog T B (drawP Tryz.prog T B) m11_A Tryz.f11 [.slice (l1A) (l1n) (l1c), .int .i64 (n2)] w R = m11 R l1A l1n l1c n2 w := by kernel_rfl
theorem c11 {R : Ending → World → Prop} (l1A : Option Addr) (l1n : Nat) (l1c : Nat) (n2 : Int) {w : World} (h : m11 R l1A l1n l1c n2 w) : Calls Tryz.prog 11 #[.slice (l1A) (l1n) (l1c), .int .i64 (n2)] w R :=
  calls_of_bodyP hT hB hD Tryz.func11 (Nat.le_of_ble_eq_true (by kernel_rfl)) (by kernel_rfl) ((e11 R l1A l1n l1c n2 w).symm ▸ h)

/-! ### 12 refuter/refuterref01.Pick -/
def m12_A : Nat → List (Nat × TK) × List Nat
  | _ => ([], [])
def m12_K1 (R : Ending → World → Prop) (l4A : Option Addr) (l4n : Nat) (l4c : Nat) (i5 : Int) (most6 : Int) (v7 : Bool) (w : World) : Prop :=
    if (v7) = true then
    (R (.returned (.int .i64 (0) : Value)) w)
    else
    (∃ a8, (l4A : Option Addr) = some a8 ∧ 0 ≤ (i5 : Int) ∧ (i5 : Int) < ((l4n : Nat) : Int) ∧
    ∃ v9, World.cell? w (a8.add ((i5 : Int).toNat * 1)) = some v9 ∧ ∃ x10, v9 = .int .i64 x10 ∧ Calls Tryz.prog 29 #[.int .i64 (x10), .int .i64 (most6)] w (Ret (fun r11 wv12 =>
    ∃ x13, r11 = .int .i64 x13 ∧ R (.returned (.int .i64 (x13) : Value)) wv12) (fun ch w => R (.panicked ch) w)))

def m12 (R : Ending → World → Prop) (l1A : Option Addr) (l1n : Nat) (l1c : Nat) (i2 : Int) (most3 : Int) (w : World) : Prop :=
    if (decide ((i2 : Int) < (0))) = true then
    (m12_K1 R (l1A) (l1n) (l1c) (i2) (most3) (true) w)
    else
    (m12_K1 R (l1A) (l1n) (l1c) (i2) (most3) (decide ((i2 : Int) ≥ (((l1n : Nat) : Int)))) w)

theorem e12 (R : Ending → World → Prop) (l1A : Option Addr) (l1n : Nat) (l1c : Nat) (i2 : Int) (most3 : Int) (w : World) : bodyP Tryz.prog T B (drawP Tryz.prog T B) m12_A Tryz.f12 [.slice (l1A) (l1n) (l1c), .int .i64 (i2), .int .i64 (most3)] w R = m12 R l1A l1n l1c i2 most3 w := by kernel_rfl
theorem c12 {R : Ending → World → Prop} (l1A : Option Addr) (l1n : Nat) (l1c : Nat) (i2 : Int) (most3 : Int) {w : World} (h : m12 R l1A l1n l1c i2 most3 w) : Calls Tryz.prog 12 #[.slice (l1A) (l1n) (l1c), .int .i64 (i2), .int .i64 (most3)] w R :=
  calls_of_bodyP hT hB hD Tryz.func12 (Nat.le_of_ble_eq_true (by kernel_rfl)) (by kernel_rfl) ((e12 R l1A l1n l1c i2 most3 w).symm ▸ h)

/-! ### 14 refuter/refuterref21.Compare -/
def m14_S0 : List (Nat × TK) := [(5, .int .i64)]
def m14_A : Nat → List (Nat × TK) × List Nat
  | 0 => (m14_S0, [0, 1])
  | _ => ([], [])
def m14_K1 (R : Ending → World → Prop) (w : World) : Prop :=
    R (.returned (.int .i64 (0) : Value)) w

def m14_B0 (R : Ending → World → Prop) (a3A : Option Addr) (a3n : Nat) (a3c : Nat) (b4A : Option Addr) (b4n : Nat) (b4c : Nat) (again0 : StOf m14_S0 → World → Prop) (i5 : Int) (w : World) : Prop :=
    if (decide ((i5 : Int) < (((a3n : Nat) : Int)))) = true then
    (∃ Sv6 : World → Prop, Sv6 (World.drew w) ∧
    ∃ a7, (a3A : Option Addr) = some a7 ∧ 0 ≤ (i5 : Int) ∧ (i5 : Int) < ((a3n : Nat) : Int) ∧
    ∃ v8, (∀ w', Sv6 w' → World.cell? w' (a7.add ((i5 : Int).toNat * 1)) = some v8) ∧ ∃ x9, v8 = .int .i64 x9 ∧ ∃ a10, (b4A : Option Addr) = some a10 ∧ 0 ≤ (i5 : Int) ∧ (i5 : Int) < ((b4n : Nat) : Int) ∧
    ∃ v11, (∀ w', Sv6 w' → World.cell? w' (a10.add ((i5 : Int).toNat * 1)) = some v11) ∧ ∃ x12, v11 = .int .i64 x12 ∧ if (decide ((x9 : Int) < (x12))) = true then
    (R (.returned (.int .i64 (-1) : Value)) (World.drew w))
    else
    (∃ Sv13 : World → Prop, Sv13 (World.drew (World.drew w)) ∧
    ∃ a14, (a3A : Option Addr) = some a14 ∧ 0 ≤ (i5 : Int) ∧ (i5 : Int) < ((a3n : Nat) : Int) ∧
    ∃ v15, (∀ w', Sv13 w' → World.cell? w' (a14.add ((i5 : Int).toNat * 1)) = some v15) ∧ ∃ x16, v15 = .int .i64 x16 ∧ ∃ a17, (b4A : Option Addr) = some a17 ∧ 0 ≤ (i5 : Int) ∧ (i5 : Int) < ((b4n : Nat) : Int) ∧
    ∃ v18, (∀ w', Sv13 w' → World.cell? w' (a17.add ((i5 : Int).toNat * 1)) = some v18) ∧ ∃ x19, v18 = .int .i64 x19 ∧ if (decide ((x16 : Int) > (x19))) = true then
    (R (.returned (.int .i64 (1) : Value)) (World.drew (World.drew w)))
    else
    (∃ s20 : StOf m14_S0, [.int .i64 (IntKind.i64.wrap ((i5 : Int) + (1)))] = encOf m14_S0 s20 ∧ again0 s20 (World.drew (World.drew w)))))
    else
    (m14_K1 R w)

def m14 (R : Ending → World → Prop) (a1A : Option Addr) (a1n : Nat) (a1c : Nat) (b2A : Option Addr) (b2n : Nat) (b2c : Nat) (w : World) : Prop :=
    if (decide ((((a1n : Nat) : Int) : Int) < (((b2n : Nat) : Int)))) = true then
    (R (.returned (.int .i64 (-1) : Value)) w)
    else
    (if (decide ((((a1n : Nat) : Int) : Int) > (((b2n : Nat) : Int)))) = true then
    (R (.returned (.int .i64 (1) : Value)) w)
    else
    (∃ s21 : StOf m14_S0, [.int .i64 (0)] = encOf m14_S0 s21 ∧ LoopP (fun again s wl => ∀ _r : Env, m14_B0 R (a1A) (a1n) (a1c) (b2A) (b2n) (b2c) again (s.1) wl) s21 w))

theorem e14 (R : Ending → World → Prop) (a1A : Option Addr) (a1n : Nat) (a1c : Nat) (b2A : Option Addr) (b2n : Nat) (b2c : Nat) (w : World) : bodyP Tryz.prog T B (drawP Tryz.prog T B) m14_A Tryz.f14 [.slice (a1A) (a1n) (a1c), .slice (b2A) (b2n) (b2c)] w R = m14 R a1A a1n a1c b2A b2n b2c w := by kernel_rfl
theorem c14 {R : Ending → World → Prop} (a1A : Option Addr) (a1n : Nat) (a1c : Nat) (b2A : Option Addr) (b2n : Nat) (b2c : Nat) {w : World} (h : m14 R a1A a1n a1c b2A b2n b2c w) : Calls Tryz.prog 14 #[.slice (a1A) (a1n) (a1c), .slice (b2A) (b2n) (b2c)] w R :=
  calls_of_bodyP hT hB hD Tryz.func14 (Nat.le_of_ble_eq_true (by kernel_rfl)) (by kernel_rfl) ((e14 R a1A a1n a1c b2A b2n b2c w).symm ▸ h)

/-! ### 15 refuter/refuterref21.Same -/
def m15_S0 : List (Nat × TK) := [(5, .int .i64)]
def m15_A : Nat → List (Nat × TK) × List Nat
  | 0 => (m15_S0, [0, 1])
  | _ => ([], [])
def m15_K1 (R : Ending → World → Prop) (w : World) : Prop :=
    R (.returned (.bool (true) : Value)) w

def m15_B0 (R : Ending → World → Prop) (a3A : Option Addr) (a3n : Nat) (a3c : Nat) (b4A : Option Addr) (b4n : Nat) (b4c : Nat) (again0 : StOf m15_S0 → World → Prop) (i5 : Int) (w : World) : Prop :=
    if (decide ((i5 : Int) < (((a3n : Nat) : Int)))) = true then
    (∃ Sv6 : World → Prop, Sv6 (World.drew w) ∧
    ∃ a7, (a3A : Option Addr) = some a7 ∧ 0 ≤ (i5 : Int) ∧ (i5 : Int) < ((a3n : Nat) : Int) ∧
    ∃ v8, (∀ w', Sv6 w' → World.cell? w' (a7.add ((i5 : Int).toNat * 1)) = some v8) ∧ ∃ x9A x9n x9c, v8 = .slice x9A x9n x9c ∧ ∃ a10, (b4A : Option Addr) = some a10 ∧ 0 ≤ (i5 : Int) ∧ (i5 : Int) < ((b4n : Nat) : Int) ∧
    ∃ v11, (∀ w', Sv6 w' → World.cell? w' (a10.add ((i5 : Int).toNat * 1)) = some v11) ∧ ∃ x12A x12n x12c, v11 = .slice x12A x12n x12c ∧ Calls Tryz.prog 33 #[.slice (x9A) (x9n) (x9c), .slice (x12A) (x12n) (x12c)] (World.drew w) (Ret (fun r13 wv14 =>
    ∃ x15, r13 = .bool x15 ∧ Sv6 wv14 ∧
    if (!(x15 : Bool)) = true then
    (R (.returned (.bool (false) : Value)) wv14)
    else
    (∃ s16 : StOf m15_S0, [.int .i64 (IntKind.i64.wrap ((i5 : Int) + (1)))] = encOf m15_S0 s16 ∧ again0 s16 wv14)) (fun ch w => R (.panicked ch) w)))
    else
    (m15_K1 R w)

def m15 (R : Ending → World → Prop) (a1A : Option Addr) (a1n : Nat) (a1c : Nat) (b2A : Option Addr) (b2n : Nat) (b2c : Nat) (w : World) : Prop :=
    if ((((a1n : Nat) : Int) : Int) != (((b2n : Nat) : Int))) = true then
    (R (.returned (.bool (false) : Value)) w)
    else
    (∃ s17 : StOf m15_S0, [.int .i64 (0)] = encOf m15_S0 s17 ∧ LoopP (fun again s wl => ∀ _r : Env, m15_B0 R (a1A) (a1n) (a1c) (b2A) (b2n) (b2c) again (s.1) wl) s17 w)

theorem e15 (R : Ending → World → Prop) (a1A : Option Addr) (a1n : Nat) (a1c : Nat) (b2A : Option Addr) (b2n : Nat) (b2c : Nat) (w : World) : bodyP Tryz.prog T B (drawP Tryz.prog T B) m15_A Tryz.f15 [.slice (a1A) (a1n) (a1c), .slice (b2A) (b2n) (b2c)] w R = m15 R a1A a1n a1c b2A b2n b2c w := by kernel_rfl
theorem c15 {R : Ending → World → Prop} (a1A : Option Addr) (a1n : Nat) (a1c : Nat) (b2A : Option Addr) (b2n : Nat) (b2c : Nat) {w : World} (h : m15 R a1A a1n a1c b2A b2n b2c w) : Calls Tryz.prog 15 #[.slice (a1A) (a1n) (a1c), .slice (b2A) (b2n) (b2c)] w R :=
  calls_of_bodyP hT hB hD Tryz.func15 (Nat.le_of_ble_eq_true (by kernel_rfl)) (by kernel_rfl) ((e15 R a1A a1n a1c b2A b2n b2c w).symm ▸ h)

/-! ### 17 refuter/refuterref21.Sort -/
def m17_S0 : List (Nat × TK) := [(3, .slice 0 0), (4, .int .i64)]
def m17_A : Nat → List (Nat × TK) × List Nat
  | 0 => (m17_S0, [0])
  | _ => ([], [])
def m17_K1 (R : Ending → World → Prop) (out12A : Option Addr) (out12n : Nat) (out12c : Nat) (w : World) : Prop :=
    R (.returned (.slice (out12A) (out12n) (out12c) : Value)) w

def m17_B0 (R : Ending → World → Prop) (l2A : Option Addr) (l2n : Nat) (l2c : Nat) (again0 : StOf m17_S0 → World → Prop) (out3A : Option Addr) (out3n : Nat) (out3c : Nat) (i4 : Int) (w : World) : Prop :=
    if (decide ((i4 : Int) < (((l2n : Nat) : Int)))) = true then
    (∃ a5, (l2A : Option Addr) = some a5 ∧ 0 ≤ (i4 : Int) ∧ (i4 : Int) < ((l2n : Nat) : Int) ∧
    ∃ v6, World.cell? w (a5.add ((i4 : Int).toNat * 1)) = some v6 ∧ ∃ x7A x7n x7c, v6 = .slice x7A x7n x7c ∧ Calls Tryz.prog 38 #[.slice (out3A) (out3n) (out3c), .slice (x7A) (x7n) (x7c)] w (Ret (fun r8 wv9 =>
    ∃ x10A x10n x10c, r8 = .slice x10A x10n x10c ∧ ∃ s11 : StOf m17_S0, [.slice (x10A) (x10n) (x10c), .int .i64 (IntKind.i64.wrap ((i4 : Int) + (1)))] = encOf m17_S0 s11 ∧ again0 s11 wv9) (fun ch w => R (.panicked ch) w)))
    else
    (m17_K1 R (out3A) (out3n) (out3c) w)

def m17 (R : Ending → World → Prop) (l1A : Option Addr) (l1n : Nat) (l1c : Nat) (w : World) : Prop :=
    ∃ s13 : StOf m17_S0, [.slice (none) (0) (0), .int .i64 (0)] = encOf m17_S0 s13 ∧ LoopP (fun again s wl => ∀ _r : Env, m17_B0 R (l1A) (l1n) (l1c) again (s.1.1) (s.1.2.1) (s.1.2.2) (s.2.1) wl) s13 w

theorem e17 (R : Ending → World → Prop) (l1A : Option Addr) (l1n : Nat) (l1c : Nat) (w : World) : bodyP Tryz.prog T B (drawP Tryz.prog T B) m17_A Tryz.f17 [.slice (l1A) (l1n) (l1c)] w R = m17 R l1A l1n l1c w := by kernel_rfl
theorem c17 {R : Ending → World → Prop} (l1A : Option Addr) (l1n : Nat) (l1c : Nat) {w : World} (h : m17 R l1A l1n l1c w) : Calls Tryz.prog 17 #[.slice (l1A) (l1n) (l1c)] w R :=
  calls_of_bodyP hT hB hD Tryz.func17 (Nat.le_of_ble_eq_true (by kernel_rfl)) (by kernel_rfl) ((e17 R l1A l1n l1c w).symm ▸ h)

/-! ### 29 refuter/refuterref01.Around -/
def m29_A : Nat → List (Nat × TK) × List Nat
  | _ => ([], [])
def m29_K1 (R : Ending → World → Prop) (n3 : Int) (most4 : Int) (w : World) : Prop :=
    (most4 : Int) ≠ 0 ∧ R (.returned (.int .i64 ((n3 : Int).tmod (most4)) : Value)) w

def m29 (R : Ending → World → Prop) (n1 : Int) (most2 : Int) (w : World) : Prop :=
    if (decide ((n1 : Int) < (0))) = true then
    (m29_K1 R (IntKind.i64.wrap (0 - (IntKind.i64.wrap ((n1 : Int) + (1)) : Int))) (most2) w)
    else
    (m29_K1 R (n1) (most2) w)

theorem e29 (R : Ending → World → Prop) (n1 : Int) (most2 : Int) (w : World) : bodyP Tryz.prog T B (drawP Tryz.prog T B) m29_A Tryz.f29 [.int .i64 (n1), .int .i64 (most2)] w R = m29 R n1 most2 w := by kernel_rfl
theorem c29 {R : Ending → World → Prop} (n1 : Int) (most2 : Int) {w : World} (h : m29 R n1 most2 w) : Calls Tryz.prog 29 #[.int .i64 (n1), .int .i64 (most2)] w R :=
  calls_of_bodyP hT hB hD Tryz.func29 (Nat.le_of_ble_eq_true (by kernel_rfl)) (by kernel_rfl) ((e29 R n1 most2 w).symm ▸ h)

/-! ### 33 refuter/refuterref01.SameInts -/
def m33_S0 : List (Nat × TK) := [(5, .int .i64)]
def m33_A : Nat → List (Nat × TK) × List Nat
  | 0 => (m33_S0, [0, 1])
  | _ => ([], [])
def m33_K1 (R : Ending → World → Prop) (w : World) : Prop :=
    R (.returned (.bool (true) : Value)) w

def m33_B0 (R : Ending → World → Prop) (a3A : Option Addr) (a3n : Nat) (a3c : Nat) (b4A : Option Addr) (b4n : Nat) (b4c : Nat) (again0 : StOf m33_S0 → World → Prop) (i5 : Int) (w : World) : Prop :=
    if (decide ((i5 : Int) < (((a3n : Nat) : Int)))) = true then
    (∃ Sv6 : World → Prop, Sv6 (World.drew w) ∧
    ∃ a7, (a3A : Option Addr) = some a7 ∧ 0 ≤ (i5 : Int) ∧ (i5 : Int) < ((a3n : Nat) : Int) ∧
    ∃ v8, (∀ w', Sv6 w' → World.cell? w' (a7.add ((i5 : Int).toNat * 1)) = some v8) ∧ ∃ x9, v8 = .int .i64 x9 ∧ ∃ a10, (b4A : Option Addr) = some a10 ∧ 0 ≤ (i5 : Int) ∧ (i5 : Int) < ((b4n : Nat) : Int) ∧
    ∃ v11, (∀ w', Sv6 w' → World.cell? w' (a10.add ((i5 : Int).toNat * 1)) = some v11) ∧ ∃ x12, v11 = .int .i64 x12 ∧ if ((x9 : Int) != (x12)) = true then
    (R (.returned (.bool (false) : Value)) (World.drew w))
    else
    (∃ s13 : StOf m33_S0, [.int .i64 (IntKind.i64.wrap ((i5 : Int) + (1)))] = encOf m33_S0 s13 ∧ again0 s13 (World.drew w)))
    else
    (m33_K1 R w)

def m33 (R : Ending → World → Prop) (a1A : Option Addr) (a1n : Nat) (a1c : Nat) (b2A : Option Addr) (b2n : Nat) (b2c : Nat) (w : World) : Prop :=
    if ((((a1n : Nat) : Int) : Int) != (((b2n : Nat) : Int))) = true then
    (R (.returned (.bool (false) : Value)) w)
    else
    (∃ s14 : StOf m33_S0, [.int .i64 (0)] = encOf m33_S0 s14 ∧ LoopP (fun again s wl => ∀ _r : Env, m33_B0 R (a1A) (a1n) (a1c) (b2A) (b2n) (b2c) again (s.1) wl) s14 w)

theorem e33 (R : Ending → World → Prop) (a1A : Option Addr) (a1n : Nat) (a1c : Nat) (b2A : Option Addr) (b2n : Nat) (b2c : Nat) (w : World) : bodyP Tryz.prog T B (drawP Tryz.prog T B) m33_A Tryz.f33 [.slice (a1A) (a1n) (a1c), .slice (b2A) (b2n) (b2c)] w R = m33 R a1A a1n a1c b2A b2n b2c w := by kernel_rfl
theorem c33 {R : Ending → World → Prop} (a1A : Option Addr) (a1n : Nat) (a1c : Nat) (b2A : Option Addr) (b2n : Nat) (b2c : Nat) {w : World} (h : m33 R a1A a1n a1c b2A b2n b2c w) : Calls Tryz.prog 33 #[.slice (a1A) (a1n) (a1c), .slice (b2A) (b2n) (b2c)] w R :=
  calls_of_bodyP hT hB hD Tryz.func33 (Nat.le_of_ble_eq_true (by kernel_rfl)) (by kernel_rfl) ((e33 R a1A a1n a1c b2A b2n b2c w).symm ▸ h)

/-! ### 38 refuter/refuterref21.Put -/
def m38_S0 : List (Nat × TK) := [(5, .int .i64)]
def m38_A : Nat → List (Nat × TK) × List Nat
  | 0 => (m38_S0, [0, 1])
  | _ => ([], [])
def m38_K3 (R : Ending → World → Prop) (l26A : Option Addr) (l26n : Nat) (l26c : Nat) (x27A : Option Addr) (x27n : Nat) (x27c : Nat) (k28 : Int) (v29 : Bool) (w : World) : Prop :=
    if (v29) = true then
    (R (.returned (.slice (l26A) (l26n) (l26c) : Value)) w)
    else
    (0 ≤ (k28 : Int) ∧ (k28 : Int) ≤ ((l26c : Nat) : Int) ∧ RunV Tryz.prog (Builtin.append_ #[23, 23] 23 #[.slice (none) (0) (0), .slice (sliceAddr (l26A) (0) (l26c) 1) (((k28 : Int).toNat) - (0)) ((l26c) - (0))]) w fun r30 wv31 =>
    ∃ x32A x32n x32c, r30 = .slice x32A x32n x32c ∧ Sized 1 [.slice (x27A) (x27n) (x27c)] ∧
    RunV Tryz.prog (Builtin.append_ #[23, 23] 23 #[.slice (x32A) (x32n) (x32c), .slice (some (⟨wv31.heap.size, 0, none⟩)) (1) (1)]) (World.alloc wv31 (.cells (flat [.slice (x27A) (x27n) (x27c)]) 22)) fun r33 wv34 =>
    ∃ x35A x35n x35c, r33 = .slice x35A x35n x35c ∧ 0 ≤ (k28 : Int) ∧ (k28 : Int) ≤ ((l26n : Nat) : Int) ∧ RunV Tryz.prog (Builtin.append_ #[23, 23] 23 #[.slice (x35A) (x35n) (x35c), .slice (sliceAddr (l26A) ((k28 : Int).toNat) (l26c) 1) ((l26n) - ((k28 : Int).toNat)) ((l26c) - ((k28 : Int).toNat))]) wv34 fun r36 wv37 =>
    ∃ x38A x38n x38c, r36 = .slice x38A x38n x38c ∧ R (.returned (.slice (x38A) (x38n) (x38c) : Value)) wv37)

def m38_K1 (R : Ending → World → Prop) (l17A : Option Addr) (l17n : Nat) (l17c : Nat) (x18A : Option Addr) (x18n : Nat) (x18c : Nat) (k19 : Int) (w : World) : Prop :=
    if (decide ((k19 : Int) < (((l17n : Nat) : Int)))) = true then
    (∃ a20, (l17A : Option Addr) = some a20 ∧ 0 ≤ (k19 : Int) ∧ (k19 : Int) < ((l17n : Nat) : Int) ∧
    ∃ v21, World.cell? w (a20.add ((k19 : Int).toNat * 1)) = some v21 ∧ ∃ x22A x22n x22c, v21 = .slice x22A x22n x22c ∧ Calls Tryz.prog 14 #[.slice (x22A) (x22n) (x22c), .slice (x18A) (x18n) (x18c)] w (Ret (fun r23 wv24 =>
    ∃ x25, r23 = .int .i64 x25 ∧ m38_K3 R (l17A) (l17n) (l17c) (x18A) (x18n) (x18c) (k19) ((x25 : Int) == (0)) wv24) (fun ch w => R (.panicked ch) w)))
    else
    (m38_K3 R (l17A) (l17n) (l17c) (x18A) (x18n) (x18c) (k19) (false) w)

def m38_K2 (R : Ending → World → Prop) (again0 : StOf m38_S0 → World → Prop) (l12A : Option Addr) (l12n : Nat) (l12c : Nat) (x13A : Option Addr) (x13n : Nat) (x13c : Nat) (k14 : Int) (v15 : Bool) (w : World) : Prop :=
    if (v15) = true then
    (∃ s16 : StOf m38_S0, [.int .i64 (IntKind.i64.wrap ((k14 : Int) + (1)))] = encOf m38_S0 s16 ∧ again0 s16 w)
    else
    (m38_K1 R (l12A) (l12n) (l12c) (x13A) (x13n) (x13c) (k14) w)

def m38_B0 (R : Ending → World → Prop) (l3A : Option Addr) (l3n : Nat) (l3c : Nat) (x4A : Option Addr) (x4n : Nat) (x4c : Nat) (again0 : StOf m38_S0 → World → Prop) (k5 : Int) (w : World) : Prop :=
    if (decide ((k5 : Int) < (((l3n : Nat) : Int)))) = true then
    (∃ a6, (l3A : Option Addr) = some a6 ∧ 0 ≤ (k5 : Int) ∧ (k5 : Int) < ((l3n : Nat) : Int) ∧
    ∃ v7, World.cell? w (a6.add ((k5 : Int).toNat * 1)) = some v7 ∧ ∃ x8A x8n x8c, v7 = .slice x8A x8n x8c ∧ Calls Tryz.prog 14 #[.slice (x8A) (x8n) (x8c), .slice (x4A) (x4n) (x4c)] w (Ret (fun r9 wv10 =>
    ∃ x11, r9 = .int .i64 x11 ∧ m38_K2 R again0 (l3A) (l3n) (l3c) (x4A) (x4n) (x4c) (k5) (decide ((x11 : Int) < (0))) wv10) (fun ch w => R (.panicked ch) w)))
    else
    (m38_K2 R again0 (l3A) (l3n) (l3c) (x4A) (x4n) (x4c) (k5) (false) w)

def m38 (R : Ending → World → Prop) (l1A : Option Addr) (l1n : Nat) (l1c : Nat) (x2A : Option Addr) (x2n : Nat) (x2c : Nat) (w : World) : Prop :=
    ∃ s39 : StOf m38_S0, [.int .i64 (0)] = encOf m38_S0 s39 ∧ LoopP (fun again s wl => ∀ _r : Env, m38_B0 R (l1A) (l1n) (l1c) (x2A) (x2n) (x2c) again (s.1) wl) s39 w

theorem e38 (R : Ending → World → Prop) (l1A : Option Addr) (l1n : Nat) (l1c : Nat) (x2A : Option Addr) (x2n : Nat) (x2c : Nat) (w : World) : bodyP Tryz.prog T B (drawP Tryz.prog T B) m38_A Tryz.f38 [.slice (l1A) (l1n) (l1c), .slice (x2A) (x2n) (x2c)] w R = m38 R l1A l1n l1c x2A x2n x2c w := by kernel_rfl
theorem c38 {R : Ending → World → Prop} (l1A : Option Addr) (l1n : Nat) (l1c : Nat) (x2A : Option Addr) (x2n : Nat) (x2c : Nat) {w : World} (h : m38 R l1A l1n l1c x2A x2n x2c w) : Calls Tryz.prog 38 #[.slice (l1A) (l1n) (l1c), .slice (x2A) (x2n) (x2c)] w R :=
  calls_of_bodyP hT hB hD Tryz.func38 (Nat.le_of_ble_eq_true (by kernel_rfl)) (by kernel_rfl) ((e38 R l1A l1n l1c x2A x2n x2c w).symm ▸ h)

end Go.Proofs.YtilacabmbjephaaGreatDoor
