/- Mirrors of Go functions and their links to the evaluator; printed by wip/mir.py. -/
import Derived.Test.YtilacabmbjephaaGreatDoorGxT
namespace Go.Proofs.YtilacabmbjephaaGreatDoor
open Go Go.GX
set_option linter.unusedVariables false
set_option maxRecDepth 100000

/-! ### 25 refuter/order.Lowers -/
def m25_A : Nat → List (Nat × TK) × List Nat
  | _ => ([], [])
def m25 (R : Ending → World → Prop) (t1 : Array Value) (path2A : Option Addr) (path2n : Nat) (path2c : Nat) (w : World) : Prop :=
    ∃ x3 : Array Value, x3.size = 1 ∧ CellsAt (World.alloc w (.cells (t1) 40)) (⟨w.heap.size, 0, none⟩) x3 ∧
    Sized 1 [.string (⟨#[108, 111, 119, 101, 114, 115]⟩)] ∧
    Calls Tryz.prog 51 #[.agg (x3), .slice (path2A) (path2n) (path2c), .slice (some (⟨(World.alloc w (.cells (t1) 40)).heap.size, 0, none⟩)) (1) (1)] (World.alloc (World.alloc w (.cells (t1) 40)) (.cells (flat [.string (⟨#[108, 111, 119, 101, 114, 115]⟩)]) 9)) (Ret (fun r4 wv5 =>
    ∃ x6 x7, r4 = .tuple #[x6, x7] ∧ ∃ x8A x8n x8c, x6 = .slice x8A x8n x8c ∧ ∃ x9, x7 = .int .i64 x9 ∧ R (.returned (.tuple #[.slice (x8A) (x8n) (x8c), .int .i64 (x9)])) wv5) (fun ch w => R (.panicked ch) w))

theorem e25 (R : Ending → World → Prop) (t1 : Array Value) (path2A : Option Addr) (path2n : Nat) (path2c : Nat) (w : World) : bodyP Tryz.prog T B (drawP Tryz.prog T B) m25_A Tryz.f25 [.agg (t1), .slice (path2A) (path2n) (path2c)] w R = m25 R t1 path2A path2n path2c w := by kernel_rfl
theorem c25 {R : Ending → World → Prop} (t1 : Array Value) (path2A : Option Addr) (path2n : Nat) (path2c : Nat) {w : World} (h : m25 R t1 path2A path2n path2c w) : Calls Tryz.prog 25 #[.agg (t1), .slice (path2A) (path2n) (path2c)] w R :=
  calls_of_bodyP hT hB hD Tryz.func25 (Nat.le_of_ble_eq_true (by kernel_rfl)) (by kernel_rfl) ((e25 R t1 path2A path2n path2c w).symm ▸ h)

/-! ### 26 refuter/order.Shares -/
def m26_A : Nat → List (Nat × TK) × List Nat
  | _ => ([], [])
def m26 (R : Ending → World → Prop) (t1 : Array Value) (path2A : Option Addr) (path2n : Nat) (path2c : Nat) (w : World) : Prop :=
    ∃ x3 : Array Value, x3.size = 1 ∧ CellsAt (World.alloc w (.cells (t1) 40)) (⟨w.heap.size, 0, none⟩) x3 ∧
    Sized 1 [.string (⟨#[115, 104, 97, 114, 101, 115]⟩)] ∧
    Calls Tryz.prog 51 #[.agg (x3), .slice (path2A) (path2n) (path2c), .slice (some (⟨(World.alloc w (.cells (t1) 40)).heap.size, 0, none⟩)) (1) (1)] (World.alloc (World.alloc w (.cells (t1) 40)) (.cells (flat [.string (⟨#[115, 104, 97, 114, 101, 115]⟩)]) 9)) (Ret (fun r4 wv5 =>
    ∃ x6 x7, r4 = .tuple #[x6, x7] ∧ ∃ x8A x8n x8c, x6 = .slice x8A x8n x8c ∧ ∃ x9, x7 = .int .i64 x9 ∧ R (.returned (.tuple #[.slice (x8A) (x8n) (x8c), .int .i64 (x9)])) wv5) (fun ch w => R (.panicked ch) w))

theorem e26 (R : Ending → World → Prop) (t1 : Array Value) (path2A : Option Addr) (path2n : Nat) (path2c : Nat) (w : World) : bodyP Tryz.prog T B (drawP Tryz.prog T B) m26_A Tryz.f26 [.agg (t1), .slice (path2A) (path2n) (path2c)] w R = m26 R t1 path2A path2n path2c w := by kernel_rfl
theorem c26 {R : Ending → World → Prop} (t1 : Array Value) (path2A : Option Addr) (path2n : Nat) (path2c : Nat) {w : World} (h : m26 R t1 path2A path2n path2c w) : Calls Tryz.prog 26 #[.agg (t1), .slice (path2A) (path2n) (path2c)] w R :=
  calls_of_bodyP hT hB hD Tryz.func26 (Nat.le_of_ble_eq_true (by kernel_rfl)) (by kernel_rfl) ((e26 R t1 path2A path2n path2c w).symm ▸ h)

/-! ### 39 refuter/order.Deletes -/
def m39_A : Nat → List (Nat × TK) × List Nat
  | _ => ([], [])
def m39 (R : Ending → World → Prop) (t1 : Array Value) (path2A : Option Addr) (path2n : Nat) (path2c : Nat) (w : World) : Prop :=
    ∃ x3 : Array Value, x3.size = 1 ∧ CellsAt (World.alloc w (.cells (t1) 40)) (⟨w.heap.size, 0, none⟩) x3 ∧
    Sized 1 [.string (⟨#[100, 101, 108, 101, 116, 101, 115]⟩)] ∧
    Calls Tryz.prog 51 #[.agg (x3), .slice (path2A) (path2n) (path2c), .slice (some (⟨(World.alloc w (.cells (t1) 40)).heap.size, 0, none⟩)) (1) (1)] (World.alloc (World.alloc w (.cells (t1) 40)) (.cells (flat [.string (⟨#[100, 101, 108, 101, 116, 101, 115]⟩)]) 9)) (Ret (fun r4 wv5 =>
    ∃ x6 x7, r4 = .tuple #[x6, x7] ∧ ∃ x8A x8n x8c, x6 = .slice x8A x8n x8c ∧ ∃ x9, x7 = .int .i64 x9 ∧ R (.returned (.tuple #[.slice (x8A) (x8n) (x8c), .int .i64 (x9)])) wv5) (fun ch w => R (.panicked ch) w))

theorem e39 (R : Ending → World → Prop) (t1 : Array Value) (path2A : Option Addr) (path2n : Nat) (path2c : Nat) (w : World) : bodyP Tryz.prog T B (drawP Tryz.prog T B) m39_A Tryz.f39 [.agg (t1), .slice (path2A) (path2n) (path2c)] w R = m39 R t1 path2A path2n path2c w := by kernel_rfl
theorem c39 {R : Ending → World → Prop} (t1 : Array Value) (path2A : Option Addr) (path2n : Nat) (path2c : Nat) {w : World} (h : m39 R t1 path2A path2n path2c w) : Calls Tryz.prog 39 #[.agg (t1), .slice (path2A) (path2n) (path2c)] w R :=
  calls_of_bodyP hT hB hD Tryz.func39 (Nat.le_of_ble_eq_true (by kernel_rfl)) (by kernel_rfl) ((e39 R t1 path2A path2n path2c w).symm ▸ h)

/-! ### 41 refuter/order.Swaps -/
def m41_A : Nat → List (Nat × TK) × List Nat
  | _ => ([], [])
def m41 (R : Ending → World → Prop) (t1 : Array Value) (path2A : Option Addr) (path2n : Nat) (path2c : Nat) (w : World) : Prop :=
    ∃ x3 : Array Value, x3.size = 1 ∧ CellsAt (World.alloc w (.cells (t1) 40)) (⟨w.heap.size, 0, none⟩) x3 ∧
    Sized 1 [.string (⟨#[115, 119, 97, 112, 115]⟩)] ∧
    Calls Tryz.prog 51 #[.agg (x3), .slice (path2A) (path2n) (path2c), .slice (some (⟨(World.alloc w (.cells (t1) 40)).heap.size, 0, none⟩)) (1) (1)] (World.alloc (World.alloc w (.cells (t1) 40)) (.cells (flat [.string (⟨#[115, 119, 97, 112, 115]⟩)]) 9)) (Ret (fun r4 wv5 =>
    ∃ x6 x7, r4 = .tuple #[x6, x7] ∧ ∃ x8A x8n x8c, x6 = .slice x8A x8n x8c ∧ ∃ x9, x7 = .int .i64 x9 ∧ R (.returned (.tuple #[.slice (x8A) (x8n) (x8c), .int .i64 (x9)])) wv5) (fun ch w => R (.panicked ch) w))

theorem e41 (R : Ending → World → Prop) (t1 : Array Value) (path2A : Option Addr) (path2n : Nat) (path2c : Nat) (w : World) : bodyP Tryz.prog T B (drawP Tryz.prog T B) m41_A Tryz.f41 [.agg (t1), .slice (path2A) (path2n) (path2c)] w R = m41 R t1 path2A path2n path2c w := by kernel_rfl
theorem c41 {R : Ending → World → Prop} (t1 : Array Value) (path2A : Option Addr) (path2n : Nat) (path2c : Nat) {w : World} (h : m41 R t1 path2A path2n path2c w) : Calls Tryz.prog 41 #[.agg (t1), .slice (path2A) (path2n) (path2c)] w R :=
  calls_of_bodyP hT hB hD Tryz.func41 (Nat.le_of_ble_eq_true (by kernel_rfl)) (by kernel_rfl) ((e41 R t1 path2A path2n path2c w).symm ▸ h)

/-! ### 75 refuter/order.deletes -/
def m75_A : Nat → List (Nat × TK) × List Nat
  | _ => ([], [])
def m75 (R : Ending → World → Prop) (p1A : Option Addr) (p1n : Nat) (p1c : Nat) (spans2A : Option Addr) (spans2n : Nat) (spans2c : Nat) (w : World) : Prop :=
    R (.returned (.func (.func 129) #[] #[.pointer (some (⟨(World.alloc w (.cells (#[.slice (p1A) (p1n) (p1c)]) 22)).heap.size, 0, none⟩)), .pointer (some (⟨w.heap.size, 0, none⟩))] : Value)) (World.alloc (World.alloc w (.cells (#[.slice (p1A) (p1n) (p1c)]) 22)) (.cells (#[.slice (spans2A) (spans2n) (spans2c)]) 68))

theorem e75 (R : Ending → World → Prop) (p1A : Option Addr) (p1n : Nat) (p1c : Nat) (spans2A : Option Addr) (spans2n : Nat) (spans2c : Nat) (w : World) : bodyP Tryz.prog T B (drawP Tryz.prog T B) m75_A Tryz.f75 [.slice (p1A) (p1n) (p1c), .slice (spans2A) (spans2n) (spans2c)] w R = m75 R p1A p1n p1c spans2A spans2n spans2c w := by kernel_rfl
theorem c75 {R : Ending → World → Prop} (p1A : Option Addr) (p1n : Nat) (p1c : Nat) (spans2A : Option Addr) (spans2n : Nat) (spans2c : Nat) {w : World} (h : m75 R p1A p1n p1c spans2A spans2n spans2c w) : Calls Tryz.prog 75 #[.slice (p1A) (p1n) (p1c), .slice (spans2A) (spans2n) (spans2c)] w R :=
  calls_of_bodyP hT hB hD Tryz.func75 (Nat.le_of_ble_eq_true (by kernel_rfl)) (by kernel_rfl) ((e75 R p1A p1n p1c spans2A spans2n spans2c w).symm ▸ h)

/-! ### 76 refuter/order.lowers -/
def m76_A : Nat → List (Nat × TK) × List Nat
  | _ => ([], [])
def m76 (R : Ending → World → Prop) (p1A : Option Addr) (p1n : Nat) (p1c : Nat) (v2A : Option Addr) (v2n : Nat) (v2c : Nat) (w : World) : Prop :=
    R (.returned (.func (.func 131) #[] #[.pointer (some (⟨w.heap.size, 0, none⟩))] : Value)) (World.alloc w (.cells (#[.slice (p1A) (p1n) (p1c)]) 22))

theorem e76 (R : Ending → World → Prop) (p1A : Option Addr) (p1n : Nat) (p1c : Nat) (v2A : Option Addr) (v2n : Nat) (v2c : Nat) (w : World) : bodyP Tryz.prog T B (drawP Tryz.prog T B) m76_A Tryz.f76 [.slice (p1A) (p1n) (p1c), .slice (v2A) (v2n) (v2c)] w R = m76 R p1A p1n p1c v2A v2n v2c w := by kernel_rfl
theorem c76 {R : Ending → World → Prop} (p1A : Option Addr) (p1n : Nat) (p1c : Nat) (v2A : Option Addr) (v2n : Nat) (v2c : Nat) {w : World} (h : m76 R p1A p1n p1c v2A v2n v2c w) : Calls Tryz.prog 76 #[.slice (p1A) (p1n) (p1c), .slice (v2A) (v2n) (v2c)] w R :=
  calls_of_bodyP hT hB hD Tryz.func76 (Nat.le_of_ble_eq_true (by kernel_rfl)) (by kernel_rfl) ((e76 R p1A p1n p1c v2A v2n v2c w).symm ▸ h)

/-! ### 77 refuter/order.swaps -/
def m77_A : Nat → List (Nat × TK) × List Nat
  | _ => ([], [])
def m77 (R : Ending → World → Prop) (p1A : Option Addr) (p1n : Nat) (p1c : Nat) (spans2A : Option Addr) (spans2n : Nat) (spans2c : Nat) (w : World) : Prop :=
    R (.returned (.func (.func 133) #[] #[.pointer (some (⟨(World.alloc w (.cells (#[.slice (p1A) (p1n) (p1c)]) 22)).heap.size, 0, none⟩)), .pointer (some (⟨w.heap.size, 0, none⟩))] : Value)) (World.alloc (World.alloc w (.cells (#[.slice (p1A) (p1n) (p1c)]) 22)) (.cells (#[.slice (spans2A) (spans2n) (spans2c)]) 68))

theorem e77 (R : Ending → World → Prop) (p1A : Option Addr) (p1n : Nat) (p1c : Nat) (spans2A : Option Addr) (spans2n : Nat) (spans2c : Nat) (w : World) : bodyP Tryz.prog T B (drawP Tryz.prog T B) m77_A Tryz.f77 [.slice (p1A) (p1n) (p1c), .slice (spans2A) (spans2n) (spans2c)] w R = m77 R p1A p1n p1c spans2A spans2n spans2c w := by kernel_rfl
theorem c77 {R : Ending → World → Prop} (p1A : Option Addr) (p1n : Nat) (p1c : Nat) (spans2A : Option Addr) (spans2n : Nat) (spans2c : Nat) {w : World} (h : m77 R p1A p1n p1c spans2A spans2n spans2c w) : Calls Tryz.prog 77 #[.slice (p1A) (p1n) (p1c), .slice (spans2A) (spans2n) (spans2c)] w R :=
  calls_of_bodyP hT hB hD Tryz.func77 (Nat.le_of_ble_eq_true (by kernel_rfl)) (by kernel_rfl) ((e77 R p1A p1n p1c spans2A spans2n spans2c w).symm ▸ h)

/-! ### 78 refuter/order.shares -/
def m78_A : Nat → List (Nat × TK) × List Nat
  | _ => ([], [])
def m78 (R : Ending → World → Prop) (p1A : Option Addr) (p1n : Nat) (p1c : Nat) (v2A : Option Addr) (v2n : Nat) (v2c : Nat) (w : World) : Prop :=
    R (.returned (.func (.func 134) #[] #[.pointer (some (⟨w.heap.size, 0, none⟩))] : Value)) (World.alloc w (.cells (#[.slice (p1A) (p1n) (p1c)]) 22))

theorem e78 (R : Ending → World → Prop) (p1A : Option Addr) (p1n : Nat) (p1c : Nat) (v2A : Option Addr) (v2n : Nat) (v2c : Nat) (w : World) : bodyP Tryz.prog T B (drawP Tryz.prog T B) m78_A Tryz.f78 [.slice (p1A) (p1n) (p1c), .slice (v2A) (v2n) (v2c)] w R = m78 R p1A p1n p1c v2A v2n v2c w := by kernel_rfl
theorem c78 {R : Ending → World → Prop} (p1A : Option Addr) (p1n : Nat) (p1c : Nat) (v2A : Option Addr) (v2n : Nat) (v2c : Nat) {w : World} (h : m78 R p1A p1n p1c v2A v2n v2c w) : Calls Tryz.prog 78 #[.slice (p1A) (p1n) (p1c), .slice (v2A) (v2n) (v2c)] w R :=
  calls_of_bodyP hT hB hD Tryz.func78 (Nat.le_of_ble_eq_true (by kernel_rfl)) (by kernel_rfl) ((e78 R p1A p1n p1c v2A v2n v2c w).symm ▸ h)

/-! ### 129 refuter/order.deletes$1 -/
def m129_S0 : List (Nat × TK) := [(11, .int .i64)]
def m129_A : Nat → List (Nat × TK) × List Nat
  | 0 => (m129_S0, [0, 2, 9, 10])
  | _ => ([], [])
def m129_K2 (R : Ending → World → Prop) (again0 : StOf m129_S0 → World → Prop) (l55 : Nat) (x56 : Addr) (x57A : Option Addr) (x57n : Nat) (x57c : Nat) (x58 : Int) (x59 : Int) (x60 : Bool) (w : World) : Prop :=
    if (x60) = true then
    (R (.returned (.tuple #[])) w)
    else
    (∃ s61 : StOf m129_S0, [.int .i64 (IntKind.i64.wrap ((x59 : Int) + (1)))] = encOf m129_S0 s61 ∧ again0 s61 w)

def m129_K1 (R : Ending → World → Prop) (w : World) : Prop :=
    R (.returned (.tuple #[])) w

def m129_B0 (R : Ending → World → Prop) (l6 : Nat) (x7 : Addr) (x8A : Option Addr) (x8n : Nat) (x8c : Nat) (x9 : Int) (again0 : StOf m129_S0 → World → Prop) (x10 : Int) (w : World) : Prop :=
    if (decide ((x10 : Int) < (x9))) = true then
    (∃ a11, (x8A : Option Addr) = some a11 ∧ 0 ≤ (x10 : Int) ∧ (x10 : Int) < ((x8n : Nat) : Int) ∧
    ∃ x12 : Array Value, x12.size = 3 * 1 ∧ CellsAt w (a11.add ((x10 : Int).toNat * 3)) x12 ∧
    (x12 : Array Value).size = 3 * 1 ∧ RunU Tryz.prog (storeCells (⟨w.heap.size, 0, none⟩) (x12 : Array Value).toList) (World.alloc w (.cells (#[.int .i64 0, .int .i64 0, .int .i64 0]) 168)) fun wv13 =>
    ∃ Sv14 : World → Prop, Sv14 (World.drew wv13) ∧
    0 ≤ (0 : Int) ∧ (0 : Int) < ((3 : Nat) : Int) ∧ ∃ v15, (∀ w', Sv14 w' → World.cell? w' ((⟨w.heap.size, 0, none⟩ : Addr).add ((0 : Int).toNat * 1)) = some v15) ∧ ∃ x16, v15 = .int .i64 x16 ∧ 0 ≤ (1 : Int) ∧ (1 : Int) < ((3 : Nat) : Int) ∧ ∃ v17, (∀ w', Sv14 w' → World.cell? w' ((⟨w.heap.size, 0, none⟩ : Addr).add ((1 : Int).toNat * 1)) = some v17) ∧ ∃ x18, v17 = .int .i64 x18 ∧ 0 ≤ (2 : Int) ∧ (2 : Int) < ((3 : Nat) : Int) ∧ ∃ v19, (∀ w', Sv14 w' → World.cell? w' ((⟨w.heap.size, 0, none⟩ : Addr).add ((2 : Int).toNat * 1)) = some v19) ∧ ∃ x20, v19 = .int .i64 x20 ∧ ∃ Sv21 : World → Prop, Sv21 (World.drew (World.drew wv13)) ∧
    ∃ v22, (∀ w', Sv21 w' → World.cell? w' (x7) = some v22) ∧ ∃ x23A x23n x23c, v22 = .slice x23A x23n x23c ∧ 0 ≤ (x18 : Int) ∧ (x18 : Int) ≤ ((x23c : Nat) : Int) ∧ ∃ v24, (∀ w', Sv21 w' → World.cell? w' (x7) = some v24) ∧ ∃ x25A x25n x25c, v24 = .slice x25A x25n x25c ∧ 0 ≤ (x20 : Int) ∧ (x20 : Int) ≤ ((x25n : Nat) : Int) ∧ Sized 1 [.slice (sliceAddr (x23A) (0) (x23c) 1) (((x18 : Int).toNat) - (0)) ((x23c) - (0)), .slice (sliceAddr (x25A) ((x20 : Int).toNat) (x25c) 1) ((x25n) - ((x20 : Int).toNat)) ((x25c) - ((x20 : Int).toNat))] ∧
    Sv21 (World.alloc (World.drew (World.drew wv13)) (.cells (flat [.slice (sliceAddr (x23A) (0) (x23c) 1) (((x18 : Int).toNat) - (0)) ((x23c) - (0)), .slice (sliceAddr (x25A) ((x20 : Int).toNat) (x25c) 1) ((x25n) - ((x20 : Int).toNat)) ((x25c) - ((x20 : Int).toNat))]) 22)) ∧
    Calls Tryz.prog 130 #[.slice (some (⟨(World.drew (World.drew wv13)).heap.size, 0, none⟩)) (2) (2)] (World.alloc (World.drew (World.drew wv13)) (.cells (flat [.slice (sliceAddr (x23A) (0) (x23c) 1) (((x18 : Int).toNat) - (0)) ((x23c) - (0)), .slice (sliceAddr (x25A) ((x20 : Int).toNat) (x25c) 1) ((x25n) - ((x20 : Int).toNat)) ((x25c) - ((x20 : Int).toNat))]) 22)) (Ret (fun r26 wv27 =>
    ∃ x28A x28n x28c, r26 = .slice x28A x28n x28c ∧ Sv21 wv27 ∧
    (#[] : Array Value).size = 0 ∧ CallsBody Tryz.prog l6 #[.slice (x28A) (x28n) (x28c)] wv27 (Ret (fun r29 wv30 =>
    ∃ x31, r29 = .bool x31 ∧ Sv21 wv30 ∧
    if (!(x31 : Bool)) = true then
    (R (.returned (.tuple #[])) wv30)
    else
    (∃ Sv32 : World → Prop, Sv32 (World.drew wv30) ∧
    if (decide ((x16 : Int) > (0))) = true then
    (∃ v33, (∀ w', Sv32 w' → World.cell? w' (x7) = some v33) ∧ ∃ x34A x34n x34c, v33 = .slice x34A x34n x34c ∧ ∃ a35, (x34A : Option Addr) = some a35 ∧ 0 ≤ (IntKind.i64.wrap ((x16 : Int) - (1)) : Int) ∧ (IntKind.i64.wrap ((x16 : Int) - (1)) : Int) < ((x34n : Nat) : Int) ∧
    ∃ v36, (∀ w', Sv32 w' → World.cell? w' (a35.add ((IntKind.i64.wrap ((x16 : Int) - (1)) : Int).toNat * 1)) = some v36) ∧ ∃ x37, v36 = .int .i64 x37 ∧ if (decide ((x37 : Int) > (0))) = true then
    (∃ v38, (∀ w', Sv32 w' → World.cell? w' (x7) = some v38) ∧ ∃ x39A x39n x39c, v38 = .slice x39A x39n x39c ∧ 0 ≤ (IntKind.i64.wrap ((x16 : Int) - (1)) : Int) ∧ (IntKind.i64.wrap ((x16 : Int) - (1)) : Int) ≤ ((x39c : Nat) : Int) ∧ ∃ v40, (∀ w', Sv32 w' → World.cell? w' (x7) = some v40) ∧ ∃ x41A x41n x41c, v40 = .slice x41A x41n x41c ∧ ∃ a42, (x41A : Option Addr) = some a42 ∧ 0 ≤ (IntKind.i64.wrap ((x16 : Int) - (1)) : Int) ∧ (IntKind.i64.wrap ((x16 : Int) - (1)) : Int) < ((x41n : Nat) : Int) ∧
    ∃ v43, (∀ w', Sv32 w' → World.cell? w' (a42.add ((IntKind.i64.wrap ((x16 : Int) - (1)) : Int).toNat * 1)) = some v43) ∧ ∃ x44, v43 = .int .i64 x44 ∧ ∃ v45, (∀ w', Sv32 w' → World.cell? w' (x7) = some v45) ∧ ∃ x46A x46n x46c, v45 = .slice x46A x46n x46c ∧ 0 ≤ (x18 : Int) ∧ (x18 : Int) ≤ ((x46c : Nat) : Int) ∧ 0 ≤ (x16 : Int) ∧ (x16 : Int) ≤ (x18 : Int) ∧ ∃ v47, (∀ w', Sv32 w' → World.cell? w' (x7) = some v47) ∧ ∃ x48A x48n x48c, v47 = .slice x48A x48n x48c ∧ 0 ≤ (x20 : Int) ∧ (x20 : Int) ≤ ((x48n : Nat) : Int) ∧ Sized 1 [.int .i64 (IntKind.i64.wrap ((x44 : Int) - (1)))] ∧
    Sv32 (World.alloc (World.drew wv30) (.cells (flat [.int .i64 (IntKind.i64.wrap ((x44 : Int) - (1)))]) 3)) ∧
    Sized 1 [.slice (sliceAddr (x39A) (0) (x39c) 1) (((IntKind.i64.wrap ((x16 : Int) - (1)) : Int).toNat) - (0)) ((x39c) - (0)), .slice (some (⟨(World.drew wv30).heap.size, 0, none⟩)) (1) (1), .slice (sliceAddr (x46A) ((x16 : Int).toNat) (x46c) 1) (((x18 : Int).toNat) - ((x16 : Int).toNat)) ((x46c) - ((x16 : Int).toNat)), .slice (sliceAddr (x48A) ((x20 : Int).toNat) (x48c) 1) ((x48n) - ((x20 : Int).toNat)) ((x48c) - ((x20 : Int).toNat))] ∧
    Sv32 (World.alloc (World.alloc (World.drew wv30) (.cells (flat [.int .i64 (IntKind.i64.wrap ((x44 : Int) - (1)))]) 3)) (.cells (flat [.slice (sliceAddr (x39A) (0) (x39c) 1) (((IntKind.i64.wrap ((x16 : Int) - (1)) : Int).toNat) - (0)) ((x39c) - (0)), .slice (some (⟨(World.drew wv30).heap.size, 0, none⟩)) (1) (1), .slice (sliceAddr (x46A) ((x16 : Int).toNat) (x46c) 1) (((x18 : Int).toNat) - ((x16 : Int).toNat)) ((x46c) - ((x16 : Int).toNat)), .slice (sliceAddr (x48A) ((x20 : Int).toNat) (x48c) 1) ((x48n) - ((x20 : Int).toNat)) ((x48c) - ((x20 : Int).toNat))]) 22)) ∧
    Calls Tryz.prog 130 #[.slice (some (⟨(World.alloc (World.drew wv30) (.cells (flat [.int .i64 (IntKind.i64.wrap ((x44 : Int) - (1)))]) 3)).heap.size, 0, none⟩)) (4) (4)] (World.alloc (World.alloc (World.drew wv30) (.cells (flat [.int .i64 (IntKind.i64.wrap ((x44 : Int) - (1)))]) 3)) (.cells (flat [.slice (sliceAddr (x39A) (0) (x39c) 1) (((IntKind.i64.wrap ((x16 : Int) - (1)) : Int).toNat) - (0)) ((x39c) - (0)), .slice (some (⟨(World.drew wv30).heap.size, 0, none⟩)) (1) (1), .slice (sliceAddr (x46A) ((x16 : Int).toNat) (x46c) 1) (((x18 : Int).toNat) - ((x16 : Int).toNat)) ((x46c) - ((x16 : Int).toNat)), .slice (sliceAddr (x48A) ((x20 : Int).toNat) (x48c) 1) ((x48n) - ((x20 : Int).toNat)) ((x48c) - ((x20 : Int).toNat))]) 22)) (Ret (fun r49 wv50 =>
    ∃ x51A x51n x51c, r49 = .slice x51A x51n x51c ∧ Sv32 wv50 ∧
    (#[] : Array Value).size = 0 ∧ CallsBody Tryz.prog l6 #[.slice (x51A) (x51n) (x51c)] wv50 (Ret (fun r52 wv53 =>
    ∃ x54, r52 = .bool x54 ∧ Sv32 wv53 ∧
    m129_K2 R again0 (l6) (x7) (x8A) (x8n) (x8c) (x9) (x10) (!(x54 : Bool)) wv53) (fun ch w => R (.panicked ch) w))) (fun ch w => R (.panicked ch) w)))
    else
    (m129_K2 R again0 (l6) (x7) (x8A) (x8n) (x8c) (x9) (x10) (false) (World.drew wv30)))
    else
    (m129_K2 R again0 (l6) (x7) (x8A) (x8n) (x8c) (x9) (x10) (false) (World.drew wv30)))) (fun ch w => R (.panicked ch) w))) (fun ch w => R (.panicked ch) w)))
    else
    (m129_K1 R w)

def m129 (R : Ending → World → Prop) (l1 : Nat) (cap2 : Addr) (cap3 : Addr) (w : World) : Prop :=
    ∃ v4, World.cell? w (cap2) = some v4 ∧ ∃ x5A x5n x5c, v4 = .slice x5A x5n x5c ∧ ∃ s62 : StOf m129_S0, [.int .i64 (0)] = encOf m129_S0 s62 ∧ LoopP (fun again s wl => ∀ _r : Env, m129_B0 R (l1) (cap3) (x5A) (x5n) (x5c) (((x5n : Nat) : Int)) again (s.1) wl) s62 w

theorem e129 (R : Ending → World → Prop) (l1 : Nat) (cap2 : Addr) (cap3 : Addr) (w : World) : bodyP Tryz.prog T B (drawP Tryz.prog T B) m129_A Tryz.f129 [.func (.yield l1) #[] #[], .pointer (some (cap2)), .pointer (some (cap3))] w R = m129 R l1 cap2 cap3 w := by kernel_rfl
theorem c129 {R : Ending → World → Prop} (l1 : Nat) (cap2 : Addr) (cap3 : Addr) {w : World} (h : m129 R l1 cap2 cap3 w) : Calls Tryz.prog 129 #[.func (.yield l1) #[] #[], .pointer (some (cap2)), .pointer (some (cap3))] w R :=
  calls_of_bodyP hT hB hD Tryz.func129 (Nat.le_of_ble_eq_true (by kernel_rfl)) (by kernel_rfl) ((e129 R l1 cap2 cap3 w).symm ▸ h)

/-! ### 130 refuter/order.joined -/
def m130_A : Nat → List (Nat × TK) × List Nat
  | _ => ([], [])
def m130 (R : Ending → World → Prop) (l1A : Option Addr) (l1n : Nat) (l1c : Nat) (w : World) : Prop :=
    Calls Tryz.prog 176 #[.slice (l1A) (l1n) (l1c)] w (Ret (fun r2 wv3 =>
    ∃ x4A x4n x4c, r2 = .slice x4A x4n x4c ∧ R (.returned (.slice (x4A) (x4n) (x4c) : Value)) wv3) (fun ch w => R (.panicked ch) w))

theorem e130 (R : Ending → World → Prop) (l1A : Option Addr) (l1n : Nat) (l1c : Nat) (w : World) : bodyP Tryz.prog T B (drawP Tryz.prog T B) m130_A Tryz.f130 [.slice (l1A) (l1n) (l1c)] w R = m130 R l1A l1n l1c w := by kernel_rfl
theorem c130 {R : Ending → World → Prop} (l1A : Option Addr) (l1n : Nat) (l1c : Nat) {w : World} (h : m130 R l1A l1n l1c w) : Calls Tryz.prog 130 #[.slice (l1A) (l1n) (l1c)] w R :=
  calls_of_bodyP hT hB hD Tryz.func130 (Nat.le_of_ble_eq_true (by kernel_rfl)) (by kernel_rfl) ((e130 R l1A l1n l1c w).symm ▸ h)

/-! ### 131 refuter/order.lowers$1 -/
def m131_S0 : List (Nat × TK) := [(7, .int .i64)]
def m131_A : Nat → List (Nat × TK) × List Nat
  | 0 => (m131_S0, [0, 1, 5, 6])
  | _ => ([], [])
def m131_K2 (R : Ending → World → Prop) (again0 : StOf m131_S0 → World → Prop) (l37 : Nat) (v38 : Addr) (v39A : Option Addr) (v39n : Nat) (v39c : Nat) (v40 : Int) (v41 : Int) (v42 : Bool) (w : World) : Prop :=
    if (v42) = true then
    (R (.returned (.tuple #[])) w)
    else
    (∃ s43 : StOf m131_S0, [.int .i64 (IntKind.i64.wrap ((v41 : Int) + (1)))] = encOf m131_S0 s43 ∧ again0 s43 w)

def m131_K1 (R : Ending → World → Prop) (w : World) : Prop :=
    R (.returned (.tuple #[])) w

def m131_B0 (R : Ending → World → Prop) (l5 : Nat) (v6 : Addr) (v7A : Option Addr) (v7n : Nat) (v7c : Nat) (v8 : Int) (again0 : StOf m131_S0 → World → Prop) (v9 : Int) (w : World) : Prop :=
    if (decide ((v9 : Int) < (v8))) = true then
    (∃ a10, (v7A : Option Addr) = some a10 ∧ 0 ≤ (v9 : Int) ∧ (v9 : Int) < ((v7n : Nat) : Int) ∧
    ∃ v11, World.cell? w (a10.add ((v9 : Int).toNat * 1)) = some v11 ∧ ∃ x12, v11 = .int .i64 x12 ∧ if (decide ((x12 : Int) > (0))) = true then
    (∃ v13, World.cell? w (v6) = some v13 ∧ ∃ x14A x14n x14c, v13 = .slice x14A x14n x14c ∧ Calls Tryz.prog 132 #[.slice (x14A) (x14n) (x14c), .int .i64 (v9), .int .i64 (0)] w (Ret (fun r15 wv16 =>
    ∃ x17A x17n x17c, r15 = .slice x17A x17n x17c ∧ (#[] : Array Value).size = 0 ∧ CallsBody Tryz.prog l5 #[.slice (x17A) (x17n) (x17c)] wv16 (Ret (fun r18 wv19 =>
    ∃ x20, r18 = .bool x20 ∧ if (x20) = true then
    (∃ v21, World.cell? wv19 (v6) = some v21 ∧ ∃ x22A x22n x22c, v21 = .slice x22A x22n x22c ∧ (2 : Int) ≠ 0 ∧ Calls Tryz.prog 132 #[.slice (x22A) (x22n) (x22c), .int .i64 (v9), .int .i64 (IntKind.i64.wrap ((x12 : Int).tdiv (2)))] wv19 (Ret (fun r23 wv24 =>
    ∃ x25A x25n x25c, r23 = .slice x25A x25n x25c ∧ (#[] : Array Value).size = 0 ∧ CallsBody Tryz.prog l5 #[.slice (x25A) (x25n) (x25c)] wv24 (Ret (fun r26 wv27 =>
    ∃ x28, r26 = .bool x28 ∧ if (x28) = true then
    (∃ v29, World.cell? wv27 (v6) = some v29 ∧ ∃ x30A x30n x30c, v29 = .slice x30A x30n x30c ∧ Calls Tryz.prog 132 #[.slice (x30A) (x30n) (x30c), .int .i64 (v9), .int .i64 (IntKind.i64.wrap ((x12 : Int) - (1)))] wv27 (Ret (fun r31 wv32 =>
    ∃ x33A x33n x33c, r31 = .slice x33A x33n x33c ∧ (#[] : Array Value).size = 0 ∧ CallsBody Tryz.prog l5 #[.slice (x33A) (x33n) (x33c)] wv32 (Ret (fun r34 wv35 =>
    ∃ x36, r34 = .bool x36 ∧ m131_K2 R again0 (l5) (v6) (v7A) (v7n) (v7c) (v8) (v9) (!(x36 : Bool)) wv35) (fun ch w => R (.panicked ch) w))) (fun ch w => R (.panicked ch) w)))
    else
    (m131_K2 R again0 (l5) (v6) (v7A) (v7n) (v7c) (v8) (v9) (!(false : Bool)) wv27)) (fun ch w => R (.panicked ch) w))) (fun ch w => R (.panicked ch) w)))
    else
    (m131_K2 R again0 (l5) (v6) (v7A) (v7n) (v7c) (v8) (v9) (!(false : Bool)) wv19)) (fun ch w => R (.panicked ch) w))) (fun ch w => R (.panicked ch) w)))
    else
    (m131_K2 R again0 (l5) (v6) (v7A) (v7n) (v7c) (v8) (v9) (false) w))
    else
    (m131_K1 R w)

def m131 (R : Ending → World → Prop) (l1 : Nat) (cap2 : Addr) (w : World) : Prop :=
    ∃ v3, World.cell? w (cap2) = some v3 ∧ ∃ x4A x4n x4c, v3 = .slice x4A x4n x4c ∧ ∃ s44 : StOf m131_S0, [.int .i64 (0)] = encOf m131_S0 s44 ∧ LoopP (fun again s wl => ∀ _r : Env, m131_B0 R (l1) (cap2) (x4A) (x4n) (x4c) (((x4n : Nat) : Int)) again (s.1) wl) s44 w

theorem e131 (R : Ending → World → Prop) (l1 : Nat) (cap2 : Addr) (w : World) : bodyP Tryz.prog T B (drawP Tryz.prog T B) m131_A Tryz.f131 [.func (.yield l1) #[] #[], .pointer (some (cap2))] w R = m131 R l1 cap2 w := by kernel_rfl
theorem c131 {R : Ending → World → Prop} (l1 : Nat) (cap2 : Addr) {w : World} (h : m131 R l1 cap2 w) : Calls Tryz.prog 131 #[.func (.yield l1) #[] #[], .pointer (some (cap2))] w R :=
  calls_of_bodyP hT hB hD Tryz.func131 (Nat.le_of_ble_eq_true (by kernel_rfl)) (by kernel_rfl) ((e131 R l1 cap2 w).symm ▸ h)

/-! ### 132 refuter/order.with -/
def m132_A : Nat → List (Nat × TK) × List Nat
  | _ => ([], [])
def m132 (R : Ending → World → Prop) (p1A : Option Addr) (p1n : Nat) (p1c : Nat) (i2 : Int) (c3 : Int) (w : World) : Prop :=
    ∃ Sv4 : World → Prop, Sv4 (World.drew w) ∧
    0 ≤ (i2 : Int) ∧ (i2 : Int) ≤ ((p1c : Nat) : Int) ∧ 0 ≤ (IntKind.i64.wrap ((i2 : Int) + (1)) : Int) ∧ (IntKind.i64.wrap ((i2 : Int) + (1)) : Int) ≤ ((p1n : Nat) : Int) ∧ Sized 1 [.int .i64 (c3)] ∧
    Sv4 (World.alloc (World.drew w) (.cells (flat [.int .i64 (c3)]) 3)) ∧
    Sized 1 [.slice (sliceAddr (p1A) (0) (p1c) 1) (((i2 : Int).toNat) - (0)) ((p1c) - (0)), .slice (some (⟨(World.drew w).heap.size, 0, none⟩)) (1) (1), .slice (sliceAddr (p1A) ((IntKind.i64.wrap ((i2 : Int) + (1)) : Int).toNat) (p1c) 1) ((p1n) - ((IntKind.i64.wrap ((i2 : Int) + (1)) : Int).toNat)) ((p1c) - ((IntKind.i64.wrap ((i2 : Int) + (1)) : Int).toNat))] ∧
    Sv4 (World.alloc (World.alloc (World.drew w) (.cells (flat [.int .i64 (c3)]) 3)) (.cells (flat [.slice (sliceAddr (p1A) (0) (p1c) 1) (((i2 : Int).toNat) - (0)) ((p1c) - (0)), .slice (some (⟨(World.drew w).heap.size, 0, none⟩)) (1) (1), .slice (sliceAddr (p1A) ((IntKind.i64.wrap ((i2 : Int) + (1)) : Int).toNat) (p1c) 1) ((p1n) - ((IntKind.i64.wrap ((i2 : Int) + (1)) : Int).toNat)) ((p1c) - ((IntKind.i64.wrap ((i2 : Int) + (1)) : Int).toNat))]) 22)) ∧
    Calls Tryz.prog 130 #[.slice (some (⟨(World.alloc (World.drew w) (.cells (flat [.int .i64 (c3)]) 3)).heap.size, 0, none⟩)) (3) (3)] (World.alloc (World.alloc (World.drew w) (.cells (flat [.int .i64 (c3)]) 3)) (.cells (flat [.slice (sliceAddr (p1A) (0) (p1c) 1) (((i2 : Int).toNat) - (0)) ((p1c) - (0)), .slice (some (⟨(World.drew w).heap.size, 0, none⟩)) (1) (1), .slice (sliceAddr (p1A) ((IntKind.i64.wrap ((i2 : Int) + (1)) : Int).toNat) (p1c) 1) ((p1n) - ((IntKind.i64.wrap ((i2 : Int) + (1)) : Int).toNat)) ((p1c) - ((IntKind.i64.wrap ((i2 : Int) + (1)) : Int).toNat))]) 22)) (Ret (fun r5 wv6 =>
    ∃ x7A x7n x7c, r5 = .slice x7A x7n x7c ∧ Sv4 wv6 ∧
    R (.returned (.slice (x7A) (x7n) (x7c) : Value)) wv6) (fun ch w => R (.panicked ch) w))

theorem e132 (R : Ending → World → Prop) (p1A : Option Addr) (p1n : Nat) (p1c : Nat) (i2 : Int) (c3 : Int) (w : World) : bodyP Tryz.prog T B (drawP Tryz.prog T B) m132_A Tryz.f132 [.slice (p1A) (p1n) (p1c), .int .i64 (i2), .int .i64 (c3)] w R = m132 R p1A p1n p1c i2 c3 w := by kernel_rfl
theorem c132 {R : Ending → World → Prop} (p1A : Option Addr) (p1n : Nat) (p1c : Nat) (i2 : Int) (c3 : Int) {w : World} (h : m132 R p1A p1n p1c i2 c3 w) : Calls Tryz.prog 132 #[.slice (p1A) (p1n) (p1c), .int .i64 (i2), .int .i64 (c3)] w R :=
  calls_of_bodyP hT hB hD Tryz.func132 (Nat.le_of_ble_eq_true (by kernel_rfl)) (by kernel_rfl) ((e132 R p1A p1n p1c i2 c3 w).symm ▸ h)

/-! ### 133 refuter/order.swaps$1 -/
def m133_S0 : List (Nat × TK) := [(10, .int .i64)]
def m133_S2 : List (Nat × TK) := [(20, .int .i64)]
def m133_A : Nat → List (Nat × TK) × List Nat
  | 0 => (m133_S0, [0, 1, 2, 8, 9])
  | 2 => (m133_S2, [0, 1, 2, 5, 8, 9, 10, 18, 19])
  | _ => ([], [])
def m133_K3 (R : Ending → World → Prop) (again0 : StOf m133_S0 → World → Prop) (again2 : StOf m133_S2 → World → Prop) (l65 : Nat) (v66 : Addr) (x67 : Addr) (x68 : Addr) (x69A : Option Addr) (x69n : Nat) (x69c : Nat) (x70 : Int) (x71 : Int) (x72A : Option Addr) (x72n : Nat) (x72c : Nat) (x73 : Int) (x74 : Int) (x75 : Bool) (w : World) : Prop :=
    if (x75) = true then
    (R (.returned (.tuple #[])) w)
    else
    (∃ s76 : StOf m133_S2, [.int .i64 (IntKind.i64.wrap ((x74 : Int) + (1)))] = encOf m133_S2 s76 ∧ again2 s76 w)

def m133_K2 (R : Ending → World → Prop) (again0 : StOf m133_S0 → World → Prop) (l77 : Nat) (v78 : Addr) (x79 : Addr) (x80A : Option Addr) (x80n : Nat) (x80c : Nat) (x81 : Int) (x82 : Int) (w : World) : Prop :=
    ∃ s83 : StOf m133_S0, [.int .i64 (IntKind.i64.wrap ((x82 : Int) + (1)))] = encOf m133_S0 s83 ∧ again0 s83 w

def m133_B2 (R : Ending → World → Prop) (again0 : StOf m133_S0 → World → Prop) (l17 : Nat) (v18 : Addr) (x19 : Addr) (x20 : Addr) (x21A : Option Addr) (x21n : Nat) (x21c : Nat) (x22 : Int) (x23 : Int) (x24A : Option Addr) (x24n : Nat) (x24c : Nat) (x25 : Int) (again2 : StOf m133_S2 → World → Prop) (x26 : Int) (w : World) : Prop :=
    if (decide ((x26 : Int) < (x25))) = true then
    (∃ a27, (x24A : Option Addr) = some a27 ∧ 0 ≤ (x26 : Int) ∧ (x26 : Int) < ((x24n : Nat) : Int) ∧
    ∃ x28 : Array Value, x28.size = 3 * 1 ∧ CellsAt w (a27.add ((x26 : Int).toNat * 3)) x28 ∧
    (x28 : Array Value).size = 3 * 1 ∧ RunU Tryz.prog (storeCells (⟨w.heap.size, 0, none⟩) (x28 : Array Value).toList) (World.alloc w (.cells (#[.int .i64 0, .int .i64 0, .int .i64 0]) 168)) fun wv29 =>
    ∃ Sv30 : World → Prop, Sv30 (World.drew wv29) ∧
    0 ≤ (0 : Int) ∧ (0 : Int) < ((3 : Nat) : Int) ∧ ∃ v31, (∀ w', Sv30 w' → World.cell? w' ((x20 : Addr).add ((0 : Int).toNat * 1)) = some v31) ∧ ∃ x32, v31 = .int .i64 x32 ∧ 0 ≤ (0 : Int) ∧ (0 : Int) < ((3 : Nat) : Int) ∧ ∃ v33, (∀ w', Sv30 w' → World.cell? w' ((⟨w.heap.size, 0, none⟩ : Addr).add ((0 : Int).toNat * 1)) = some v33) ∧ ∃ x34, v33 = .int .i64 x34 ∧ if ((x32 : Int) == (x34)) = true then
    (0 ≤ (2 : Int) ∧ (2 : Int) < ((3 : Nat) : Int) ∧ ∃ v35, (∀ w', Sv30 w' → World.cell? w' ((x20 : Addr).add ((2 : Int).toNat * 1)) = some v35) ∧ ∃ x36, v35 = .int .i64 x36 ∧ 0 ≤ (1 : Int) ∧ (1 : Int) < ((3 : Nat) : Int) ∧ ∃ v37, (∀ w', Sv30 w' → World.cell? w' ((⟨w.heap.size, 0, none⟩ : Addr).add ((1 : Int).toNat * 1)) = some v37) ∧ ∃ x38, v37 = .int .i64 x38 ∧ if ((x36 : Int) == (x38)) = true then
    (∃ v39, (∀ w', Sv30 w' → World.cell? w' (x19) = some v39) ∧ ∃ x40A x40n x40c, v39 = .slice x40A x40n x40c ∧ 0 ≤ (1 : Int) ∧ (1 : Int) < ((3 : Nat) : Int) ∧ ∃ v41, (∀ w', Sv30 w' → World.cell? w' ((x20 : Addr).add ((1 : Int).toNat * 1)) = some v41) ∧ ∃ x42, v41 = .int .i64 x42 ∧ 0 ≤ (x42 : Int) ∧ (x42 : Int) ≤ ((x40c : Nat) : Int) ∧ ∃ v43, (∀ w', Sv30 w' → World.cell? w' (x19) = some v43) ∧ ∃ x44A x44n x44c, v43 = .slice x44A x44n x44c ∧ 0 ≤ (1 : Int) ∧ (1 : Int) < ((3 : Nat) : Int) ∧ ∃ v45, (∀ w', Sv30 w' → World.cell? w' ((⟨w.heap.size, 0, none⟩ : Addr).add ((1 : Int).toNat * 1)) = some v45) ∧ ∃ x46, v45 = .int .i64 x46 ∧ 0 ≤ (2 : Int) ∧ (2 : Int) < ((3 : Nat) : Int) ∧ ∃ v47, (∀ w', Sv30 w' → World.cell? w' ((⟨w.heap.size, 0, none⟩ : Addr).add ((2 : Int).toNat * 1)) = some v47) ∧ ∃ x48, v47 = .int .i64 x48 ∧ 0 ≤ (x48 : Int) ∧ (x48 : Int) ≤ ((x44c : Nat) : Int) ∧ 0 ≤ (x46 : Int) ∧ (x46 : Int) ≤ (x48 : Int) ∧ ∃ v49, (∀ w', Sv30 w' → World.cell? w' (x19) = some v49) ∧ ∃ x50A x50n x50c, v49 = .slice x50A x50n x50c ∧ 0 ≤ (1 : Int) ∧ (1 : Int) < ((3 : Nat) : Int) ∧ ∃ v51, (∀ w', Sv30 w' → World.cell? w' ((x20 : Addr).add ((1 : Int).toNat * 1)) = some v51) ∧ ∃ x52, v51 = .int .i64 x52 ∧ 0 ≤ (2 : Int) ∧ (2 : Int) < ((3 : Nat) : Int) ∧ ∃ v53, (∀ w', Sv30 w' → World.cell? w' ((x20 : Addr).add ((2 : Int).toNat * 1)) = some v53) ∧ ∃ x54, v53 = .int .i64 x54 ∧ 0 ≤ (x54 : Int) ∧ (x54 : Int) ≤ ((x50c : Nat) : Int) ∧ 0 ≤ (x52 : Int) ∧ (x52 : Int) ≤ (x54 : Int) ∧ ∃ v55, (∀ w', Sv30 w' → World.cell? w' (x19) = some v55) ∧ ∃ x56A x56n x56c, v55 = .slice x56A x56n x56c ∧ 0 ≤ (2 : Int) ∧ (2 : Int) < ((3 : Nat) : Int) ∧ ∃ v57, (∀ w', Sv30 w' → World.cell? w' ((⟨w.heap.size, 0, none⟩ : Addr).add ((2 : Int).toNat * 1)) = some v57) ∧ ∃ x58, v57 = .int .i64 x58 ∧ 0 ≤ (x58 : Int) ∧ (x58 : Int) ≤ ((x56n : Nat) : Int) ∧ Sized 1 [.slice (sliceAddr (x40A) (0) (x40c) 1) (((x42 : Int).toNat) - (0)) ((x40c) - (0)), .slice (sliceAddr (x44A) ((x46 : Int).toNat) (x44c) 1) (((x48 : Int).toNat) - ((x46 : Int).toNat)) ((x44c) - ((x46 : Int).toNat)), .slice (sliceAddr (x50A) ((x52 : Int).toNat) (x50c) 1) (((x54 : Int).toNat) - ((x52 : Int).toNat)) ((x50c) - ((x52 : Int).toNat)), .slice (sliceAddr (x56A) ((x58 : Int).toNat) (x56c) 1) ((x56n) - ((x58 : Int).toNat)) ((x56c) - ((x58 : Int).toNat))] ∧
    Sv30 (World.alloc (World.drew wv29) (.cells (flat [.slice (sliceAddr (x40A) (0) (x40c) 1) (((x42 : Int).toNat) - (0)) ((x40c) - (0)), .slice (sliceAddr (x44A) ((x46 : Int).toNat) (x44c) 1) (((x48 : Int).toNat) - ((x46 : Int).toNat)) ((x44c) - ((x46 : Int).toNat)), .slice (sliceAddr (x50A) ((x52 : Int).toNat) (x50c) 1) (((x54 : Int).toNat) - ((x52 : Int).toNat)) ((x50c) - ((x52 : Int).toNat)), .slice (sliceAddr (x56A) ((x58 : Int).toNat) (x56c) 1) ((x56n) - ((x58 : Int).toNat)) ((x56c) - ((x58 : Int).toNat))]) 22)) ∧
    Calls Tryz.prog 130 #[.slice (some (⟨(World.drew wv29).heap.size, 0, none⟩)) (4) (4)] (World.alloc (World.drew wv29) (.cells (flat [.slice (sliceAddr (x40A) (0) (x40c) 1) (((x42 : Int).toNat) - (0)) ((x40c) - (0)), .slice (sliceAddr (x44A) ((x46 : Int).toNat) (x44c) 1) (((x48 : Int).toNat) - ((x46 : Int).toNat)) ((x44c) - ((x46 : Int).toNat)), .slice (sliceAddr (x50A) ((x52 : Int).toNat) (x50c) 1) (((x54 : Int).toNat) - ((x52 : Int).toNat)) ((x50c) - ((x52 : Int).toNat)), .slice (sliceAddr (x56A) ((x58 : Int).toNat) (x56c) 1) ((x56n) - ((x58 : Int).toNat)) ((x56c) - ((x58 : Int).toNat))]) 22)) (Ret (fun r59 wv60 =>
    ∃ x61A x61n x61c, r59 = .slice x61A x61n x61c ∧ Sv30 wv60 ∧
    (#[] : Array Value).size = 0 ∧ CallsBody Tryz.prog l17 #[.slice (x61A) (x61n) (x61c)] wv60 (Ret (fun r62 wv63 =>
    ∃ x64, r62 = .bool x64 ∧ Sv30 wv63 ∧
    m133_K3 R again0 again2 (l17) (v18) (x19) (x20) (x21A) (x21n) (x21c) (x22) (x23) (x24A) (x24n) (x24c) (x25) (x26) (!(x64 : Bool)) wv63) (fun ch w => R (.panicked ch) w))) (fun ch w => R (.panicked ch) w)))
    else
    (m133_K3 R again0 again2 (l17) (v18) (x19) (x20) (x21A) (x21n) (x21c) (x22) (x23) (x24A) (x24n) (x24c) (x25) (x26) (false) (World.drew wv29)))
    else
    (m133_K3 R again0 again2 (l17) (v18) (x19) (x20) (x21A) (x21n) (x21c) (x22) (x23) (x24A) (x24n) (x24c) (x25) (x26) (false) (World.drew wv29)))
    else
    (m133_K2 R again0 (l17) (v18) (x19) (x21A) (x21n) (x21c) (x22) (x23) w)

def m133_K1 (R : Ending → World → Prop) (w : World) : Prop :=
    R (.returned (.tuple #[])) w

def m133_B0 (R : Ending → World → Prop) (l6 : Nat) (v7 : Addr) (x8 : Addr) (x9A : Option Addr) (x9n : Nat) (x9c : Nat) (x10 : Int) (again0 : StOf m133_S0 → World → Prop) (x11 : Int) (w : World) : Prop :=
    if (decide ((x11 : Int) < (x10))) = true then
    (∃ a12, (x9A : Option Addr) = some a12 ∧ 0 ≤ (x11 : Int) ∧ (x11 : Int) < ((x9n : Nat) : Int) ∧
    ∃ x13 : Array Value, x13.size = 3 * 1 ∧ CellsAt w (a12.add ((x11 : Int).toNat * 3)) x13 ∧
    (x13 : Array Value).size = 3 * 1 ∧ RunU Tryz.prog (storeCells (⟨w.heap.size, 0, none⟩) (x13 : Array Value).toList) (World.alloc w (.cells (#[.int .i64 0, .int .i64 0, .int .i64 0]) 168)) fun wv14 =>
    ∃ v15, World.cell? wv14 (v7) = some v15 ∧ ∃ x16A x16n x16c, v15 = .slice x16A x16n x16c ∧ 0 ≤ (IntKind.i64.wrap ((x11 : Int) + (1)) : Int) ∧ (IntKind.i64.wrap ((x11 : Int) + (1)) : Int) ≤ ((x16n : Nat) : Int) ∧ ∃ s84 : StOf m133_S2, [.int .i64 (0)] = encOf m133_S2 s84 ∧ LoopP (fun again s wl => ∀ _r : Env, m133_B2 R again0 (l6) (v7) (x8) (⟨w.heap.size, 0, none⟩) (x9A) (x9n) (x9c) (x10) (x11) (sliceAddr (x16A) ((IntKind.i64.wrap ((x11 : Int) + (1)) : Int).toNat) (x16c) 3) ((x16n) - ((IntKind.i64.wrap ((x11 : Int) + (1)) : Int).toNat)) ((x16c) - ((IntKind.i64.wrap ((x11 : Int) + (1)) : Int).toNat)) ((((x16n) - ((IntKind.i64.wrap ((x11 : Int) + (1)) : Int).toNat) : Nat) : Int)) again (s.1) wl) s84 wv14)
    else
    (m133_K1 R w)

def m133 (R : Ending → World → Prop) (l1 : Nat) (cap2 : Addr) (cap3 : Addr) (w : World) : Prop :=
    ∃ v4, World.cell? w (cap2) = some v4 ∧ ∃ x5A x5n x5c, v4 = .slice x5A x5n x5c ∧ ∃ s85 : StOf m133_S0, [.int .i64 (0)] = encOf m133_S0 s85 ∧ LoopP (fun again s wl => ∀ _r : Env, m133_B0 R (l1) (cap2) (cap3) (x5A) (x5n) (x5c) (((x5n : Nat) : Int)) again (s.1) wl) s85 w

theorem e133 (R : Ending → World → Prop) (l1 : Nat) (cap2 : Addr) (cap3 : Addr) (w : World) : bodyP Tryz.prog T B (drawP Tryz.prog T B) m133_A Tryz.f133 [.func (.yield l1) #[] #[], .pointer (some (cap2)), .pointer (some (cap3))] w R = m133 R l1 cap2 cap3 w := by kernel_rfl
theorem c133 {R : Ending → World → Prop} (l1 : Nat) (cap2 : Addr) (cap3 : Addr) {w : World} (h : m133 R l1 cap2 cap3 w) : Calls Tryz.prog 133 #[.func (.yield l1) #[] #[], .pointer (some (cap2)), .pointer (some (cap3))] w R :=
  calls_of_bodyP hT hB hD Tryz.func133 (Nat.le_of_ble_eq_true (by kernel_rfl)) (by kernel_rfl) ((e133 R l1 cap2 cap3 w).symm ▸ h)

/-! ### 134 refuter/order.shares$1 -/
def m134_S0 : List (Nat × TK) := [(8, .int .i64)]
def m134_S2 : List (Nat × TK) := [(5, .int .i64)]
def m134_A : Nat → List (Nat × TK) × List Nat
  | 0 => (m134_S0, [0, 1, 6, 7])
  | 2 => (m134_S2, [0, 1, 3, 4, 6, 7, 8])
  | _ => ([], [])
def m134_K4 (R : Ending → World → Prop) (again0 : StOf m134_S0 → World → Prop) (again2 : StOf m134_S2 → World → Prop) (l45 : Nat) (v46 : Addr) (i47 : Int) (c48 : Int) (j49 : Int) (v50A : Option Addr) (v50n : Nat) (v50c : Nat) (v51 : Int) (v52 : Int) (v53 : Bool) (w : World) : Prop :=
    if (v53) = true then
    (R (.returned (.tuple #[])) w)
    else
    (∃ s54 : StOf m134_S2, [.int .i64 (IntKind.i64.wrap ((j49 : Int) + (1)))] = encOf m134_S2 s54 ∧ again2 s54 w)

def m134_K2 (R : Ending → World → Prop) (again0 : StOf m134_S0 → World → Prop) (l55 : Nat) (v56 : Addr) (v57A : Option Addr) (v57n : Nat) (v57c : Nat) (v58 : Int) (v59 : Int) (w : World) : Prop :=
    ∃ s60 : StOf m134_S0, [.int .i64 (IntKind.i64.wrap ((v59 : Int) + (1)))] = encOf m134_S0 s60 ∧ again0 s60 w

def m134_K3 (R : Ending → World → Prop) (again0 : StOf m134_S0 → World → Prop) (again2 : StOf m134_S2 → World → Prop) (l23 : Nat) (v24 : Addr) (i25 : Int) (c26 : Int) (j27 : Int) (v28A : Option Addr) (v28n : Nat) (v28c : Nat) (v29 : Int) (v30 : Int) (v31 : Bool) (w : World) : Prop :=
    if (v31) = true then
    (∃ v32, World.cell? w (v24) = some v32 ∧ ∃ x33A x33n x33c, v32 = .slice x33A x33n x33c ∧ ∃ a34, (x33A : Option Addr) = some a34 ∧ 0 ≤ (j27 : Int) ∧ (j27 : Int) < ((x33n : Nat) : Int) ∧
    ∃ v35, World.cell? w (a34.add ((j27 : Int).toNat * 1)) = some v35 ∧ ∃ x36, v35 = .int .i64 x36 ∧ if (decide ((c26 : Int) < (x36))) = true then
    (∃ v37, World.cell? w (v24) = some v37 ∧ ∃ x38A x38n x38c, v37 = .slice x38A x38n x38c ∧ Calls Tryz.prog 132 #[.slice (x38A) (x38n) (x38c), .int .i64 (j27), .int .i64 (c26)] w (Ret (fun r39 wv40 =>
    ∃ x41A x41n x41c, r39 = .slice x41A x41n x41c ∧ (#[] : Array Value).size = 0 ∧ CallsBody Tryz.prog l23 #[.slice (x41A) (x41n) (x41c)] wv40 (Ret (fun r42 wv43 =>
    ∃ x44, r42 = .bool x44 ∧ m134_K4 R again0 again2 (l23) (v24) (i25) (c26) (j27) (v28A) (v28n) (v28c) (v29) (v30) (!(x44 : Bool)) wv43) (fun ch w => R (.panicked ch) w))) (fun ch w => R (.panicked ch) w)))
    else
    (m134_K4 R again0 again2 (l23) (v24) (i25) (c26) (j27) (v28A) (v28n) (v28c) (v29) (v30) (false) w))
    else
    (m134_K2 R again0 (l23) (v24) (v28A) (v28n) (v28c) (v29) (v30) w)

def m134_B2 (R : Ending → World → Prop) (again0 : StOf m134_S0 → World → Prop) (l13 : Nat) (v14 : Addr) (i15 : Int) (c16 : Int) (v17A : Option Addr) (v17n : Nat) (v17c : Nat) (v18 : Int) (v19 : Int) (again2 : StOf m134_S2 → World → Prop) (j20 : Int) (w : World) : Prop :=
    ∃ v21, World.cell? w (v14) = some v21 ∧ ∃ x22A x22n x22c, v21 = .slice x22A x22n x22c ∧ if (decide ((j20 : Int) < (((x22n : Nat) : Int)))) = true then
    (m134_K3 R again0 again2 (l13) (v14) (i15) (c16) (j20) (v17A) (v17n) (v17c) (v18) (v19) (decide ((j20 : Int) ≤ (IntKind.i64.wrap ((i15 : Int) + (16))))) w)
    else
    (m134_K3 R again0 again2 (l13) (v14) (i15) (c16) (j20) (v17A) (v17n) (v17c) (v18) (v19) (false) w)

def m134_K1 (R : Ending → World → Prop) (w : World) : Prop :=
    R (.returned (.tuple #[])) w

def m134_B0 (R : Ending → World → Prop) (l5 : Nat) (v6 : Addr) (v7A : Option Addr) (v7n : Nat) (v7c : Nat) (v8 : Int) (again0 : StOf m134_S0 → World → Prop) (v9 : Int) (w : World) : Prop :=
    if (decide ((v9 : Int) < (v8))) = true then
    (∃ a10, (v7A : Option Addr) = some a10 ∧ 0 ≤ (v9 : Int) ∧ (v9 : Int) < ((v7n : Nat) : Int) ∧
    ∃ v11, World.cell? w (a10.add ((v9 : Int).toNat * 1)) = some v11 ∧ ∃ x12, v11 = .int .i64 x12 ∧ ∃ s61 : StOf m134_S2, [.int .i64 (IntKind.i64.wrap ((v9 : Int) + (1)))] = encOf m134_S2 s61 ∧ LoopP (fun again s wl => ∀ _r : Env, m134_B2 R again0 (l5) (v6) (v9) (x12) (v7A) (v7n) (v7c) (v8) (v9) again (s.1) wl) s61 w)
    else
    (m134_K1 R w)

def m134 (R : Ending → World → Prop) (l1 : Nat) (cap2 : Addr) (w : World) : Prop :=
    ∃ v3, World.cell? w (cap2) = some v3 ∧ ∃ x4A x4n x4c, v3 = .slice x4A x4n x4c ∧ ∃ s62 : StOf m134_S0, [.int .i64 (0)] = encOf m134_S0 s62 ∧ LoopP (fun again s wl => ∀ _r : Env, m134_B0 R (l1) (cap2) (x4A) (x4n) (x4c) (((x4n : Nat) : Int)) again (s.1) wl) s62 w

theorem e134 (R : Ending → World → Prop) (l1 : Nat) (cap2 : Addr) (w : World) : bodyP Tryz.prog T B (drawP Tryz.prog T B) m134_A Tryz.f134 [.func (.yield l1) #[] #[], .pointer (some (cap2))] w R = m134 R l1 cap2 w := by kernel_rfl
theorem c134 {R : Ending → World → Prop} (l1 : Nat) (cap2 : Addr) {w : World} (h : m134 R l1 cap2 w) : Calls Tryz.prog 134 #[.func (.yield l1) #[] #[], .pointer (some (cap2))] w R :=
  calls_of_bodyP hT hB hD Tryz.func134 (Nat.le_of_ble_eq_true (by kernel_rfl)) (by kernel_rfl) ((e134 R l1 cap2 w).symm ▸ h)

/-! ### 176 slices.Concat[[]int,int] -/
def m176_S0 : List (Nat × TK) := [(3, .int .i64), (11, .int .i64)]
def m176_S2 : List (Nat × TK) := [(6, .slice 0 0), (27, .int .i64)]
def m176_A : Nat → List (Nat × TK) × List Nat
  | 0 => (m176_S0, [0, 9, 10])
  | 2 => (m176_S2, [25, 26])
  | _ => ([], [])
def m176_K2 (R : Ending → World → Prop) (again0 : StOf m176_S0 → World → Prop) (slices10A : Option Addr) (slices10n : Nat) (slices10c : Nat) (size11 : Int) (v12A : Option Addr) (v12n : Nat) (v12c : Nat) (v13 : Int) (v14 : Int) (w : World) : Prop :=
    ∃ s15 : StOf m176_S0, [.int .i64 (size11), .int .i64 (IntKind.i64.wrap ((v14 : Int) + (1)))] = encOf m176_S0 s15 ∧ again0 s15 w

def m176_K3 (R : Ending → World → Prop) (newslice32A : Option Addr) (newslice32n : Nat) (newslice32c : Nat) (w : World) : Prop :=
    R (.returned (.slice (newslice32A) (newslice32n) (newslice32c) : Value)) w

def m176_B2 (R : Ending → World → Prop) (v21A : Option Addr) (v21n : Nat) (v21c : Nat) (v22 : Int) (again2 : StOf m176_S2 → World → Prop) (newslice23A : Option Addr) (newslice23n : Nat) (newslice23c : Nat) (v24 : Int) (w : World) : Prop :=
    if (decide ((v24 : Int) < (v22))) = true then
    (∃ a25, (v21A : Option Addr) = some a25 ∧ 0 ≤ (v24 : Int) ∧ (v24 : Int) < ((v21n : Nat) : Int) ∧
    ∃ v26, World.cell? w (a25.add ((v24 : Int).toNat * 1)) = some v26 ∧ ∃ x27A x27n x27c, v26 = .slice x27A x27n x27c ∧ RunV Tryz.prog (Builtin.append_ #[22, 22] 22 #[.slice (newslice23A) (newslice23n) (newslice23c), .slice (x27A) (x27n) (x27c)]) w fun r28 wv29 =>
    ∃ x30A x30n x30c, r28 = .slice x30A x30n x30c ∧ ∃ s31 : StOf m176_S2, [.slice (x30A) (x30n) (x30c), .int .i64 (IntKind.i64.wrap ((v24 : Int) + (1)))] = encOf m176_S2 s31 ∧ again2 s31 wv29)
    else
    (m176_K3 R (newslice23A) (newslice23n) (newslice23c) w)

def m176_K1 (R : Ending → World → Prop) (slices16A : Option Addr) (slices16n : Nat) (slices16c : Nat) (size17 : Int) (w : World) : Prop :=
    Calls Tryz.prog 207 #[.slice (none) (0) (0), .int .i64 (size17)] w (Ret (fun r18 wv19 =>
    ∃ x20A x20n x20c, r18 = .slice x20A x20n x20c ∧ ∃ s33 : StOf m176_S2, [.slice (x20A) (x20n) (x20c), .int .i64 (0)] = encOf m176_S2 s33 ∧ LoopP (fun again s wl => ∀ _r : Env, m176_B2 R (slices16A) (slices16n) (slices16c) (((slices16n : Nat) : Int)) again (s.1.1) (s.1.2.1) (s.1.2.2) (s.2.1) wl) s33 wv19) (fun ch w => R (.panicked ch) w))

def m176_B0 (R : Ending → World → Prop) (slices2A : Option Addr) (slices2n : Nat) (slices2c : Nat) (v3A : Option Addr) (v3n : Nat) (v3c : Nat) (v4 : Int) (again0 : StOf m176_S0 → World → Prop) (size5 : Int) (v6 : Int) (w : World) : Prop :=
    if (decide ((v6 : Int) < (v4))) = true then
    (∃ a7, (v3A : Option Addr) = some a7 ∧ 0 ≤ (v6 : Int) ∧ (v6 : Int) < ((v3n : Nat) : Int) ∧
    ∃ v8, World.cell? w (a7.add ((v6 : Int).toNat * 1)) = some v8 ∧ ∃ x9A x9n x9c, v8 = .slice x9A x9n x9c ∧ if (decide ((IntKind.i64.wrap ((size5 : Int) + (((x9n : Nat) : Int))) : Int) < (0))) = true then
    (R (.panicked [{ v := .iface 9 (.string (⟨#[108, 101, 110, 32, 111, 117, 116, 32, 111, 102, 32, 114, 97, 110, 103, 101]⟩)), recovered := false }]) w)
    else
    (m176_K2 R again0 (slices2A) (slices2n) (slices2c) (IntKind.i64.wrap ((size5 : Int) + (((x9n : Nat) : Int)))) (v3A) (v3n) (v3c) (v4) (v6) w))
    else
    (m176_K1 R (slices2A) (slices2n) (slices2c) (size5) w)

def m176 (R : Ending → World → Prop) (slices1A : Option Addr) (slices1n : Nat) (slices1c : Nat) (w : World) : Prop :=
    ∃ s34 : StOf m176_S0, [.int .i64 (0), .int .i64 (0)] = encOf m176_S0 s34 ∧ LoopP (fun again s wl => ∀ _r : Env, m176_B0 R (slices1A) (slices1n) (slices1c) (slices1A) (slices1n) (slices1c) (((slices1n : Nat) : Int)) again (s.1) (s.2.1) wl) s34 w

theorem e176 (R : Ending → World → Prop) (slices1A : Option Addr) (slices1n : Nat) (slices1c : Nat) (w : World) : bodyP Tryz.prog T B (drawP Tryz.prog T B) m176_A Tryz.f176 [.slice (slices1A) (slices1n) (slices1c)] w R = m176 R slices1A slices1n slices1c w := by kernel_rfl
theorem c176 {R : Ending → World → Prop} (slices1A : Option Addr) (slices1n : Nat) (slices1c : Nat) {w : World} (h : m176 R slices1A slices1n slices1c w) : Calls Tryz.prog 176 #[.slice (slices1A) (slices1n) (slices1c)] w R :=
  calls_of_bodyP hT hB hD Tryz.func176 (Nat.le_of_ble_eq_true (by kernel_rfl)) (by kernel_rfl) ((e176 R slices1A slices1n slices1c w).symm ▸ h)

/-! ### 207 slices.Grow[[]int,int] -/
def m207_A : Nat → List (Nat × TK) × List Nat
  | _ => ([], [])
def m207_K1 (R : Ending → World → Prop) (s3A : Option Addr) (s3n : Nat) (s3c : Nat) (n4 : Int) (w : World) : Prop :=
    if (decide ((IntKind.i64.wrap ((n4 : Int) - (IntKind.i64.wrap ((((s3c : Nat) : Int) : Int) - (((s3n : Nat) : Int))))) : Int) > (0))) = true then
    (0 ≤ (((s3c : Nat) : Int) : Int) ∧ (((s3c : Nat) : Int) : Int) ≤ ((s3c : Nat) : Int) ∧ RunV Tryz.prog (Builtin.append_ #[22, 3] 22 #[.slice (sliceAddr (s3A) (0) (s3c) 1) (((((s3c : Nat) : Int) : Int).toNat) - (0)) ((s3c) - (0)), .int .i64 (IntKind.i64.wrap ((n4 : Int) - (IntKind.i64.wrap ((((s3c : Nat) : Int) : Int) - (((s3n : Nat) : Int))))))]) w fun r5 wv6 =>
    ∃ x7A x7n x7c, r5 = .slice x7A x7n x7c ∧ 0 ≤ (((s3n : Nat) : Int) : Int) ∧ (((s3n : Nat) : Int) : Int) ≤ ((x7c : Nat) : Int) ∧ R (.returned (.slice (sliceAddr (x7A) (0) (x7c) 1) (((((s3n : Nat) : Int) : Int).toNat) - (0)) ((x7c) - (0)) : Value)) wv6)
    else
    (R (.returned (.slice (s3A) (s3n) (s3c) : Value)) w)

def m207 (R : Ending → World → Prop) (s1A : Option Addr) (s1n : Nat) (s1c : Nat) (n2 : Int) (w : World) : Prop :=
    if (decide ((n2 : Int) < (0))) = true then
    (R (.panicked [{ v := .iface 9 (.string (⟨#[99, 97, 110, 110, 111, 116, 32, 98, 101, 32, 110, 101, 103, 97, 116, 105, 118, 101]⟩)), recovered := false }]) w)
    else
    (m207_K1 R (s1A) (s1n) (s1c) (n2) w)

theorem e207 (R : Ending → World → Prop) (s1A : Option Addr) (s1n : Nat) (s1c : Nat) (n2 : Int) (w : World) : bodyP Tryz.prog T B (drawP Tryz.prog T B) m207_A Tryz.f207 [.slice (s1A) (s1n) (s1c), .int .i64 (n2)] w R = m207 R s1A s1n s1c n2 w := by kernel_rfl
theorem c207 {R : Ending → World → Prop} (s1A : Option Addr) (s1n : Nat) (s1c : Nat) (n2 : Int) {w : World} (h : m207 R s1A s1n s1c n2 w) : Calls Tryz.prog 207 #[.slice (s1A) (s1n) (s1c), .int .i64 (n2)] w R :=
  calls_of_bodyP hT hB hD Tryz.func207 (Nat.le_of_ble_eq_true (by kernel_rfl)) (by kernel_rfl) ((e207 R s1A s1n s1c n2 w).symm ▸ h)

end Go.Proofs.YtilacabmbjephaaGreatDoor
