/- Mirrors of pieces of a function that ranges over functions; printed by wip/pieces.py. -/
import Derived.Test.YtilacabmbjephaaGreatDoorGxT
namespace Go.Proofs.YtilacabmbjephaaGreatDoor
open Go Go.GX
set_option linter.unusedVariables false
set_option maxRecDepth 100000

def cAt : List Nat → Code → Code
  | [], c => c
  | 1 :: p, .seq a _ => cAt p a
  | 2 :: p, .seq _ b => cAt p b
  | 2 :: p, .cond _ a _ => cAt p a
  | 3 :: p, .cond _ _ b => cAt p b
  | 2 :: p, .block _ c => cAt p c
  | 1 :: p, .loop c => cAt p c
  | 3 :: p, .rangeFunc _ _ a _ => cAt p a
  | 4 :: p, .rangeFunc _ _ _ b => cAt p b
  | _, _ => .skip
def bodyOf (f : Func) : Code := match f.body with
  | some c => c
  | none => .skip

def m51_P1 (R : Ending → World → Prop) (K : Value → Value → Value → Value → Value → Value → Value → Value → World → Prop) (s01 : Array Value) (s12A : Option Addr) (s12n : Nat) (s12c : Nat) (s23A : Option Addr) (s23n : Nat) (s23c : Nat) (w : World) : Prop :=
    ∃ x4 : Array Value, x4.size = 1 ∧ CellsAt (World.alloc (World.alloc w (.cells (s01) 40)) (.cells (#[.slice (s12A) (s12n) (s12c)]) 22)) (⟨w.heap.size, 0, none⟩) x4 ∧
    ∃ v5, World.cell? (World.alloc (World.alloc w (.cells (s01) 40)) (.cells (#[.slice (s12A) (s12n) (s12c)]) 22)) (⟨(World.alloc w (.cells (s01) 40)).heap.size, 0, none⟩) = some v5 ∧ ∃ x6A x6n x6c, v5 = .slice x6A x6n x6c ∧ Calls Tryz.prog 74 #[.agg (x4), .slice (x6A) (x6n) (x6c)] (World.alloc (World.alloc w (.cells (s01) 40)) (.cells (#[.slice (s12A) (s12n) (s12c)]) 22)) (Ret (fun r7 wv8 =>
    ∃ x9 x10, r7 = .tuple #[x9, x10] ∧ ∃ x11A x11n x11c, x9 = .slice x11A x11n x11c ∧ ∃ x12, x10 = .int .i64 x12 ∧ if ((x12 : Int) != (0)) = true then
    (R (.returned (.tuple #[.slice (none) (0) (0), .int .i64 (x12)])) wv8)
    else
    (RunV Tryz.prog (Instr.makeMap 108 none) wv8 fun r13 wv14 =>
    RunU Tryz.prog (Instr.mapUpdate 108 r13 (.string (⟨#[100, 101, 108, 101, 116, 101, 115]⟩) : Value) (.func (.func 75) #[] #[] : Value)) wv14 fun wv15 =>
    RunU Tryz.prog (Instr.mapUpdate 108 r13 (.string (⟨#[108, 111, 119, 101, 114, 115]⟩) : Value) (.func (.func 76) #[] #[] : Value)) wv15 fun wv16 =>
    RunU Tryz.prog (Instr.mapUpdate 108 r13 (.string (⟨#[115, 119, 97, 112, 115]⟩) : Value) (.func (.func 77) #[] #[] : Value)) wv16 fun wv17 =>
    RunU Tryz.prog (Instr.mapUpdate 108 r13 (.string (⟨#[115, 104, 97, 114, 101, 115]⟩) : Value) (.func (.func 78) #[] #[] : Value)) wv17 fun wv18 =>
    K (.pointer (some (⟨w.heap.size, 0, none⟩)) : Value) (.pointer (some (⟨(World.alloc w (.cells (s01) 40)).heap.size, 0, none⟩)) : Value) (.slice (x11A) (x11n) (x11c) : Value) r13 (.pointer (some (⟨wv18.heap.size, 0, none⟩)) : Value) (.slice (s23A) (s23n) (s23c) : Value) (.int .i64 (((s23n : Nat) : Int)) : Value) (.int .i64 (0) : Value) (World.alloc wv18 (.cells (#[.slice none 0 0]) 23)))) (fun ch w => R (.panicked ch) w))

theorem m51_P1_e (R : Ending → World → Prop) (K : Value → Value → Value → Value → Value → Value → Value → Value → World → Prop) (s01 : Array Value) (s12A : Option Addr) (s12n : Nat) (s12c : Nat) (s23A : Option Addr) (s23n : Nat) (s23c : Nat) (r : Env) (w : World) :
    codeP Tryz.prog T B (drawP Tryz.prog T B) (fun _ => ([], [])) (fun ch w => R (.panicked ch) w) (fun ρ w => resP Tryz.prog T Tryz.f51.results.toList ρ w fun v => R (.returned v) w) (.seq (cAt [1] (bodyOf Tryz.f51)) (.seq (cAt [2, 1] (bodyOf Tryz.f51)) (.seq (cAt [2, 2, 1] (bodyOf Tryz.f51)) (.seq (cAt [2, 2, 2, 1] (bodyOf Tryz.f51)) (.seq (cAt [2, 2, 2, 2, 1] (bodyOf Tryz.f51)) (cAt [2, 2, 2, 2, 2, 1, 1] (bodyOf Tryz.f51))))))) 0 (fun i ρ w => False) (fun ρ w => K (ρ 3) (ρ 4) (ρ 8) (ρ 10) (ρ 11) (ρ 28) (ρ 29) (ρ 30) w)
      (wr [0, 1, 2] [.agg (s01), .slice (s12A) (s12n) (s12c), .slice (s23A) (s23n) (s23c)] r) w = m51_P1 R K s01 s12A s12n s12c s23A s23n s23c w := by kernel_rfl

def m51_P2 (R : Ending → World → Prop) (K : World → Prop) (X0 : World → Prop) (s291 : Int) (s302 : Int) (w : World) : Prop :=
    if (decide ((s302 : Int) < (s291))) = true then
    (K w)
    else
    (X0 w)

theorem m51_P2_e (R : Ending → World → Prop) (K : World → Prop) (X0 : World → Prop) (s291 : Int) (s302 : Int) (r : Env) (w : World) :
    codeP Tryz.prog T B (drawP Tryz.prog T B) (fun _ => ([], [])) (fun ch w => R (.panicked ch) w) (fun ρ w => resP Tryz.prog T Tryz.f51.results.toList ρ w fun v => R (.returned v) w) (.seq (cAt [2, 2, 2, 2, 2, 1, 2, 2, 1, 1] (bodyOf Tryz.f51)) (cAt [2, 2, 2, 2, 2, 1, 2, 2, 1, 2, 1] (bodyOf Tryz.f51))) 0 (fun i ρ w => bif Nat.beq i 0 then X0 w else False) (fun ρ w => K w)
      (wr [29, 30] [.int .i64 (s291), .int .i64 (s302)] r) w = m51_P2 R K X0 s291 s302 w := by kernel_rfl

def m51_P3 (R : Ending → World → Prop) (K : Value → World → Prop) (s41 : Addr) (s82A : Option Addr) (s82n : Nat) (s82c : Nat) (s103 : Value) (s284A : Option Addr) (s284n : Nat) (s284c : Nat) (s305 : Int) (w : World) : Prop :=
    ∃ a6, (s284A : Option Addr) = some a6 ∧ 0 ≤ (s305 : Int) ∧ (s305 : Int) < ((s284n : Nat) : Int) ∧
    ∃ v7, World.cell? w (a6.add ((s305 : Int).toNat * 1)) = some v7 ∧ ∃ x8, v7 = .string x8 ∧ RunV Tryz.prog (Instr.lookup 108 s103 (.string (x8) : Value) false) w fun r9 wv10 =>
    ∃ x11g x11f x11c, r9 = .func (.func x11g) x11f x11c ∧ ∃ v12, World.cell? wv10 (s41) = some v12 ∧ ∃ x13A x13n x13c, v12 = .slice x13A x13n x13c ∧ B x11g = true ∧ Calls Tryz.prog x11g (callV x11f [.slice (x13A) (x13n) (x13c), .slice (s82A) (s82n) (s82c)] x11c) wv10 (Ret (fun r14 wv15 =>
    ∃ x16g x16f x16c, r14 = .func (.func x16g) x16f x16c ∧ K (.func (.func (x16g)) (x16f) (x16c) : Value) wv15) (fun ch w => R (.panicked ch) w))

theorem m51_P3_e (R : Ending → World → Prop) (K : Value → World → Prop) (s41 : Addr) (s82A : Option Addr) (s82n : Nat) (s82c : Nat) (s103 : Value) (s284A : Option Addr) (s284n : Nat) (s284c : Nat) (s305 : Int) (r : Env) (w : World) :
    codeP Tryz.prog T B (drawP Tryz.prog T B) (fun _ => ([], [])) (fun ch w => R (.panicked ch) w) (fun ρ w => resP Tryz.prog T Tryz.f51.results.toList ρ w fun v => R (.returned v) w) (.seq (cAt [2, 2, 2, 2, 2, 1, 2, 2, 1, 2, 2, 1, 2, 1] (bodyOf Tryz.f51)) (cAt [2, 2, 2, 2, 2, 1, 2, 2, 1, 2, 2, 1, 2, 2, 1] (bodyOf Tryz.f51))) 0 (fun i ρ w => False) (fun ρ w => K (ρ 39) w)
      (wr [4, 8, 10, 28, 30] [.pointer (some (s41)), .slice (s82A) (s82n) (s82c), s103, .slice (s284A) (s284n) (s284c), .int .i64 (s305)] r) w = m51_P3 R K s41 s82A s82n s82c s103 s284A s284n s284c s305 w := by kernel_rfl

def m51_P4 (R : Ending → World → Prop) (K : Value → Value → Value → Value → World → Prop) (s31 : Addr) (s42 : Addr) (s113 : Addr) (s404A : Option Addr) (s404n : Nat) (s404c : Nat) (w : World) : Prop :=
    K (.pointer (some (s31)) : Value) (.pointer (some (s42)) : Value) (.pointer (some (s113)) : Value) (.slice (s404A) (s404n) (s404c) : Value) w

theorem m51_P4_e (R : Ending → World → Prop) (K : Value → Value → Value → Value → World → Prop) (s31 : Addr) (s42 : Addr) (s113 : Addr) (s404A : Option Addr) (s404n : Nat) (s404c : Nat) (r : Env) (w : World) :
    codeP Tryz.prog T B (drawP Tryz.prog T B) (fun _ => ([], [])) (fun ch w => R (.panicked ch) w) (fun ρ w => resP Tryz.prog T Tryz.f51.results.toList ρ w fun v => R (.returned v) w) (cAt [2, 2, 2, 2, 2, 1, 2, 2, 1, 2, 2, 1, 2, 2, 2, 2, 3] (bodyOf Tryz.f51)) 0 (fun i ρ w => False) (fun ρ w => K (ρ 3) (ρ 4) (ρ 11) (ρ 14) w)
      (wr [3, 4, 11, 40] [.pointer (some (s31)), .pointer (some (s42)), .pointer (some (s113)), .slice (s404A) (s404n) (s404c)] r) w = m51_P4 R K s31 s42 s113 s404A s404n s404c w := by kernel_rfl

def m51_P5_K1 (R : Ending → World → Prop) (K : World → Prop) (w : World) : Prop :=
    K w

def m51_P5_K2 (R : Ending → World → Prop) (K : World → Prop) (out17 : Addr) (p18A : Option Addr) (p18n : Nat) (p18c : Nat) (v19 : Bool) (w : World) : Prop :=
    if (v19) = true then
    (∃ v20, World.cell? w (out17) = some v20 ∧ ∃ x21A x21n x21c, v20 = .slice x21A x21n x21c ∧ Sized 1 [.slice (p18A) (p18n) (p18c)] ∧
    RunV Tryz.prog (Builtin.append_ #[23, 23] 23 #[.slice (x21A) (x21n) (x21c), .slice (some (⟨w.heap.size, 0, none⟩)) (1) (1)]) (World.alloc w (.cells (flat [.slice (p18A) (p18n) (p18c)]) 22)) fun r22 wv23 =>
    ∃ x24A x24n x24c, r22 = .slice x24A x24n x24c ∧ (∃ u25, World.cell? wv23 (out17) = some u25) ∧ World.frozen? wv23 (out17) = false ∧
    m51_P5_K1 R K (World.setCell wv23 (out17) (.slice (x24A) (x24n) (x24c))))
    else
    (m51_P5_K1 R K w)

def m51_P5 (R : Ending → World → Prop) (K : World → Prop) (s31 : Addr) (s42 : Addr) (s113 : Addr) (s144A : Option Addr) (s144n : Nat) (s144c : Nat) (w : World) : Prop :=
    ∃ x5 : Array Value, x5.size = 1 ∧ CellsAt w (s31) x5 ∧
    Calls Tryz.prog 21 #[.agg (x5), .slice (s144A) (s144n) (s144c)] w (Ret (fun r6 wv7 =>
    ∃ x8 x9, r6 = .tuple #[x8, x9] ∧ ∃ x10A x10n x10c, x8 = .slice x10A x10n x10c ∧ ∃ x11, x9 = .int .i64 x11 ∧ if ((x11 : Int) == (0)) = true then
    (∃ v12, World.cell? wv7 (s42) = some v12 ∧ ∃ x13A x13n x13c, v12 = .slice x13A x13n x13c ∧ Calls Tryz.prog 13 #[.slice (x10A) (x10n) (x10c), .slice (x13A) (x13n) (x13c)] wv7 (Ret (fun r14 wv15 =>
    ∃ x16, r14 = .int .i64 x16 ∧ m51_P5_K2 R K (s113) (x10A) (x10n) (x10c) (decide ((x16 : Int) < (0))) wv15) (fun ch w => R (.panicked ch) w)))
    else
    (m51_P5_K2 R K (s113) (x10A) (x10n) (x10c) (false) wv7)) (fun ch w => R (.panicked ch) w))

theorem m51_P5_e (R : Ending → World → Prop) (K : World → Prop) (s31 : Addr) (s42 : Addr) (s113 : Addr) (s144A : Option Addr) (s144n : Nat) (s144c : Nat) (r : Env) (w : World) :
    codeP Tryz.prog T B (drawP Tryz.prog T B) (fun _ => ([], [])) (fun ch w => R (.panicked ch) w) (fun ρ w => resP Tryz.prog T Tryz.f51.results.toList ρ w fun v => R (.returned v) w) (cAt [2, 2, 2, 2, 2, 1, 2, 2, 1, 2, 2, 1, 2, 2, 2, 2, 4] (bodyOf Tryz.f51)) 0 (fun i ρ w => False) (fun ρ w => K w)
      (wr [3, 4, 11, 14] [.pointer (some (s31)), .pointer (some (s42)), .pointer (some (s113)), .slice (s144A) (s144n) (s144c)] r) w = m51_P5 R K s31 s42 s113 s144A s144n s144c w := by kernel_rfl

def m51_P6 (R : Ending → World → Prop) (K : Value → World → Prop) (s301 : Int) (w : World) : Prop :=
    K (.int .i64 (IntKind.i64.wrap ((s301 : Int) + (1))) : Value) w

theorem m51_P6_e (R : Ending → World → Prop) (K : Value → World → Prop) (s301 : Int) (r : Env) (w : World) :
    codeP Tryz.prog T B (drawP Tryz.prog T B) (fun _ => ([], [])) (fun ch w => R (.panicked ch) w) (fun ρ w => resP Tryz.prog T Tryz.f51.results.toList ρ w fun v => R (.returned v) w) (cAt [2, 2, 2, 2, 2, 1, 2, 2, 1, 2, 2, 2] (bodyOf Tryz.f51)) 0 (fun i ρ w => False) (fun ρ w => K (ρ 30) w)
      (wr [30] [.int .i64 (s301)] r) w = m51_P6 R K s301 w := by kernel_rfl

def m51_P7 (R : Ending → World → Prop) (K : World → Prop) (s111 : Addr) (w : World) : Prop :=
    ∃ v2, World.cell? w (s111) = some v2 ∧ ∃ x3A x3n x3c, v2 = .slice x3A x3n x3c ∧ Calls Tryz.prog 16 #[.slice (x3A) (x3n) (x3c)] w (Ret (fun r4 wv5 =>
    ∃ x6A x6n x6c, r4 = .slice x6A x6n x6c ∧ R (.returned (.tuple #[.slice (x6A) (x6n) (x6c), .int .i64 (0)])) wv5) (fun ch w => R (.panicked ch) w))

theorem m51_P7_e (R : Ending → World → Prop) (K : World → Prop) (s111 : Addr) (r : Env) (w : World) :
    codeP Tryz.prog T B (drawP Tryz.prog T B) (fun _ => ([], [])) (fun ch w => R (.panicked ch) w) (fun ρ w => resP Tryz.prog T Tryz.f51.results.toList ρ w fun v => R (.returned v) w) (.seq (cAt [2, 2, 2, 2, 2, 2, 1] (bodyOf Tryz.f51)) (cAt [2, 2, 2, 2, 2, 2, 2] (bodyOf Tryz.f51))) 0 (fun i ρ w => False) (fun ρ w => K w)
      (wr [11] [.pointer (some (s111))] r) w = m51_P7 R K s111 w := by kernel_rfl

end Go.Proofs.YtilacabmbjephaaGreatDoor
