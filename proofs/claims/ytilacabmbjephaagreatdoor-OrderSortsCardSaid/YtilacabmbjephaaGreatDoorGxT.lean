/- The types and functions of the program, as the evaluator asks for them; printed by wip/gent.py. -/
import Derived.Test.YtilacabmbjephaaGreatDoorProg
import Derived.Test.YtilacabmbjephaaGreatDoorGxF
import Derived.KernelRfl
namespace Go.Proofs.YtilacabmbjephaaGreatDoor
open Go Go.GX
set_option maxRecDepth 100000
def aggB (P : Program) (t sz : Nat) (fs : List (Nat × Nat)) (zs : List Value) : Bool :=
  match P.underlying t with
  | some (.struct fa) => (fa.toList.map fun f => (f.offset, f.type)) == fs && fa.toList.all (fun f => match pinfo P f.type with | some (_, s) => Nat.blt 0 s | none => false) && Nat.beq zs.length sz
  | _ => false
theorem aggOf {P : Program} {t sz : Nat} {fs : List (Nat × Nat)} {zs : List Value} (h : aggB P t sz fs zs = true) (hp : pinfo P t = some (some (.agg zs.toArray), sz)) : TSpec P t (.agg sz fs zs) := by
  unfold aggB at h
  split at h
  · rename_i fa hu
    simp only [Bool.and_eq_true, List.all_eq_true, beq_iff_eq] at h
    obtain ⟨⟨h1, h2⟩, h3⟩ := h
    refine ⟨⟨fa, hu, h1, fun f hf => ?_⟩, hp, Nat.eq_of_beq_eq_true h3⟩
    have := h2 f hf
    split at this
    · rename_i z s hz
      exact ⟨z, s, hz, by simpa [Nat.blt_eq] using this⟩
    · cases this
  · cases h
theorem ts0 : TSpec Tryz.prog 0 (.tup 0) := trivial
theorem ts1 : TSpec Tryz.prog 1 (.fn) := ⟨(show oneOk Tryz.prog 1 = true by kernel_rfl), by kernel_rfl⟩
theorem ts2 : TSpec Tryz.prog 2 (.int .i64) := ⟨by kernel_rfl, by kernel_rfl⟩
theorem ts3 : TSpec Tryz.prog 3 (.int .i64) := ⟨by kernel_rfl, by kernel_rfl⟩
theorem ts4 : TSpec Tryz.prog 4 (.bool) := ⟨by kernel_rfl, by kernel_rfl⟩
theorem ts5 : TSpec Tryz.prog 5 (.int .u8) := ⟨by kernel_rfl, by kernel_rfl⟩
theorem ts6 : TSpec Tryz.prog 6 (.int .u8) := ⟨by kernel_rfl, by kernel_rfl⟩
theorem ts7 : TSpec Tryz.prog 7 (.agg 4 [(0, 2), (1, 3), (2, 4), (3, 6)] [.int .i64 0, .int .i64 0, .bool false, .int .u8 0]) := aggOf (by kernel_rfl) (by kernel_rfl)
theorem ts8 : TSpec Tryz.prog 8 (.agg 4 [(0, 2), (1, 3), (2, 4), (3, 6)] [.int .i64 0, .int .i64 0, .bool false, .int .u8 0]) := aggOf (by kernel_rfl) (by kernel_rfl)
theorem ts9 : TSpec Tryz.prog 9 (.str) := ⟨by kernel_rfl, by kernel_rfl⟩
theorem ts10 : TSpec Tryz.prog 10 (.str) := ⟨by kernel_rfl, by kernel_rfl⟩
theorem ts11 : TSpec Tryz.prog 11 (.str) := ⟨by kernel_rfl, by kernel_rfl⟩
theorem ts12 : TSpec Tryz.prog 12 (.int .u64) := ⟨by kernel_rfl, by kernel_rfl⟩
theorem ts13 : TSpec Tryz.prog 13 (.agg 2 [(0, 9), (1, 12)] [.string ⟨#[]⟩, .int .u64 0]) := aggOf (by kernel_rfl) (by kernel_rfl)
theorem ts14 : TSpec Tryz.prog 14 (.agg 2 [(0, 9), (1, 12)] [.string ⟨#[]⟩, .int .u64 0]) := aggOf (by kernel_rfl) (by kernel_rfl)
theorem ts15 : TSpec Tryz.prog 15 (.ptr) := ⟨⟨265, by kernel_rfl⟩, by kernel_rfl⟩
theorem ts16 : TSpec Tryz.prog 16 (.ptr) := ⟨⟨268, by kernel_rfl⟩, by kernel_rfl⟩
theorem ts17 : TSpec Tryz.prog 17 (.ptr) := ⟨⟨277, by kernel_rfl⟩, by kernel_rfl⟩
theorem ts18 : TSpec Tryz.prog 18 (.agg 1 [(0, 17)] [.pointer none]) := aggOf (by kernel_rfl) (by kernel_rfl)
theorem ts19 : TSpec Tryz.prog 19 (.agg 1 [(0, 17)] [.pointer none]) := aggOf (by kernel_rfl) (by kernel_rfl)
theorem ts20 : TSpec Tryz.prog 20 (.opaque1) := (show oneOk Tryz.prog 20 = true by kernel_rfl)
theorem ts21 : TSpec Tryz.prog 21 (.int .i32) := ⟨by kernel_rfl, by kernel_rfl⟩
theorem ts22 : TSpec Tryz.prog 22 (.slice 3 1) := ⟨by kernel_rfl, by kernel_rfl, ⟨.int .i64 0, by kernel_rfl⟩⟩
theorem ts23 : TSpec Tryz.prog 23 (.slice 22 1) := ⟨by kernel_rfl, by kernel_rfl, ⟨.slice none 0 0, by kernel_rfl⟩⟩
theorem ts24 : TSpec Tryz.prog 24 (.fn) := ⟨(show oneOk Tryz.prog 24 = true by kernel_rfl), by kernel_rfl⟩
theorem ts25 : TSpec Tryz.prog 25 (.fn) := ⟨(show oneOk Tryz.prog 25 = true by kernel_rfl), by kernel_rfl⟩
theorem ts26 : TSpec Tryz.prog 26 (.fn) := ⟨(show oneOk Tryz.prog 26 = true by kernel_rfl), by kernel_rfl⟩
theorem ts27 : TSpec Tryz.prog 27 (.fn) := ⟨(show oneOk Tryz.prog 27 = true by kernel_rfl), by kernel_rfl⟩
theorem ts28 : TSpec Tryz.prog 28 (.fn) := ⟨(show oneOk Tryz.prog 28 = true by kernel_rfl), by kernel_rfl⟩
theorem ts29 : TSpec Tryz.prog 29 (.fn) := ⟨(show oneOk Tryz.prog 29 = true by kernel_rfl), by kernel_rfl⟩
theorem ts30 : TSpec Tryz.prog 30 (.fn) := ⟨(show oneOk Tryz.prog 30 = true by kernel_rfl), by kernel_rfl⟩
theorem ts31 : TSpec Tryz.prog 31 (.fn) := ⟨(show oneOk Tryz.prog 31 = true by kernel_rfl), by kernel_rfl⟩
theorem ts32 : TSpec Tryz.prog 32 (.fn) := ⟨(show oneOk Tryz.prog 32 = true by kernel_rfl), by kernel_rfl⟩
theorem ts33 : TSpec Tryz.prog 33 (.slice 40 1) := ⟨by kernel_rfl, by kernel_rfl, ⟨.agg #[.slice none 0 0], by kernel_rfl⟩⟩
theorem ts34 : TSpec Tryz.prog 34 (.fn) := ⟨(show oneOk Tryz.prog 34 = true by kernel_rfl), by kernel_rfl⟩
theorem ts35 : TSpec Tryz.prog 35 (.int .i64) := ⟨by kernel_rfl, by kernel_rfl⟩
theorem ts36 : TSpec Tryz.prog 36 (.tup 2) := trivial
theorem ts37 : TSpec Tryz.prog 37 (.fn) := ⟨(show oneOk Tryz.prog 37 = true by kernel_rfl), by kernel_rfl⟩
theorem ts38 : TSpec Tryz.prog 38 (.slice 74 12) := ⟨by kernel_rfl, by kernel_rfl, ⟨.agg #[.int .i64 0, .string ⟨#[]⟩, .int .i64 0, .int .i64 0, .slice none 0 0, .slice none 0 0, .slice none 0 0, .slice none 0 0, .int .i64 0, .int .i64 0, .string ⟨#[]⟩, .slice none 0 0], by kernel_rfl⟩⟩
theorem ts39 : TSpec Tryz.prog 39 (.agg 1 [(0, 38)] [.slice none 0 0]) := aggOf (by kernel_rfl) (by kernel_rfl)
theorem ts40 : TSpec Tryz.prog 40 (.agg 1 [(0, 38)] [.slice none 0 0]) := aggOf (by kernel_rfl) (by kernel_rfl)
theorem ts41 : TSpec Tryz.prog 41 (.tup 2) := trivial
theorem ts42 : TSpec Tryz.prog 42 (.fn) := ⟨(show oneOk Tryz.prog 42 = true by kernel_rfl), by kernel_rfl⟩
theorem ts43 : TSpec Tryz.prog 43 (.slice 45 4) := ⟨by kernel_rfl, by kernel_rfl, ⟨.agg #[.int .i64 0, .int .i64 0, .string ⟨#[]⟩, .slice none 0 0], by kernel_rfl⟩⟩
theorem ts44 : TSpec Tryz.prog 44 (.agg 4 [(0, 3), (1, 3), (2, 9), (3, 43)] [.int .i64 0, .int .i64 0, .string ⟨#[]⟩, .slice none 0 0]) := aggOf (by kernel_rfl) (by kernel_rfl)
theorem ts45 : TSpec Tryz.prog 45 (.agg 4 [(0, 3), (1, 3), (2, 9), (3, 43)] [.int .i64 0, .int .i64 0, .string ⟨#[]⟩, .slice none 0 0]) := aggOf (by kernel_rfl) (by kernel_rfl)
theorem ts46 : TSpec Tryz.prog 46 (.tup 2) := trivial
theorem ts47 : TSpec Tryz.prog 47 (.fn) := ⟨(show oneOk Tryz.prog 47 = true by kernel_rfl), by kernel_rfl⟩
theorem ts48 : TSpec Tryz.prog 48 (.fn) := ⟨(show oneOk Tryz.prog 48 = true by kernel_rfl), by kernel_rfl⟩
theorem ts49 : TSpec Tryz.prog 49 (.fn) := ⟨(show oneOk Tryz.prog 49 = true by kernel_rfl), by kernel_rfl⟩
theorem ts50 : TSpec Tryz.prog 50 (.slice 130 1) := ⟨by kernel_rfl, by kernel_rfl, ⟨.int .u32 0, by kernel_rfl⟩⟩
theorem ts51 : TSpec Tryz.prog 51 (.agg 2 [(0, 4), (1, 50)] [.bool false, .slice none 0 0]) := aggOf (by kernel_rfl) (by kernel_rfl)
theorem ts52 : TSpec Tryz.prog 52 (.agg 2 [(0, 4), (1, 50)] [.bool false, .slice none 0 0]) := aggOf (by kernel_rfl) (by kernel_rfl)
theorem ts53 : TSpec Tryz.prog 53 (.tup 2) := trivial
theorem ts54 : TSpec Tryz.prog 54 (.fn) := ⟨(show oneOk Tryz.prog 54 = true by kernel_rfl), by kernel_rfl⟩
theorem ts55 : TSpec Tryz.prog 55 (.fn) := ⟨(show oneOk Tryz.prog 55 = true by kernel_rfl), by kernel_rfl⟩
theorem ts56 : TSpec Tryz.prog 56 (.fn) := ⟨(show oneOk Tryz.prog 56 = true by kernel_rfl), by kernel_rfl⟩
theorem ts57 : TSpec Tryz.prog 57 (.fn) := ⟨(show oneOk Tryz.prog 57 = true by kernel_rfl), by kernel_rfl⟩
theorem ts58 : TSpec Tryz.prog 58 (.fn) := ⟨(show oneOk Tryz.prog 58 = true by kernel_rfl), by kernel_rfl⟩
theorem ts59 : TSpec Tryz.prog 59 (.fn) := ⟨(show oneOk Tryz.prog 59 = true by kernel_rfl), by kernel_rfl⟩
theorem ts60 : TSpec Tryz.prog 60 (.fn) := ⟨(show oneOk Tryz.prog 60 = true by kernel_rfl), by kernel_rfl⟩
theorem ts61 : TSpec Tryz.prog 61 (.fn) := ⟨(show oneOk Tryz.prog 61 = true by kernel_rfl), by kernel_rfl⟩
theorem ts62 : TSpec Tryz.prog 62 (.fn) := ⟨(show oneOk Tryz.prog 62 = true by kernel_rfl), by kernel_rfl⟩
theorem ts63 : TSpec Tryz.prog 63 (.fn) := ⟨(show oneOk Tryz.prog 63 = true by kernel_rfl), by kernel_rfl⟩
theorem ts64 : TSpec Tryz.prog 64 (.fn) := ⟨(show oneOk Tryz.prog 64 = true by kernel_rfl), by kernel_rfl⟩
theorem ts65 : TSpec Tryz.prog 65 (.fn) := ⟨(show oneOk Tryz.prog 65 = true by kernel_rfl), by kernel_rfl⟩
theorem ts66 : TSpec Tryz.prog 66 (.ptr) := ⟨⟨70, by kernel_rfl⟩, by kernel_rfl⟩
theorem ts67 : TSpec Tryz.prog 67 (.fn) := ⟨(show oneOk Tryz.prog 67 = true by kernel_rfl), by kernel_rfl⟩
theorem ts68 : TSpec Tryz.prog 68 (.slice 168 3) := ⟨by kernel_rfl, by kernel_rfl, ⟨.agg #[.int .i64 0, .int .i64 0, .int .i64 0], by kernel_rfl⟩⟩
theorem ts69 : TSpec Tryz.prog 69 (.agg 4 [(0, 40), (1, 67), (2, 3), (3, 68)] [.slice none 0 0, .nilFunc, .int .i64 0, .slice none 0 0]) := aggOf (by kernel_rfl) (by kernel_rfl)
theorem ts70 : TSpec Tryz.prog 70 (.agg 4 [(0, 40), (1, 67), (2, 3), (3, 68)] [.slice none 0 0, .nilFunc, .int .i64 0, .slice none 0 0]) := aggOf (by kernel_rfl) (by kernel_rfl)
theorem ts71 : TSpec Tryz.prog 71 (.fn) := ⟨(show oneOk Tryz.prog 71 = true by kernel_rfl), by kernel_rfl⟩
theorem ts72 : TSpec Tryz.prog 72 (.slice 9 1) := ⟨by kernel_rfl, by kernel_rfl, ⟨.string ⟨#[]⟩, by kernel_rfl⟩⟩
theorem ts73 : TSpec Tryz.prog 73 (.agg 12 [(0, 3), (1, 9), (2, 3), (3, 3), (4, 22), (5, 72), (6, 43), (7, 22), (8, 45)] [.int .i64 0, .string ⟨#[]⟩, .int .i64 0, .int .i64 0, .slice none 0 0, .slice none 0 0, .slice none 0 0, .slice none 0 0, .int .i64 0, .int .i64 0, .string ⟨#[]⟩, .slice none 0 0]) := aggOf (by kernel_rfl) (by kernel_rfl)
theorem ts74 : TSpec Tryz.prog 74 (.agg 12 [(0, 3), (1, 9), (2, 3), (3, 3), (4, 22), (5, 72), (6, 43), (7, 22), (8, 45)] [.int .i64 0, .string ⟨#[]⟩, .int .i64 0, .int .i64 0, .slice none 0 0, .slice none 0 0, .slice none 0 0, .slice none 0 0, .int .i64 0, .int .i64 0, .string ⟨#[]⟩, .slice none 0 0]) := aggOf (by kernel_rfl) (by kernel_rfl)
theorem ts75 : TSpec Tryz.prog 75 (.agg 2 [(0, 3), (1, 35)] [.int .i64 0, .int .i64 0]) := aggOf (by kernel_rfl) (by kernel_rfl)
theorem ts76 : TSpec Tryz.prog 76 (.agg 2 [(0, 3), (1, 35)] [.int .i64 0, .int .i64 0]) := aggOf (by kernel_rfl) (by kernel_rfl)
theorem ts77 : TSpec Tryz.prog 77 (.tup 2) := trivial
theorem ts78 : TSpec Tryz.prog 78 (.fn) := ⟨(show oneOk Tryz.prog 78 = true by kernel_rfl), by kernel_rfl⟩
theorem ts79 : TSpec Tryz.prog 79 (.fn) := ⟨(show oneOk Tryz.prog 79 = true by kernel_rfl), by kernel_rfl⟩
theorem ts80 : TSpec Tryz.prog 80 (.tup 3) := trivial
theorem ts81 : TSpec Tryz.prog 81 (.fn) := ⟨(show oneOk Tryz.prog 81 = true by kernel_rfl), by kernel_rfl⟩
theorem ts82 : TSpec Tryz.prog 82 (.fn) := ⟨(show oneOk Tryz.prog 82 = true by kernel_rfl), by kernel_rfl⟩
theorem ts83 : TSpec Tryz.prog 83 (.fn) := ⟨(show oneOk Tryz.prog 83 = true by kernel_rfl), by kernel_rfl⟩
theorem ts84 : TSpec Tryz.prog 84 (.fn) := ⟨(show oneOk Tryz.prog 84 = true by kernel_rfl), by kernel_rfl⟩
theorem ts85 : TSpec Tryz.prog 85 (.fn) := ⟨(show oneOk Tryz.prog 85 = true by kernel_rfl), by kernel_rfl⟩
theorem ts86 : TSpec Tryz.prog 86 (.fn) := ⟨(show oneOk Tryz.prog 86 = true by kernel_rfl), by kernel_rfl⟩
theorem ts87 : TSpec Tryz.prog 87 (.int .u64) := ⟨by kernel_rfl, by kernel_rfl⟩
theorem ts88 : TSpec Tryz.prog 88 (.agg 7 [(0, 45), (4, 3), (5, 3), (6, 68)] [.int .i64 0, .int .i64 0, .string ⟨#[]⟩, .slice none 0 0, .int .i64 0, .int .i64 0, .slice none 0 0]) := aggOf (by kernel_rfl) (by kernel_rfl)
theorem ts89 : TSpec Tryz.prog 89 (.agg 7 [(0, 45), (4, 3), (5, 3), (6, 68)] [.int .i64 0, .int .i64 0, .string ⟨#[]⟩, .slice none 0 0, .int .i64 0, .int .i64 0, .slice none 0 0]) := aggOf (by kernel_rfl) (by kernel_rfl)
theorem ts90 : TSpec Tryz.prog 90 (.fn) := ⟨(show oneOk Tryz.prog 90 = true by kernel_rfl), by kernel_rfl⟩
theorem ts91 : TSpec Tryz.prog 91 (.fn) := ⟨(show oneOk Tryz.prog 91 = true by kernel_rfl), by kernel_rfl⟩
theorem ts92 : TSpec Tryz.prog 92 (.fn) := ⟨(show oneOk Tryz.prog 92 = true by kernel_rfl), by kernel_rfl⟩
theorem ts93 : TSpec Tryz.prog 93 (.fn) := ⟨(show oneOk Tryz.prog 93 = true by kernel_rfl), by kernel_rfl⟩
theorem ts94 : TSpec Tryz.prog 94 (.slice 100 5) := ⟨by kernel_rfl, by kernel_rfl, ⟨.agg #[.int .i64 0, .int .i64 0, .slice none 0 0, .bool false, .bool false], by kernel_rfl⟩⟩
theorem ts95 : TSpec Tryz.prog 95 (.fn) := ⟨(show oneOk Tryz.prog 95 = true by kernel_rfl), by kernel_rfl⟩
theorem ts96 : TSpec Tryz.prog 96 (.fn) := ⟨(show oneOk Tryz.prog 96 = true by kernel_rfl), by kernel_rfl⟩
theorem ts97 : TSpec Tryz.prog 97 (.fn) := ⟨(show oneOk Tryz.prog 97 = true by kernel_rfl), by kernel_rfl⟩
theorem ts98 : TSpec Tryz.prog 98 (.fn) := ⟨(show oneOk Tryz.prog 98 = true by kernel_rfl), by kernel_rfl⟩
theorem ts99 : TSpec Tryz.prog 99 (.agg 5 [(0, 3), (1, 3), (2, 43), (3, 4), (4, 4)] [.int .i64 0, .int .i64 0, .slice none 0 0, .bool false, .bool false]) := aggOf (by kernel_rfl) (by kernel_rfl)
theorem ts100 : TSpec Tryz.prog 100 (.agg 5 [(0, 3), (1, 3), (2, 43), (3, 4), (4, 4)] [.int .i64 0, .int .i64 0, .slice none 0 0, .bool false, .bool false]) := aggOf (by kernel_rfl) (by kernel_rfl)
theorem ts101 : TSpec Tryz.prog 101 (.ptr) := ⟨⟨100, by kernel_rfl⟩, by kernel_rfl⟩
theorem ts102 : TSpec Tryz.prog 102 (.fn) := ⟨(show oneOk Tryz.prog 102 = true by kernel_rfl), by kernel_rfl⟩
theorem ts103 : TSpec Tryz.prog 103 (.fn) := ⟨(show oneOk Tryz.prog 103 = true by kernel_rfl), by kernel_rfl⟩
theorem ts104 : TSpec Tryz.prog 104 (.fn) := ⟨(show oneOk Tryz.prog 104 = true by kernel_rfl), by kernel_rfl⟩
theorem ts105 : TSpec Tryz.prog 105 (.tup 2) := trivial
theorem ts106 : TSpec Tryz.prog 106 (.fn) := ⟨(show oneOk Tryz.prog 106 = true by kernel_rfl), by kernel_rfl⟩
theorem ts107 : TSpec Tryz.prog 107 (.fn) := ⟨(show oneOk Tryz.prog 107 = true by kernel_rfl), by kernel_rfl⟩
theorem ts108 : TSpec Tryz.prog 108 (.opaque1) := (show oneOk Tryz.prog 108 = true by kernel_rfl)
theorem ts109 : TSpec Tryz.prog 109 (.fn) := ⟨(show oneOk Tryz.prog 109 = true by kernel_rfl), by kernel_rfl⟩
theorem ts110 : TSpec Tryz.prog 110 (.fn) := ⟨(show oneOk Tryz.prog 110 = true by kernel_rfl), by kernel_rfl⟩
theorem ts111 : TSpec Tryz.prog 111 (.fn) := ⟨(show oneOk Tryz.prog 111 = true by kernel_rfl), by kernel_rfl⟩
theorem ts112 : TSpec Tryz.prog 112 (.ptr) := ⟨⟨176, by kernel_rfl⟩, by kernel_rfl⟩
theorem ts113 : TSpec Tryz.prog 113 (.fn) := ⟨(show oneOk Tryz.prog 113 = true by kernel_rfl), by kernel_rfl⟩
theorem ts114 : TSpec Tryz.prog 114 (.slice 52 2) := ⟨by kernel_rfl, by kernel_rfl, ⟨.agg #[.bool false, .slice none 0 0], by kernel_rfl⟩⟩
theorem ts115 : TSpec Tryz.prog 115 (.slice 52 2) := ⟨by kernel_rfl, by kernel_rfl, ⟨.agg #[.bool false, .slice none 0 0], by kernel_rfl⟩⟩
theorem ts116 : TSpec Tryz.prog 116 (.tup 2) := trivial
theorem ts117 : TSpec Tryz.prog 117 (.fn) := ⟨(show oneOk Tryz.prog 117 = true by kernel_rfl), by kernel_rfl⟩
theorem ts118 : TSpec Tryz.prog 118 (.fn) := ⟨(show oneOk Tryz.prog 118 = true by kernel_rfl), by kernel_rfl⟩
theorem ts119 : TSpec Tryz.prog 119 (.fn) := ⟨(show oneOk Tryz.prog 119 = true by kernel_rfl), by kernel_rfl⟩
theorem ts120 : TSpec Tryz.prog 120 (.agg 2 [(0, 115), (1, 119)] [.slice none 0 0, .nilFunc]) := aggOf (by kernel_rfl) (by kernel_rfl)
theorem ts121 : TSpec Tryz.prog 121 (.agg 2 [(0, 115), (1, 119)] [.slice none 0 0, .nilFunc]) := aggOf (by kernel_rfl) (by kernel_rfl)
theorem ts122 : TSpec Tryz.prog 122 (.fn) := ⟨(show oneOk Tryz.prog 122 = true by kernel_rfl), by kernel_rfl⟩
theorem ts123 : TSpec Tryz.prog 123 (.fn) := ⟨(show oneOk Tryz.prog 123 = true by kernel_rfl), by kernel_rfl⟩
theorem ts124 : TSpec Tryz.prog 124 (.fn) := ⟨(show oneOk Tryz.prog 124 = true by kernel_rfl), by kernel_rfl⟩
theorem ts125 : TSpec Tryz.prog 125 (.fn) := ⟨(show oneOk Tryz.prog 125 = true by kernel_rfl), by kernel_rfl⟩
theorem ts126 : TSpec Tryz.prog 126 (.fn) := ⟨(show oneOk Tryz.prog 126 = true by kernel_rfl), by kernel_rfl⟩
theorem ts127 : TSpec Tryz.prog 127 (.agg 1 [(0, 126)] [.nilFunc]) := aggOf (by kernel_rfl) (by kernel_rfl)
theorem ts128 : TSpec Tryz.prog 128 (.agg 1 [(0, 126)] [.nilFunc]) := aggOf (by kernel_rfl) (by kernel_rfl)
theorem ts129 : TSpec Tryz.prog 129 (.fn) := ⟨(show oneOk Tryz.prog 129 = true by kernel_rfl), by kernel_rfl⟩
theorem ts130 : TSpec Tryz.prog 130 (.int .u32) := ⟨by kernel_rfl, by kernel_rfl⟩
theorem ts131 : TSpec Tryz.prog 131 (.fn) := ⟨(show oneOk Tryz.prog 131 = true by kernel_rfl), by kernel_rfl⟩
theorem ts132 : TSpec Tryz.prog 132 (.int .i64) := ⟨by kernel_rfl, by kernel_rfl⟩
theorem ts133 : TSpec Tryz.prog 133 (.tup 2) := trivial
theorem ts134 : TSpec Tryz.prog 134 (.fn) := ⟨(show oneOk Tryz.prog 134 = true by kernel_rfl), by kernel_rfl⟩
theorem ts135 : TSpec Tryz.prog 135 (.fn) := ⟨(show oneOk Tryz.prog 135 = true by kernel_rfl), by kernel_rfl⟩
theorem ts136 : TSpec Tryz.prog 136 (.fn) := ⟨(show oneOk Tryz.prog 136 = true by kernel_rfl), by kernel_rfl⟩
theorem ts137 : TSpec Tryz.prog 137 (.tup 2) := trivial
theorem ts138 : TSpec Tryz.prog 138 (.fn) := ⟨(show oneOk Tryz.prog 138 = true by kernel_rfl), by kernel_rfl⟩
theorem ts139 : TSpec Tryz.prog 139 (.fn) := ⟨(show oneOk Tryz.prog 139 = true by kernel_rfl), by kernel_rfl⟩
theorem ts140 : TSpec Tryz.prog 140 (.fn) := ⟨(show oneOk Tryz.prog 140 = true by kernel_rfl), by kernel_rfl⟩
theorem ts141 : TSpec Tryz.prog 141 (.int .u64) := ⟨by kernel_rfl, by kernel_rfl⟩
theorem ts142 : TSpec Tryz.prog 142 (.fn) := ⟨(show oneOk Tryz.prog 142 = true by kernel_rfl), by kernel_rfl⟩
theorem ts143 : TSpec Tryz.prog 143 (.fn) := ⟨(show oneOk Tryz.prog 143 = true by kernel_rfl), by kernel_rfl⟩
theorem ts144 : TSpec Tryz.prog 144 (.fn) := ⟨(show oneOk Tryz.prog 144 = true by kernel_rfl), by kernel_rfl⟩
theorem ts145 : TSpec Tryz.prog 145 (.fn) := ⟨(show oneOk Tryz.prog 145 = true by kernel_rfl), by kernel_rfl⟩
theorem ts146 : TSpec Tryz.prog 146 (.fn) := ⟨(show oneOk Tryz.prog 146 = true by kernel_rfl), by kernel_rfl⟩
theorem ts147 : TSpec Tryz.prog 147 (.fn) := ⟨(show oneOk Tryz.prog 147 = true by kernel_rfl), by kernel_rfl⟩
theorem ts148 : TSpec Tryz.prog 148 (.fn) := ⟨(show oneOk Tryz.prog 148 = true by kernel_rfl), by kernel_rfl⟩
theorem ts149 : TSpec Tryz.prog 149 (.tup 2) := trivial
theorem ts150 : TSpec Tryz.prog 150 (.fn) := ⟨(show oneOk Tryz.prog 150 = true by kernel_rfl), by kernel_rfl⟩
theorem ts151 : TSpec Tryz.prog 151 (.fn) := ⟨(show oneOk Tryz.prog 151 = true by kernel_rfl), by kernel_rfl⟩
theorem ts152 : TSpec Tryz.prog 152 (.arr 6 4 1 [.bool false, .bool false, .bool false, .bool false, .bool false, .bool false]) := ⟨by kernel_rfl, ⟨some (.bool false), by kernel_rfl⟩, by kernel_rfl, by decide⟩
theorem ts153 : TSpec Tryz.prog 153 (.arr 5 152 6 [.bool false, .bool false, .bool false, .bool false, .bool false, .bool false, .bool false, .bool false, .bool false, .bool false, .bool false, .bool false, .bool false, .bool false, .bool false, .bool false, .bool false, .bool false, .bool false, .bool false, .bool false, .bool false, .bool false, .bool false, .bool false, .bool false, .bool false, .bool false, .bool false, .bool false]) := ⟨by kernel_rfl, ⟨some (.agg #[.bool false, .bool false, .bool false, .bool false, .bool false, .bool false]), by kernel_rfl⟩, by kernel_rfl, by decide⟩
theorem ts154 : TSpec Tryz.prog 154 (.fn) := ⟨(show oneOk Tryz.prog 154 = true by kernel_rfl), by kernel_rfl⟩
theorem ts155 : TSpec Tryz.prog 155 (.fn) := ⟨(show oneOk Tryz.prog 155 = true by kernel_rfl), by kernel_rfl⟩
theorem ts156 : TSpec Tryz.prog 156 (.fn) := ⟨(show oneOk Tryz.prog 156 = true by kernel_rfl), by kernel_rfl⟩
theorem ts157 : TSpec Tryz.prog 157 (.slice 158 8) := ⟨by kernel_rfl, by kernel_rfl, ⟨.agg #[.int .i64 0, .int .i64 0, .string ⟨#[]⟩, .slice none 0 0, .int .i64 0, .int .i64 0, .string ⟨#[]⟩, .slice none 0 0], by kernel_rfl⟩⟩
theorem ts158 : TSpec Tryz.prog 158 (.arr 2 45 4 [.int .i64 0, .int .i64 0, .string ⟨#[]⟩, .slice none 0 0, .int .i64 0, .int .i64 0, .string ⟨#[]⟩, .slice none 0 0]) := ⟨by kernel_rfl, ⟨some (.agg #[.int .i64 0, .int .i64 0, .string ⟨#[]⟩, .slice none 0 0]), by kernel_rfl⟩, by kernel_rfl, by decide⟩
theorem ts159 : TSpec Tryz.prog 159 (.fn) := ⟨(show oneOk Tryz.prog 159 = true by kernel_rfl), by kernel_rfl⟩
theorem ts160 : TSpec Tryz.prog 160 (.fn) := ⟨(show oneOk Tryz.prog 160 = true by kernel_rfl), by kernel_rfl⟩
theorem ts161 : TSpec Tryz.prog 161 (.fn) := ⟨(show oneOk Tryz.prog 161 = true by kernel_rfl), by kernel_rfl⟩
theorem ts162 : TSpec Tryz.prog 162 (.fn) := ⟨(show oneOk Tryz.prog 162 = true by kernel_rfl), by kernel_rfl⟩
theorem ts163 : TSpec Tryz.prog 163 (.fn) := ⟨(show oneOk Tryz.prog 163 = true by kernel_rfl), by kernel_rfl⟩
theorem ts164 : TSpec Tryz.prog 164 (.fn) := ⟨(show oneOk Tryz.prog 164 = true by kernel_rfl), by kernel_rfl⟩
theorem ts165 : TSpec Tryz.prog 165 (.fn) := ⟨(show oneOk Tryz.prog 165 = true by kernel_rfl), by kernel_rfl⟩
theorem ts166 : TSpec Tryz.prog 166 (.slice 43 1) := ⟨by kernel_rfl, by kernel_rfl, ⟨.slice none 0 0, by kernel_rfl⟩⟩
theorem ts167 : TSpec Tryz.prog 167 (.fn) := ⟨(show oneOk Tryz.prog 167 = true by kernel_rfl), by kernel_rfl⟩
theorem ts168 : TSpec Tryz.prog 168 (.arr 3 3 1 [.int .i64 0, .int .i64 0, .int .i64 0]) := ⟨by kernel_rfl, ⟨some (.int .i64 0), by kernel_rfl⟩, by kernel_rfl, by decide⟩
theorem ts169 : TSpec Tryz.prog 169 (.fn) := ⟨(show oneOk Tryz.prog 169 = true by kernel_rfl), by kernel_rfl⟩
theorem ts170 : TSpec Tryz.prog 170 (.fn) := ⟨(show oneOk Tryz.prog 170 = true by kernel_rfl), by kernel_rfl⟩
theorem ts171 : TSpec Tryz.prog 171 (.fn) := ⟨(show oneOk Tryz.prog 171 = true by kernel_rfl), by kernel_rfl⟩
theorem ts172 : TSpec Tryz.prog 172 (.fn) := ⟨(show oneOk Tryz.prog 172 = true by kernel_rfl), by kernel_rfl⟩
theorem ts173 : TSpec Tryz.prog 173 (.opaque1) := (show oneOk Tryz.prog 173 = true by kernel_rfl)
theorem ts174 : TSpec Tryz.prog 174 (.opaque1) := (show oneOk Tryz.prog 174 = true by kernel_rfl)
theorem ts175 : TSpec Tryz.prog 175 (.agg 4 [(0, 40), (1, 4), (2, 173), (3, 174)] [.slice none 0 0, .bool false, .map none, .map none]) := aggOf (by kernel_rfl) (by kernel_rfl)
theorem ts176 : TSpec Tryz.prog 176 (.agg 4 [(0, 40), (1, 4), (2, 173), (3, 174)] [.slice none 0 0, .bool false, .map none, .map none]) := aggOf (by kernel_rfl) (by kernel_rfl)
theorem ts177 : TSpec Tryz.prog 177 (.fn) := ⟨(show oneOk Tryz.prog 177 = true by kernel_rfl), by kernel_rfl⟩
theorem ts178 : TSpec Tryz.prog 178 (.fn) := ⟨(show oneOk Tryz.prog 178 = true by kernel_rfl), by kernel_rfl⟩
theorem ts179 : TSpec Tryz.prog 179 (.fn) := ⟨(show oneOk Tryz.prog 179 = true by kernel_rfl), by kernel_rfl⟩
theorem ts180 : TSpec Tryz.prog 180 (.fn) := ⟨(show oneOk Tryz.prog 180 = true by kernel_rfl), by kernel_rfl⟩
theorem ts181 : TSpec Tryz.prog 181 (.fn) := ⟨(show oneOk Tryz.prog 181 = true by kernel_rfl), by kernel_rfl⟩
theorem ts182 : TSpec Tryz.prog 182 (.fn) := ⟨(show oneOk Tryz.prog 182 = true by kernel_rfl), by kernel_rfl⟩
theorem ts183 : TSpec Tryz.prog 183 (.fn) := ⟨(show oneOk Tryz.prog 183 = true by kernel_rfl), by kernel_rfl⟩
theorem ts184 : TSpec Tryz.prog 184 (.fn) := ⟨(show oneOk Tryz.prog 184 = true by kernel_rfl), by kernel_rfl⟩
theorem ts185 : TSpec Tryz.prog 185 (.fn) := ⟨(show oneOk Tryz.prog 185 = true by kernel_rfl), by kernel_rfl⟩
theorem ts186 : TSpec Tryz.prog 186 (.int .u64) := ⟨by kernel_rfl, by kernel_rfl⟩
theorem ts187 : TSpec Tryz.prog 187 (.fn) := ⟨(show oneOk Tryz.prog 187 = true by kernel_rfl), by kernel_rfl⟩
theorem ts188 : TSpec Tryz.prog 188 (.fn) := ⟨(show oneOk Tryz.prog 188 = true by kernel_rfl), by kernel_rfl⟩
theorem ts189 : TSpec Tryz.prog 189 (.fn) := ⟨(show oneOk Tryz.prog 189 = true by kernel_rfl), by kernel_rfl⟩
theorem ts190 : TSpec Tryz.prog 190 (.ptr) := ⟨⟨3, by kernel_rfl⟩, by kernel_rfl⟩
theorem ts191 : TSpec Tryz.prog 191 (.fn) := ⟨(show oneOk Tryz.prog 191 = true by kernel_rfl), by kernel_rfl⟩
theorem ts192 : TSpec Tryz.prog 192 (.fn) := ⟨(show oneOk Tryz.prog 192 = true by kernel_rfl), by kernel_rfl⟩
theorem ts193 : TSpec Tryz.prog 193 (.fn) := ⟨(show oneOk Tryz.prog 193 = true by kernel_rfl), by kernel_rfl⟩
theorem ts194 : TSpec Tryz.prog 194 (.fn) := ⟨(show oneOk Tryz.prog 194 = true by kernel_rfl), by kernel_rfl⟩
theorem ts195 : TSpec Tryz.prog 195 (.slice 198 2) := ⟨by kernel_rfl, by kernel_rfl, ⟨.agg #[.slice none 0 0, .bool false], by kernel_rfl⟩⟩
theorem ts196 : TSpec Tryz.prog 196 (.fn) := ⟨(show oneOk Tryz.prog 196 = true by kernel_rfl), by kernel_rfl⟩
theorem ts197 : TSpec Tryz.prog 197 (.agg 2 [(0, 43), (1, 4)] [.slice none 0 0, .bool false]) := aggOf (by kernel_rfl) (by kernel_rfl)
theorem ts198 : TSpec Tryz.prog 198 (.agg 2 [(0, 43), (1, 4)] [.slice none 0 0, .bool false]) := aggOf (by kernel_rfl) (by kernel_rfl)
theorem ts199 : TSpec Tryz.prog 199 (.fn) := ⟨(show oneOk Tryz.prog 199 = true by kernel_rfl), by kernel_rfl⟩
theorem ts200 : TSpec Tryz.prog 200 (.fn) := ⟨(show oneOk Tryz.prog 200 = true by kernel_rfl), by kernel_rfl⟩
theorem ts201 : TSpec Tryz.prog 201 (.fn) := ⟨(show oneOk Tryz.prog 201 = true by kernel_rfl), by kernel_rfl⟩
theorem ts202 : TSpec Tryz.prog 202 (.fn) := ⟨(show oneOk Tryz.prog 202 = true by kernel_rfl), by kernel_rfl⟩
theorem ts203 : TSpec Tryz.prog 203 (.fn) := ⟨(show oneOk Tryz.prog 203 = true by kernel_rfl), by kernel_rfl⟩
theorem ts204 : TSpec Tryz.prog 204 (.fn) := ⟨(show oneOk Tryz.prog 204 = true by kernel_rfl), by kernel_rfl⟩
theorem ts205 : TSpec Tryz.prog 205 (.fn) := ⟨(show oneOk Tryz.prog 205 = true by kernel_rfl), by kernel_rfl⟩
theorem ts206 : TSpec Tryz.prog 206 (.fn) := ⟨(show oneOk Tryz.prog 206 = true by kernel_rfl), by kernel_rfl⟩
theorem ts207 : TSpec Tryz.prog 207 (.fn) := ⟨(show oneOk Tryz.prog 207 = true by kernel_rfl), by kernel_rfl⟩
theorem ts208 : TSpec Tryz.prog 208 (.slice 211 5) := ⟨by kernel_rfl, by kernel_rfl, ⟨.agg #[.int .i64 0, .int .i64 0, .string ⟨#[]⟩, .slice none 0 0, .slice none 0 0], by kernel_rfl⟩⟩
theorem ts209 : TSpec Tryz.prog 209 (.fn) := ⟨(show oneOk Tryz.prog 209 = true by kernel_rfl), by kernel_rfl⟩
theorem ts210 : TSpec Tryz.prog 210 (.agg 5 [(0, 45), (4, 115)] [.int .i64 0, .int .i64 0, .string ⟨#[]⟩, .slice none 0 0, .slice none 0 0]) := aggOf (by kernel_rfl) (by kernel_rfl)
theorem ts211 : TSpec Tryz.prog 211 (.agg 5 [(0, 45), (4, 115)] [.int .i64 0, .int .i64 0, .string ⟨#[]⟩, .slice none 0 0, .slice none 0 0]) := aggOf (by kernel_rfl) (by kernel_rfl)
theorem ts212 : TSpec Tryz.prog 212 (.fn) := ⟨(show oneOk Tryz.prog 212 = true by kernel_rfl), by kernel_rfl⟩
theorem ts213 : TSpec Tryz.prog 213 (.fn) := ⟨(show oneOk Tryz.prog 213 = true by kernel_rfl), by kernel_rfl⟩
theorem ts214 : TSpec Tryz.prog 214 (.fn) := ⟨(show oneOk Tryz.prog 214 = true by kernel_rfl), by kernel_rfl⟩
theorem ts215 : TSpec Tryz.prog 215 (.fn) := ⟨(show oneOk Tryz.prog 215 = true by kernel_rfl), by kernel_rfl⟩
theorem ts216 : TSpec Tryz.prog 216 (.ptr) := ⟨⟨186, by kernel_rfl⟩, by kernel_rfl⟩
theorem ts217 : TSpec Tryz.prog 217 (.tup 2) := trivial
theorem ts218 : TSpec Tryz.prog 218 (.fn) := ⟨(show oneOk Tryz.prog 218 = true by kernel_rfl), by kernel_rfl⟩
theorem ts219 : TSpec Tryz.prog 219 (.fn) := ⟨(show oneOk Tryz.prog 219 = true by kernel_rfl), by kernel_rfl⟩
theorem ts220 : TSpec Tryz.prog 220 (.fn) := ⟨(show oneOk Tryz.prog 220 = true by kernel_rfl), by kernel_rfl⟩
theorem ts221 : TSpec Tryz.prog 221 (.arr 256 4 1 [.bool false, .bool false, .bool false, .bool false, .bool false, .bool false, .bool false, .bool false, .bool false, .bool false, .bool false, .bool false, .bool false, .bool false, .bool false, .bool false, .bool false, .bool false, .bool false, .bool false, .bool false, .bool false, .bool false, .bool false, .bool false, .bool false, .bool false, .bool false, .bool false, .bool false, .bool false, .bool false, .bool false, .bool false, .bool false, .bool false, .bool false, .bool false, .bool false, .bool false, .bool false, .bool false, .bool false, .bool false, .bool false, .bool false, .bool false, .bool false, .bool false, .bool false, .bool false, .bool false, .bool false, .bool false, .bool false, .bool false, .bool false, .bool false, .bool false, .bool false, .bool false, .bool false, .bool false, .bool false, .bool false, .bool false, .bool false, .bool false, .bool false, .bool false, .bool false, .bool false, .bool false, .bool false, .bool false, .bool false, .bool false, .bool false, .bool false, .bool false, .bool false, .bool false, .bool false, .bool false, .bool false, .bool false, .bool false, .bool false, .bool false, .bool false, .bool false, .bool false, .bool false, .bool false, .bool false, .bool false, .bool false, .bool false, .bool false, .bool false, .bool false, .bool false, .bool false, .bool false, .bool false, .bool false, .bool false, .bool false, .bool false, .bool false, .bool false, .bool false, .bool false, .bool false, .bool false, .bool false, .bool false, .bool false, .bool false, .bool false, .bool false, .bool false, .bool false, .bool false, .bool false, .bool false, .bool false, .bool false, .bool false, .bool false, .bool false, .bool false, .bool false, .bool false, .bool false, .bool false, .bool false, .bool false, .bool false, .bool false, .bool false, .bool false, .bool false, .bool false, .bool false, .bool false, .bool false, .bool false, .bool false, .bool false, .bool false, .bool false, .bool false, .bool false, .bool false, .bool false, .bool false, .bool false, .bool false, .bool false, .bool false, .bool false, .bool false, .bool false, .bool false, .bool false, .bool false, .bool false, .bool false, .bool false, .bool false, .bool false, .bool false, .bool false, .bool false, .bool false, .bool false, .bool false, .bool false, .bool false, .bool false, .bool false, .bool false, .bool false, .bool false, .bool false, .bool false, .bool false, .bool false, .bool false, .bool false, .bool false, .bool false, .bool false, .bool false, .bool false, .bool false, .bool false, .bool false, .bool false, .bool false, .bool false, .bool false, .bool false, .bool false, .bool false, .bool false, .bool false, .bool false, .bool false, .bool false, .bool false, .bool false, .bool false, .bool false, .bool false, .bool false, .bool false, .bool false, .bool false, .bool false, .bool false, .bool false, .bool false, .bool false, .bool false, .bool false, .bool false, .bool false, .bool false, .bool false, .bool false, .bool false, .bool false, .bool false, .bool false, .bool false, .bool false, .bool false, .bool false, .bool false, .bool false, .bool false, .bool false, .bool false, .bool false, .bool false, .bool false, .bool false, .bool false, .bool false, .bool false, .bool false, .bool false, .bool false, .bool false]) := ⟨by kernel_rfl, ⟨some (.bool false), by kernel_rfl⟩, by kernel_rfl, by decide⟩
theorem ts222 : TSpec Tryz.prog 222 (.arr 256 4 1 [.bool false, .bool false, .bool false, .bool false, .bool false, .bool false, .bool false, .bool false, .bool false, .bool false, .bool false, .bool false, .bool false, .bool false, .bool false, .bool false, .bool false, .bool false, .bool false, .bool false, .bool false, .bool false, .bool false, .bool false, .bool false, .bool false, .bool false, .bool false, .bool false, .bool false, .bool false, .bool false, .bool false, .bool false, .bool false, .bool false, .bool false, .bool false, .bool false, .bool false, .bool false, .bool false, .bool false, .bool false, .bool false, .bool false, .bool false, .bool false, .bool false, .bool false, .bool false, .bool false, .bool false, .bool false, .bool false, .bool false, .bool false, .bool false, .bool false, .bool false, .bool false, .bool false, .bool false, .bool false, .bool false, .bool false, .bool false, .bool false, .bool false, .bool false, .bool false, .bool false, .bool false, .bool false, .bool false, .bool false, .bool false, .bool false, .bool false, .bool false, .bool false, .bool false, .bool false, .bool false, .bool false, .bool false, .bool false, .bool false, .bool false, .bool false, .bool false, .bool false, .bool false, .bool false, .bool false, .bool false, .bool false, .bool false, .bool false, .bool false, .bool false, .bool false, .bool false, .bool false, .bool false, .bool false, .bool false, .bool false, .bool false, .bool false, .bool false, .bool false, .bool false, .bool false, .bool false, .bool false, .bool false, .bool false, .bool false, .bool false, .bool false, .bool false, .bool false, .bool false, .bool false, .bool false, .bool false, .bool false, .bool false, .bool false, .bool false, .bool false, .bool false, .bool false, .bool false, .bool false, .bool false, .bool false, .bool false, .bool false, .bool false, .bool false, .bool false, .bool false, .bool false, .bool false, .bool false, .bool false, .bool false, .bool false, .bool false, .bool false, .bool false, .bool false, .bool false, .bool false, .bool false, .bool false, .bool false, .bool false, .bool false, .bool false, .bool false, .bool false, .bool false, .bool false, .bool false, .bool false, .bool false, .bool false, .bool false, .bool false, .bool false, .bool false, .bool false, .bool false, .bool false, .bool false, .bool false, .bool false, .bool false, .bool false, .bool false, .bool false, .bool false, .bool false, .bool false, .bool false, .bool false, .bool false, .bool false, .bool false, .bool false, .bool false, .bool false, .bool false, .bool false, .bool false, .bool false, .bool false, .bool false, .bool false, .bool false, .bool false, .bool false, .bool false, .bool false, .bool false, .bool false, .bool false, .bool false, .bool false, .bool false, .bool false, .bool false, .bool false, .bool false, .bool false, .bool false, .bool false, .bool false, .bool false, .bool false, .bool false, .bool false, .bool false, .bool false, .bool false, .bool false, .bool false, .bool false, .bool false, .bool false, .bool false, .bool false, .bool false, .bool false, .bool false, .bool false, .bool false, .bool false, .bool false, .bool false, .bool false, .bool false, .bool false, .bool false, .bool false, .bool false, .bool false, .bool false, .bool false, .bool false, .bool false, .bool false, .bool false]) := ⟨by kernel_rfl, ⟨some (.bool false), by kernel_rfl⟩, by kernel_rfl, by decide⟩
theorem ts223 : TSpec Tryz.prog 223 (.tup 2) := trivial
theorem ts224 : TSpec Tryz.prog 224 (.fn) := ⟨(show oneOk Tryz.prog 224 = true by kernel_rfl), by kernel_rfl⟩
theorem ts225 : TSpec Tryz.prog 225 (.fn) := ⟨(show oneOk Tryz.prog 225 = true by kernel_rfl), by kernel_rfl⟩
theorem ts226 : TSpec Tryz.prog 226 (.ptr) := ⟨⟨222, by kernel_rfl⟩, by kernel_rfl⟩
theorem ts227 : TSpec Tryz.prog 227 (.fn) := ⟨(show oneOk Tryz.prog 227 = true by kernel_rfl), by kernel_rfl⟩
theorem ts228 : TSpec Tryz.prog 228 (.fn) := ⟨(show oneOk Tryz.prog 228 = true by kernel_rfl), by kernel_rfl⟩
theorem ts229 : TSpec Tryz.prog 229 (.fn) := ⟨(show oneOk Tryz.prog 229 = true by kernel_rfl), by kernel_rfl⟩
theorem ts230 : TSpec Tryz.prog 230 (.tup 2) := trivial
theorem ts231 : TSpec Tryz.prog 231 (.tup 2) := trivial
theorem ts232 : TSpec Tryz.prog 232 (.fn) := ⟨(show oneOk Tryz.prog 232 = true by kernel_rfl), by kernel_rfl⟩
theorem ts233 : TSpec Tryz.prog 233 (.fn) := ⟨(show oneOk Tryz.prog 233 = true by kernel_rfl), by kernel_rfl⟩
theorem ts234 : TSpec Tryz.prog 234 (.fn) := ⟨(show oneOk Tryz.prog 234 = true by kernel_rfl), by kernel_rfl⟩
theorem ts235 : TSpec Tryz.prog 235 (.fn) := ⟨(show oneOk Tryz.prog 235 = true by kernel_rfl), by kernel_rfl⟩
theorem ts236 : TSpec Tryz.prog 236 (.fn) := ⟨(show oneOk Tryz.prog 236 = true by kernel_rfl), by kernel_rfl⟩
theorem ts237 : TSpec Tryz.prog 237 (.fn) := ⟨(show oneOk Tryz.prog 237 = true by kernel_rfl), by kernel_rfl⟩
theorem ts238 : TSpec Tryz.prog 238 (.fn) := ⟨(show oneOk Tryz.prog 238 = true by kernel_rfl), by kernel_rfl⟩
theorem ts239 : TSpec Tryz.prog 239 (.tup 2) := trivial
theorem ts240 : TSpec Tryz.prog 240 (.fn) := ⟨(show oneOk Tryz.prog 240 = true by kernel_rfl), by kernel_rfl⟩
theorem ts241 : TSpec Tryz.prog 241 (.fn) := ⟨(show oneOk Tryz.prog 241 = true by kernel_rfl), by kernel_rfl⟩
theorem ts242 : TSpec Tryz.prog 242 (.fn) := ⟨(show oneOk Tryz.prog 242 = true by kernel_rfl), by kernel_rfl⟩
theorem ts243 : TSpec Tryz.prog 243 (.fn) := ⟨(show oneOk Tryz.prog 243 = true by kernel_rfl), by kernel_rfl⟩
theorem ts244 : TSpec Tryz.prog 244 (.fn) := ⟨(show oneOk Tryz.prog 244 = true by kernel_rfl), by kernel_rfl⟩
theorem ts245 : TSpec Tryz.prog 245 (.fn) := ⟨(show oneOk Tryz.prog 245 = true by kernel_rfl), by kernel_rfl⟩
theorem ts246 : TSpec Tryz.prog 246 (.fn) := ⟨(show oneOk Tryz.prog 246 = true by kernel_rfl), by kernel_rfl⟩
theorem ts247 : TSpec Tryz.prog 247 (.fn) := ⟨(show oneOk Tryz.prog 247 = true by kernel_rfl), by kernel_rfl⟩
theorem ts248 : TSpec Tryz.prog 248 (.fn) := ⟨(show oneOk Tryz.prog 248 = true by kernel_rfl), by kernel_rfl⟩
theorem ts249 : TSpec Tryz.prog 249 (.fn) := ⟨(show oneOk Tryz.prog 249 = true by kernel_rfl), by kernel_rfl⟩
theorem ts250 : TSpec Tryz.prog 250 (.fn) := ⟨(show oneOk Tryz.prog 250 = true by kernel_rfl), by kernel_rfl⟩
theorem ts251 : TSpec Tryz.prog 251 (.fn) := ⟨(show oneOk Tryz.prog 251 = true by kernel_rfl), by kernel_rfl⟩
theorem ts252 : TSpec Tryz.prog 252 (.fn) := ⟨(show oneOk Tryz.prog 252 = true by kernel_rfl), by kernel_rfl⟩
theorem ts253 : TSpec Tryz.prog 253 (.fn) := ⟨(show oneOk Tryz.prog 253 = true by kernel_rfl), by kernel_rfl⟩
theorem ts254 : TSpec Tryz.prog 254 (.arr 256 5 1 [.int .u8 0, .int .u8 0, .int .u8 0, .int .u8 0, .int .u8 0, .int .u8 0, .int .u8 0, .int .u8 0, .int .u8 0, .int .u8 0, .int .u8 0, .int .u8 0, .int .u8 0, .int .u8 0, .int .u8 0, .int .u8 0, .int .u8 0, .int .u8 0, .int .u8 0, .int .u8 0, .int .u8 0, .int .u8 0, .int .u8 0, .int .u8 0, .int .u8 0, .int .u8 0, .int .u8 0, .int .u8 0, .int .u8 0, .int .u8 0, .int .u8 0, .int .u8 0, .int .u8 0, .int .u8 0, .int .u8 0, .int .u8 0, .int .u8 0, .int .u8 0, .int .u8 0, .int .u8 0, .int .u8 0, .int .u8 0, .int .u8 0, .int .u8 0, .int .u8 0, .int .u8 0, .int .u8 0, .int .u8 0, .int .u8 0, .int .u8 0, .int .u8 0, .int .u8 0, .int .u8 0, .int .u8 0, .int .u8 0, .int .u8 0, .int .u8 0, .int .u8 0, .int .u8 0, .int .u8 0, .int .u8 0, .int .u8 0, .int .u8 0, .int .u8 0, .int .u8 0, .int .u8 0, .int .u8 0, .int .u8 0, .int .u8 0, .int .u8 0, .int .u8 0, .int .u8 0, .int .u8 0, .int .u8 0, .int .u8 0, .int .u8 0, .int .u8 0, .int .u8 0, .int .u8 0, .int .u8 0, .int .u8 0, .int .u8 0, .int .u8 0, .int .u8 0, .int .u8 0, .int .u8 0, .int .u8 0, .int .u8 0, .int .u8 0, .int .u8 0, .int .u8 0, .int .u8 0, .int .u8 0, .int .u8 0, .int .u8 0, .int .u8 0, .int .u8 0, .int .u8 0, .int .u8 0, .int .u8 0, .int .u8 0, .int .u8 0, .int .u8 0, .int .u8 0, .int .u8 0, .int .u8 0, .int .u8 0, .int .u8 0, .int .u8 0, .int .u8 0, .int .u8 0, .int .u8 0, .int .u8 0, .int .u8 0, .int .u8 0, .int .u8 0, .int .u8 0, .int .u8 0, .int .u8 0, .int .u8 0, .int .u8 0, .int .u8 0, .int .u8 0, .int .u8 0, .int .u8 0, .int .u8 0, .int .u8 0, .int .u8 0, .int .u8 0, .int .u8 0, .int .u8 0, .int .u8 0, .int .u8 0, .int .u8 0, .int .u8 0, .int .u8 0, .int .u8 0, .int .u8 0, .int .u8 0, .int .u8 0, .int .u8 0, .int .u8 0, .int .u8 0, .int .u8 0, .int .u8 0, .int .u8 0, .int .u8 0, .int .u8 0, .int .u8 0, .int .u8 0, .int .u8 0, .int .u8 0, .int .u8 0, .int .u8 0, .int .u8 0, .int .u8 0, .int .u8 0, .int .u8 0, .int .u8 0, .int .u8 0, .int .u8 0, .int .u8 0, .int .u8 0, .int .u8 0, .int .u8 0, .int .u8 0, .int .u8 0, .int .u8 0, .int .u8 0, .int .u8 0, .int .u8 0, .int .u8 0, .int .u8 0, .int .u8 0, .int .u8 0, .int .u8 0, .int .u8 0, .int .u8 0, .int .u8 0, .int .u8 0, .int .u8 0, .int .u8 0, .int .u8 0, .int .u8 0, .int .u8 0, .int .u8 0, .int .u8 0, .int .u8 0, .int .u8 0, .int .u8 0, .int .u8 0, .int .u8 0, .int .u8 0, .int .u8 0, .int .u8 0, .int .u8 0, .int .u8 0, .int .u8 0, .int .u8 0, .int .u8 0, .int .u8 0, .int .u8 0, .int .u8 0, .int .u8 0, .int .u8 0, .int .u8 0, .int .u8 0, .int .u8 0, .int .u8 0, .int .u8 0, .int .u8 0, .int .u8 0, .int .u8 0, .int .u8 0, .int .u8 0, .int .u8 0, .int .u8 0, .int .u8 0, .int .u8 0, .int .u8 0, .int .u8 0, .int .u8 0, .int .u8 0, .int .u8 0, .int .u8 0, .int .u8 0, .int .u8 0, .int .u8 0, .int .u8 0, .int .u8 0, .int .u8 0, .int .u8 0, .int .u8 0, .int .u8 0, .int .u8 0, .int .u8 0, .int .u8 0, .int .u8 0, .int .u8 0, .int .u8 0, .int .u8 0, .int .u8 0, .int .u8 0, .int .u8 0, .int .u8 0, .int .u8 0, .int .u8 0, .int .u8 0, .int .u8 0, .int .u8 0, .int .u8 0, .int .u8 0, .int .u8 0, .int .u8 0, .int .u8 0, .int .u8 0]) := ⟨by kernel_rfl, ⟨some (.int .u8 0), by kernel_rfl⟩, by kernel_rfl, by decide⟩
theorem ts255 : TSpec Tryz.prog 255 (.agg 2 [(0, 5), (1, 5)] [.int .u8 0, .int .u8 0]) := aggOf (by kernel_rfl) (by kernel_rfl)
theorem ts256 : TSpec Tryz.prog 256 (.agg 2 [(0, 5), (1, 5)] [.int .u8 0, .int .u8 0]) := aggOf (by kernel_rfl) (by kernel_rfl)
theorem ts257 : TSpec Tryz.prog 257 (.arr 16 256 2 [.int .u8 0, .int .u8 0, .int .u8 0, .int .u8 0, .int .u8 0, .int .u8 0, .int .u8 0, .int .u8 0, .int .u8 0, .int .u8 0, .int .u8 0, .int .u8 0, .int .u8 0, .int .u8 0, .int .u8 0, .int .u8 0, .int .u8 0, .int .u8 0, .int .u8 0, .int .u8 0, .int .u8 0, .int .u8 0, .int .u8 0, .int .u8 0, .int .u8 0, .int .u8 0, .int .u8 0, .int .u8 0, .int .u8 0, .int .u8 0, .int .u8 0, .int .u8 0]) := ⟨by kernel_rfl, ⟨some (.agg #[.int .u8 0, .int .u8 0]), by kernel_rfl⟩, by kernel_rfl, by decide⟩
theorem ts258 : TSpec Tryz.prog 258 (.fn) := ⟨(show oneOk Tryz.prog 258 = true by kernel_rfl), by kernel_rfl⟩
theorem ts259 : TSpec Tryz.prog 259 (.fn) := ⟨(show oneOk Tryz.prog 259 = true by kernel_rfl), by kernel_rfl⟩
theorem ts260 : TSpec Tryz.prog 260 (.fn) := ⟨(show oneOk Tryz.prog 260 = true by kernel_rfl), by kernel_rfl⟩
theorem ts261 : TSpec Tryz.prog 261 (.fn) := ⟨(show oneOk Tryz.prog 261 = true by kernel_rfl), by kernel_rfl⟩
theorem ts262 : TSpec Tryz.prog 262 (.fn) := ⟨(show oneOk Tryz.prog 262 = true by kernel_rfl), by kernel_rfl⟩
theorem ts263 : TSpec Tryz.prog 263 (.fn) := ⟨(show oneOk Tryz.prog 263 = true by kernel_rfl), by kernel_rfl⟩
theorem ts264 : TSpec Tryz.prog 264 (.agg 4 [(0, 17), (1, 17), (2, 17), (3, 9)] [.pointer none, .pointer none, .pointer none, .string ⟨#[]⟩]) := aggOf (by kernel_rfl) (by kernel_rfl)
theorem ts265 : TSpec Tryz.prog 265 (.agg 4 [(0, 17), (1, 17), (2, 17), (3, 9)] [.pointer none, .pointer none, .pointer none, .string ⟨#[]⟩]) := aggOf (by kernel_rfl) (by kernel_rfl)
theorem ts266 : TSpec Tryz.prog 266 (.arr 0 16 1 []) := ⟨by kernel_rfl, ⟨some (.pointer none), by kernel_rfl⟩, by kernel_rfl, by decide⟩
theorem ts269 : TSpec Tryz.prog 269 (.fn) := ⟨(show oneOk Tryz.prog 269 = true by kernel_rfl), by kernel_rfl⟩
theorem ts270 : TSpec Tryz.prog 270 (.int .u8) := ⟨by kernel_rfl, by kernel_rfl⟩
theorem ts271 : TSpec Tryz.prog 271 (.int .u8) := ⟨by kernel_rfl, by kernel_rfl⟩
theorem ts272 : TSpec Tryz.prog 272 (.fn) := ⟨(show oneOk Tryz.prog 272 = true by kernel_rfl), by kernel_rfl⟩
theorem ts273 : TSpec Tryz.prog 273 (.ptr) := ⟨⟨5, by kernel_rfl⟩, by kernel_rfl⟩
theorem ts274 : TSpec Tryz.prog 274 (.int .i32) := ⟨by kernel_rfl, by kernel_rfl⟩
theorem ts275 : TSpec Tryz.prog 275 (.int .i32) := ⟨by kernel_rfl, by kernel_rfl⟩
theorem ts276 : TSpec Tryz.prog 276 (.agg 11 [(0, 12), (1, 12), (2, 130), (3, 270), (4, 5), (5, 5), (6, 271), (7, 272), (8, 273), (9, 274), (10, 275)] [.int .u64 0, .int .u64 0, .int .u32 0, .int .u8 0, .int .u8 0, .int .u8 0, .int .u8 0, .nilFunc, .pointer none, .int .i32 0, .int .i32 0]) := aggOf (by kernel_rfl) (by kernel_rfl)
theorem ts277 : TSpec Tryz.prog 277 (.agg 11 [(0, 12), (1, 12), (2, 130), (3, 270), (4, 5), (5, 5), (6, 271), (7, 272), (8, 273), (9, 274), (10, 275)] [.int .u64 0, .int .u64 0, .int .u32 0, .int .u8 0, .int .u8 0, .int .u8 0, .int .u8 0, .nilFunc, .pointer none, .int .i32 0, .int .i32 0]) := aggOf (by kernel_rfl) (by kernel_rfl)
theorem ts278 : TSpec Tryz.prog 278 (.opaque1) := (show oneOk Tryz.prog 278 = true by kernel_rfl)
def tab : List (Option TK) := [some (.tup 0),
  some (.fn),
  some (.int .i64),
  some (.int .i64),
  some (.bool),
  some (.int .u8),
  some (.int .u8),
  some (.agg 4 [(0, 2), (1, 3), (2, 4), (3, 6)] [.int .i64 0, .int .i64 0, .bool false, .int .u8 0]),
  some (.agg 4 [(0, 2), (1, 3), (2, 4), (3, 6)] [.int .i64 0, .int .i64 0, .bool false, .int .u8 0]),
  some (.str),
  some (.str),
  some (.str),
  some (.int .u64),
  some (.agg 2 [(0, 9), (1, 12)] [.string ⟨#[]⟩, .int .u64 0]),
  some (.agg 2 [(0, 9), (1, 12)] [.string ⟨#[]⟩, .int .u64 0]),
  some (.ptr),
  some (.ptr),
  some (.ptr),
  some (.agg 1 [(0, 17)] [.pointer none]),
  some (.agg 1 [(0, 17)] [.pointer none]),
  some (.opaque1),
  some (.int .i32),
  some (.slice 3 1),
  some (.slice 22 1),
  some (.fn),
  some (.fn),
  some (.fn),
  some (.fn),
  some (.fn),
  some (.fn),
  some (.fn),
  some (.fn),
  some (.fn),
  some (.slice 40 1),
  some (.fn),
  some (.int .i64),
  some (.tup 2),
  some (.fn),
  some (.slice 74 12),
  some (.agg 1 [(0, 38)] [.slice none 0 0]),
  some (.agg 1 [(0, 38)] [.slice none 0 0]),
  some (.tup 2),
  some (.fn),
  some (.slice 45 4),
  some (.agg 4 [(0, 3), (1, 3), (2, 9), (3, 43)] [.int .i64 0, .int .i64 0, .string ⟨#[]⟩, .slice none 0 0]),
  some (.agg 4 [(0, 3), (1, 3), (2, 9), (3, 43)] [.int .i64 0, .int .i64 0, .string ⟨#[]⟩, .slice none 0 0]),
  some (.tup 2),
  some (.fn),
  some (.fn),
  some (.fn),
  some (.slice 130 1),
  some (.agg 2 [(0, 4), (1, 50)] [.bool false, .slice none 0 0]),
  some (.agg 2 [(0, 4), (1, 50)] [.bool false, .slice none 0 0]),
  some (.tup 2),
  some (.fn),
  some (.fn),
  some (.fn),
  some (.fn),
  some (.fn),
  some (.fn),
  some (.fn),
  some (.fn),
  some (.fn),
  some (.fn),
  some (.fn),
  some (.fn),
  some (.ptr),
  some (.fn),
  some (.slice 168 3),
  some (.agg 4 [(0, 40), (1, 67), (2, 3), (3, 68)] [.slice none 0 0, .nilFunc, .int .i64 0, .slice none 0 0]),
  some (.agg 4 [(0, 40), (1, 67), (2, 3), (3, 68)] [.slice none 0 0, .nilFunc, .int .i64 0, .slice none 0 0]),
  some (.fn),
  some (.slice 9 1),
  some (.agg 12 [(0, 3), (1, 9), (2, 3), (3, 3), (4, 22), (5, 72), (6, 43), (7, 22), (8, 45)] [.int .i64 0, .string ⟨#[]⟩, .int .i64 0, .int .i64 0, .slice none 0 0, .slice none 0 0, .slice none 0 0, .slice none 0 0, .int .i64 0, .int .i64 0, .string ⟨#[]⟩, .slice none 0 0]),
  some (.agg 12 [(0, 3), (1, 9), (2, 3), (3, 3), (4, 22), (5, 72), (6, 43), (7, 22), (8, 45)] [.int .i64 0, .string ⟨#[]⟩, .int .i64 0, .int .i64 0, .slice none 0 0, .slice none 0 0, .slice none 0 0, .slice none 0 0, .int .i64 0, .int .i64 0, .string ⟨#[]⟩, .slice none 0 0]),
  some (.agg 2 [(0, 3), (1, 35)] [.int .i64 0, .int .i64 0]),
  some (.agg 2 [(0, 3), (1, 35)] [.int .i64 0, .int .i64 0]),
  some (.tup 2),
  some (.fn),
  some (.fn),
  some (.tup 3),
  some (.fn),
  some (.fn),
  some (.fn),
  some (.fn),
  some (.fn),
  some (.fn),
  some (.int .u64),
  some (.agg 7 [(0, 45), (4, 3), (5, 3), (6, 68)] [.int .i64 0, .int .i64 0, .string ⟨#[]⟩, .slice none 0 0, .int .i64 0, .int .i64 0, .slice none 0 0]),
  some (.agg 7 [(0, 45), (4, 3), (5, 3), (6, 68)] [.int .i64 0, .int .i64 0, .string ⟨#[]⟩, .slice none 0 0, .int .i64 0, .int .i64 0, .slice none 0 0]),
  some (.fn),
  some (.fn),
  some (.fn),
  some (.fn),
  some (.slice 100 5),
  some (.fn),
  some (.fn),
  some (.fn),
  some (.fn),
  some (.agg 5 [(0, 3), (1, 3), (2, 43), (3, 4), (4, 4)] [.int .i64 0, .int .i64 0, .slice none 0 0, .bool false, .bool false]),
  some (.agg 5 [(0, 3), (1, 3), (2, 43), (3, 4), (4, 4)] [.int .i64 0, .int .i64 0, .slice none 0 0, .bool false, .bool false]),
  some (.ptr),
  some (.fn),
  some (.fn),
  some (.fn),
  some (.tup 2),
  some (.fn),
  some (.fn),
  some (.opaque1),
  some (.fn),
  some (.fn),
  some (.fn),
  some (.ptr),
  some (.fn),
  some (.slice 52 2),
  some (.slice 52 2),
  some (.tup 2),
  some (.fn),
  some (.fn),
  some (.fn),
  some (.agg 2 [(0, 115), (1, 119)] [.slice none 0 0, .nilFunc]),
  some (.agg 2 [(0, 115), (1, 119)] [.slice none 0 0, .nilFunc]),
  some (.fn),
  some (.fn),
  some (.fn),
  some (.fn),
  some (.fn),
  some (.agg 1 [(0, 126)] [.nilFunc]),
  some (.agg 1 [(0, 126)] [.nilFunc]),
  some (.fn),
  some (.int .u32),
  some (.fn),
  some (.int .i64),
  some (.tup 2),
  some (.fn),
  some (.fn),
  some (.fn),
  some (.tup 2),
  some (.fn),
  some (.fn),
  some (.fn),
  some (.int .u64),
  some (.fn),
  some (.fn),
  some (.fn),
  some (.fn),
  some (.fn),
  some (.fn),
  some (.fn),
  some (.tup 2),
  some (.fn),
  some (.fn),
  some (.arr 6 4 1 [.bool false, .bool false, .bool false, .bool false, .bool false, .bool false]),
  some (.arr 5 152 6 [.bool false, .bool false, .bool false, .bool false, .bool false, .bool false, .bool false, .bool false, .bool false, .bool false, .bool false, .bool false, .bool false, .bool false, .bool false, .bool false, .bool false, .bool false, .bool false, .bool false, .bool false, .bool false, .bool false, .bool false, .bool false, .bool false, .bool false, .bool false, .bool false, .bool false]),
  some (.fn),
  some (.fn),
  some (.fn),
  some (.slice 158 8),
  some (.arr 2 45 4 [.int .i64 0, .int .i64 0, .string ⟨#[]⟩, .slice none 0 0, .int .i64 0, .int .i64 0, .string ⟨#[]⟩, .slice none 0 0]),
  some (.fn),
  some (.fn),
  some (.fn),
  some (.fn),
  some (.fn),
  some (.fn),
  some (.fn),
  some (.slice 43 1),
  some (.fn),
  some (.arr 3 3 1 [.int .i64 0, .int .i64 0, .int .i64 0]),
  some (.fn),
  some (.fn),
  some (.fn),
  some (.fn),
  some (.opaque1),
  some (.opaque1),
  some (.agg 4 [(0, 40), (1, 4), (2, 173), (3, 174)] [.slice none 0 0, .bool false, .map none, .map none]),
  some (.agg 4 [(0, 40), (1, 4), (2, 173), (3, 174)] [.slice none 0 0, .bool false, .map none, .map none]),
  some (.fn),
  some (.fn),
  some (.fn),
  some (.fn),
  some (.fn),
  some (.fn),
  some (.fn),
  some (.fn),
  some (.fn),
  some (.int .u64),
  some (.fn),
  some (.fn),
  some (.fn),
  some (.ptr),
  some (.fn),
  some (.fn),
  some (.fn),
  some (.fn),
  some (.slice 198 2),
  some (.fn),
  some (.agg 2 [(0, 43), (1, 4)] [.slice none 0 0, .bool false]),
  some (.agg 2 [(0, 43), (1, 4)] [.slice none 0 0, .bool false]),
  some (.fn),
  some (.fn),
  some (.fn),
  some (.fn),
  some (.fn),
  some (.fn),
  some (.fn),
  some (.fn),
  some (.fn),
  some (.slice 211 5),
  some (.fn),
  some (.agg 5 [(0, 45), (4, 115)] [.int .i64 0, .int .i64 0, .string ⟨#[]⟩, .slice none 0 0, .slice none 0 0]),
  some (.agg 5 [(0, 45), (4, 115)] [.int .i64 0, .int .i64 0, .string ⟨#[]⟩, .slice none 0 0, .slice none 0 0]),
  some (.fn),
  some (.fn),
  some (.fn),
  some (.fn),
  some (.ptr),
  some (.tup 2),
  some (.fn),
  some (.fn),
  some (.fn),
  some (.arr 256 4 1 [.bool false, .bool false, .bool false, .bool false, .bool false, .bool false, .bool false, .bool false, .bool false, .bool false, .bool false, .bool false, .bool false, .bool false, .bool false, .bool false, .bool false, .bool false, .bool false, .bool false, .bool false, .bool false, .bool false, .bool false, .bool false, .bool false, .bool false, .bool false, .bool false, .bool false, .bool false, .bool false, .bool false, .bool false, .bool false, .bool false, .bool false, .bool false, .bool false, .bool false, .bool false, .bool false, .bool false, .bool false, .bool false, .bool false, .bool false, .bool false, .bool false, .bool false, .bool false, .bool false, .bool false, .bool false, .bool false, .bool false, .bool false, .bool false, .bool false, .bool false, .bool false, .bool false, .bool false, .bool false, .bool false, .bool false, .bool false, .bool false, .bool false, .bool false, .bool false, .bool false, .bool false, .bool false, .bool false, .bool false, .bool false, .bool false, .bool false, .bool false, .bool false, .bool false, .bool false, .bool false, .bool false, .bool false, .bool false, .bool false, .bool false, .bool false, .bool false, .bool false, .bool false, .bool false, .bool false, .bool false, .bool false, .bool false, .bool false, .bool false, .bool false, .bool false, .bool false, .bool false, .bool false, .bool false, .bool false, .bool false, .bool false, .bool false, .bool false, .bool false, .bool false, .bool false, .bool false, .bool false, .bool false, .bool false, .bool false, .bool false, .bool false, .bool false, .bool false, .bool false, .bool false, .bool false, .bool false, .bool false, .bool false, .bool false, .bool false, .bool false, .bool false, .bool false, .bool false, .bool false, .bool false, .bool false, .bool false, .bool false, .bool false, .bool false, .bool false, .bool false, .bool false, .bool false, .bool false, .bool false, .bool false, .bool false, .bool false, .bool false, .bool false, .bool false, .bool false, .bool false, .bool false, .bool false, .bool false, .bool false, .bool false, .bool false, .bool false, .bool false, .bool false, .bool false, .bool false, .bool false, .bool false, .bool false, .bool false, .bool false, .bool false, .bool false, .bool false, .bool false, .bool false, .bool false, .bool false, .bool false, .bool false, .bool false, .bool false, .bool false, .bool false, .bool false, .bool false, .bool false, .bool false, .bool false, .bool false, .bool false, .bool false, .bool false, .bool false, .bool false, .bool false, .bool false, .bool false, .bool false, .bool false, .bool false, .bool false, .bool false, .bool false, .bool false, .bool false, .bool false, .bool false, .bool false, .bool false, .bool false, .bool false, .bool false, .bool false, .bool false, .bool false, .bool false, .bool false, .bool false, .bool false, .bool false, .bool false, .bool false, .bool false, .bool false, .bool false, .bool false, .bool false, .bool false, .bool false, .bool false, .bool false, .bool false, .bool false, .bool false, .bool false, .bool false, .bool false, .bool false, .bool false, .bool false, .bool false, .bool false, .bool false, .bool false, .bool false, .bool false, .bool false, .bool false, .bool false, .bool false, .bool false, .bool false, .bool false, .bool false]),
  some (.arr 256 4 1 [.bool false, .bool false, .bool false, .bool false, .bool false, .bool false, .bool false, .bool false, .bool false, .bool false, .bool false, .bool false, .bool false, .bool false, .bool false, .bool false, .bool false, .bool false, .bool false, .bool false, .bool false, .bool false, .bool false, .bool false, .bool false, .bool false, .bool false, .bool false, .bool false, .bool false, .bool false, .bool false, .bool false, .bool false, .bool false, .bool false, .bool false, .bool false, .bool false, .bool false, .bool false, .bool false, .bool false, .bool false, .bool false, .bool false, .bool false, .bool false, .bool false, .bool false, .bool false, .bool false, .bool false, .bool false, .bool false, .bool false, .bool false, .bool false, .bool false, .bool false, .bool false, .bool false, .bool false, .bool false, .bool false, .bool false, .bool false, .bool false, .bool false, .bool false, .bool false, .bool false, .bool false, .bool false, .bool false, .bool false, .bool false, .bool false, .bool false, .bool false, .bool false, .bool false, .bool false, .bool false, .bool false, .bool false, .bool false, .bool false, .bool false, .bool false, .bool false, .bool false, .bool false, .bool false, .bool false, .bool false, .bool false, .bool false, .bool false, .bool false, .bool false, .bool false, .bool false, .bool false, .bool false, .bool false, .bool false, .bool false, .bool false, .bool false, .bool false, .bool false, .bool false, .bool false, .bool false, .bool false, .bool false, .bool false, .bool false, .bool false, .bool false, .bool false, .bool false, .bool false, .bool false, .bool false, .bool false, .bool false, .bool false, .bool false, .bool false, .bool false, .bool false, .bool false, .bool false, .bool false, .bool false, .bool false, .bool false, .bool false, .bool false, .bool false, .bool false, .bool false, .bool false, .bool false, .bool false, .bool false, .bool false, .bool false, .bool false, .bool false, .bool false, .bool false, .bool false, .bool false, .bool false, .bool false, .bool false, .bool false, .bool false, .bool false, .bool false, .bool false, .bool false, .bool false, .bool false, .bool false, .bool false, .bool false, .bool false, .bool false, .bool false, .bool false, .bool false, .bool false, .bool false, .bool false, .bool false, .bool false, .bool false, .bool false, .bool false, .bool false, .bool false, .bool false, .bool false, .bool false, .bool false, .bool false, .bool false, .bool false, .bool false, .bool false, .bool false, .bool false, .bool false, .bool false, .bool false, .bool false, .bool false, .bool false, .bool false, .bool false, .bool false, .bool false, .bool false, .bool false, .bool false, .bool false, .bool false, .bool false, .bool false, .bool false, .bool false, .bool false, .bool false, .bool false, .bool false, .bool false, .bool false, .bool false, .bool false, .bool false, .bool false, .bool false, .bool false, .bool false, .bool false, .bool false, .bool false, .bool false, .bool false, .bool false, .bool false, .bool false, .bool false, .bool false, .bool false, .bool false, .bool false, .bool false, .bool false, .bool false, .bool false, .bool false, .bool false, .bool false, .bool false, .bool false, .bool false, .bool false, .bool false, .bool false, .bool false, .bool false]),
  some (.tup 2),
  some (.fn),
  some (.fn),
  some (.ptr),
  some (.fn),
  some (.fn),
  some (.fn),
  some (.tup 2),
  some (.tup 2),
  some (.fn),
  some (.fn),
  some (.fn),
  some (.fn),
  some (.fn),
  some (.fn),
  some (.fn),
  some (.tup 2),
  some (.fn),
  some (.fn),
  some (.fn),
  some (.fn),
  some (.fn),
  some (.fn),
  some (.fn),
  some (.fn),
  some (.fn),
  some (.fn),
  some (.fn),
  some (.fn),
  some (.fn),
  some (.fn),
  some (.arr 256 5 1 [.int .u8 0, .int .u8 0, .int .u8 0, .int .u8 0, .int .u8 0, .int .u8 0, .int .u8 0, .int .u8 0, .int .u8 0, .int .u8 0, .int .u8 0, .int .u8 0, .int .u8 0, .int .u8 0, .int .u8 0, .int .u8 0, .int .u8 0, .int .u8 0, .int .u8 0, .int .u8 0, .int .u8 0, .int .u8 0, .int .u8 0, .int .u8 0, .int .u8 0, .int .u8 0, .int .u8 0, .int .u8 0, .int .u8 0, .int .u8 0, .int .u8 0, .int .u8 0, .int .u8 0, .int .u8 0, .int .u8 0, .int .u8 0, .int .u8 0, .int .u8 0, .int .u8 0, .int .u8 0, .int .u8 0, .int .u8 0, .int .u8 0, .int .u8 0, .int .u8 0, .int .u8 0, .int .u8 0, .int .u8 0, .int .u8 0, .int .u8 0, .int .u8 0, .int .u8 0, .int .u8 0, .int .u8 0, .int .u8 0, .int .u8 0, .int .u8 0, .int .u8 0, .int .u8 0, .int .u8 0, .int .u8 0, .int .u8 0, .int .u8 0, .int .u8 0, .int .u8 0, .int .u8 0, .int .u8 0, .int .u8 0, .int .u8 0, .int .u8 0, .int .u8 0, .int .u8 0, .int .u8 0, .int .u8 0, .int .u8 0, .int .u8 0, .int .u8 0, .int .u8 0, .int .u8 0, .int .u8 0, .int .u8 0, .int .u8 0, .int .u8 0, .int .u8 0, .int .u8 0, .int .u8 0, .int .u8 0, .int .u8 0, .int .u8 0, .int .u8 0, .int .u8 0, .int .u8 0, .int .u8 0, .int .u8 0, .int .u8 0, .int .u8 0, .int .u8 0, .int .u8 0, .int .u8 0, .int .u8 0, .int .u8 0, .int .u8 0, .int .u8 0, .int .u8 0, .int .u8 0, .int .u8 0, .int .u8 0, .int .u8 0, .int .u8 0, .int .u8 0, .int .u8 0, .int .u8 0, .int .u8 0, .int .u8 0, .int .u8 0, .int .u8 0, .int .u8 0, .int .u8 0, .int .u8 0, .int .u8 0, .int .u8 0, .int .u8 0, .int .u8 0, .int .u8 0, .int .u8 0, .int .u8 0, .int .u8 0, .int .u8 0, .int .u8 0, .int .u8 0, .int .u8 0, .int .u8 0, .int .u8 0, .int .u8 0, .int .u8 0, .int .u8 0, .int .u8 0, .int .u8 0, .int .u8 0, .int .u8 0, .int .u8 0, .int .u8 0, .int .u8 0, .int .u8 0, .int .u8 0, .int .u8 0, .int .u8 0, .int .u8 0, .int .u8 0, .int .u8 0, .int .u8 0, .int .u8 0, .int .u8 0, .int .u8 0, .int .u8 0, .int .u8 0, .int .u8 0, .int .u8 0, .int .u8 0, .int .u8 0, .int .u8 0, .int .u8 0, .int .u8 0, .int .u8 0, .int .u8 0, .int .u8 0, .int .u8 0, .int .u8 0, .int .u8 0, .int .u8 0, .int .u8 0, .int .u8 0, .int .u8 0, .int .u8 0, .int .u8 0, .int .u8 0, .int .u8 0, .int .u8 0, .int .u8 0, .int .u8 0, .int .u8 0, .int .u8 0, .int .u8 0, .int .u8 0, .int .u8 0, .int .u8 0, .int .u8 0, .int .u8 0, .int .u8 0, .int .u8 0, .int .u8 0, .int .u8 0, .int .u8 0, .int .u8 0, .int .u8 0, .int .u8 0, .int .u8 0, .int .u8 0, .int .u8 0, .int .u8 0, .int .u8 0, .int .u8 0, .int .u8 0, .int .u8 0, .int .u8 0, .int .u8 0, .int .u8 0, .int .u8 0, .int .u8 0, .int .u8 0, .int .u8 0, .int .u8 0, .int .u8 0, .int .u8 0, .int .u8 0, .int .u8 0, .int .u8 0, .int .u8 0, .int .u8 0, .int .u8 0, .int .u8 0, .int .u8 0, .int .u8 0, .int .u8 0, .int .u8 0, .int .u8 0, .int .u8 0, .int .u8 0, .int .u8 0, .int .u8 0, .int .u8 0, .int .u8 0, .int .u8 0, .int .u8 0, .int .u8 0, .int .u8 0, .int .u8 0, .int .u8 0, .int .u8 0, .int .u8 0, .int .u8 0, .int .u8 0, .int .u8 0, .int .u8 0, .int .u8 0, .int .u8 0, .int .u8 0, .int .u8 0, .int .u8 0, .int .u8 0, .int .u8 0, .int .u8 0, .int .u8 0, .int .u8 0, .int .u8 0, .int .u8 0]),
  some (.agg 2 [(0, 5), (1, 5)] [.int .u8 0, .int .u8 0]),
  some (.agg 2 [(0, 5), (1, 5)] [.int .u8 0, .int .u8 0]),
  some (.arr 16 256 2 [.int .u8 0, .int .u8 0, .int .u8 0, .int .u8 0, .int .u8 0, .int .u8 0, .int .u8 0, .int .u8 0, .int .u8 0, .int .u8 0, .int .u8 0, .int .u8 0, .int .u8 0, .int .u8 0, .int .u8 0, .int .u8 0, .int .u8 0, .int .u8 0, .int .u8 0, .int .u8 0, .int .u8 0, .int .u8 0, .int .u8 0, .int .u8 0, .int .u8 0, .int .u8 0, .int .u8 0, .int .u8 0, .int .u8 0, .int .u8 0, .int .u8 0, .int .u8 0]),
  some (.fn),
  some (.fn),
  some (.fn),
  some (.fn),
  some (.fn),
  some (.fn),
  some (.agg 4 [(0, 17), (1, 17), (2, 17), (3, 9)] [.pointer none, .pointer none, .pointer none, .string ⟨#[]⟩]),
  some (.agg 4 [(0, 17), (1, 17), (2, 17), (3, 9)] [.pointer none, .pointer none, .pointer none, .string ⟨#[]⟩]),
  some (.arr 0 16 1 []),
  none,
  none,
  some (.fn),
  some (.int .u8),
  some (.int .u8),
  some (.fn),
  some (.ptr),
  some (.int .i32),
  some (.int .i32),
  some (.agg 11 [(0, 12), (1, 12), (2, 130), (3, 270), (4, 5), (5, 5), (6, 271), (7, 272), (8, 273), (9, 274), (10, 275)] [.int .u64 0, .int .u64 0, .int .u32 0, .int .u8 0, .int .u8 0, .int .u8 0, .int .u8 0, .nilFunc, .pointer none, .int .i32 0, .int .i32 0]),
  some (.agg 11 [(0, 12), (1, 12), (2, 130), (3, 270), (4, 5), (5, 5), (6, 271), (7, 272), (8, 273), (9, 274), (10, 275)] [.int .u64 0, .int .u64 0, .int .u32 0, .int .u8 0, .int .u8 0, .int .u8 0, .int .u8 0, .nilFunc, .pointer none, .int .i32 0, .int .i32 0]),
  some (.opaque1)]
def T (t : Nat) : Option TK := tab.getD t none
def AllSpec (P : Program) : Nat → List (Option TK) → Prop
  | _, [] => True
  | i, none :: r => AllSpec P (i + 1) r
  | i, some k :: r => TSpec P i k ∧ AllSpec P (i + 1) r
theorem allSpec_get {P : Program} : ∀ (l : List (Option TK)) (i t : Nat) (k : TK), AllSpec P i l → l.getD t none = some k → TSpec P (i + t) k
  | [], _, _, _, _, h => by simp at h
  | none :: r, i, 0, k, _, h => by simp at h
  | some k' :: r, i, 0, k, ha, h => by simp at h; subst h; exact ha.1
  | none :: r, i, t + 1, k, ha, h => by have := allSpec_get r (i + 1) t k ha (by simpa using h); rwa [Nat.add_assoc, Nat.add_comm 1 t] at this
  | some k' :: r, i, t + 1, k, ha, h => by have := allSpec_get r (i + 1) t k ha.2 (by simpa using h); rwa [Nat.add_assoc, Nat.add_comm 1 t] at this
theorem allSpec : AllSpec Tryz.prog 0 tab := ⟨ts0, ts1, ts2, ts3, ts4, ts5, ts6, ts7, ts8, ts9, ts10, ts11, ts12, ts13, ts14, ts15, ts16, ts17, ts18, ts19, ts20, ts21, ts22, ts23, ts24, ts25, ts26, ts27, ts28, ts29, ts30, ts31, ts32, ts33, ts34, ts35, ts36, ts37, ts38, ts39, ts40, ts41, ts42, ts43, ts44, ts45, ts46, ts47, ts48, ts49, ts50, ts51, ts52, ts53, ts54, ts55, ts56, ts57, ts58, ts59, ts60, ts61, ts62, ts63, ts64, ts65, ts66, ts67, ts68, ts69, ts70, ts71, ts72, ts73, ts74, ts75, ts76, ts77, ts78, ts79, ts80, ts81, ts82, ts83, ts84, ts85, ts86, ts87, ts88, ts89, ts90, ts91, ts92, ts93, ts94, ts95, ts96, ts97, ts98, ts99, ts100, ts101, ts102, ts103, ts104, ts105, ts106, ts107, ts108, ts109, ts110, ts111, ts112, ts113, ts114, ts115, ts116, ts117, ts118, ts119, ts120, ts121, ts122, ts123, ts124, ts125, ts126, ts127, ts128, ts129, ts130, ts131, ts132, ts133, ts134, ts135, ts136, ts137, ts138, ts139, ts140, ts141, ts142, ts143, ts144, ts145, ts146, ts147, ts148, ts149, ts150, ts151, ts152, ts153, ts154, ts155, ts156, ts157, ts158, ts159, ts160, ts161, ts162, ts163, ts164, ts165, ts166, ts167, ts168, ts169, ts170, ts171, ts172, ts173, ts174, ts175, ts176, ts177, ts178, ts179, ts180, ts181, ts182, ts183, ts184, ts185, ts186, ts187, ts188, ts189, ts190, ts191, ts192, ts193, ts194, ts195, ts196, ts197, ts198, ts199, ts200, ts201, ts202, ts203, ts204, ts205, ts206, ts207, ts208, ts209, ts210, ts211, ts212, ts213, ts214, ts215, ts216, ts217, ts218, ts219, ts220, ts221, ts222, ts223, ts224, ts225, ts226, ts227, ts228, ts229, ts230, ts231, ts232, ts233, ts234, ts235, ts236, ts237, ts238, ts239, ts240, ts241, ts242, ts243, ts244, ts245, ts246, ts247, ts248, ts249, ts250, ts251, ts252, ts253, ts254, ts255, ts256, ts257, ts258, ts259, ts260, ts261, ts262, ts263, ts264, ts265, ts266, ts269, ts270, ts271, ts272, ts273, ts274, ts275, ts276, ts277, ts278, trivial⟩
theorem hT : TOk Tryz.prog T := fun t k h => by
  have := allSpec_get tab 0 t k allSpec h
  rwa [Nat.zero_add] at this
def funs : List Nat := [2, 3, 4, 5, 6, 7, 8, 9, 10, 11, 12, 13, 14, 15, 16, 17, 18, 19, 20, 21, 22, 23, 24, 25, 26, 27, 28, 29, 30, 31, 32, 33, 34, 35, 36, 37, 38, 39, 40, 41, 42, 43, 44, 45, 46, 47, 48, 49, 50, 51, 52, 53, 54, 55, 56, 57, 58, 59, 60, 61, 62, 63, 64, 65, 66, 67, 68, 69, 70, 71, 72, 73, 74, 75, 76, 77, 78, 79, 80, 81, 82, 83, 84, 85, 86, 87, 88, 89, 90, 91, 92, 93, 94, 95, 96, 97, 98, 99, 100, 101, 102, 103, 104, 105, 106, 107, 108, 109, 110, 111, 112, 113, 114, 115, 116, 117, 118, 119, 120, 121, 122, 123, 124, 125, 126, 127, 128, 129, 130, 131, 132, 133, 134, 135, 136, 137, 138, 139, 140, 141, 142, 143, 144, 145, 146, 147, 148, 149, 150, 151, 152, 153, 154, 155, 156, 157, 158, 159, 160, 161, 162, 163, 164, 165, 166, 167, 168, 169, 170, 171, 172, 173, 174, 175, 176, 177, 178, 179, 180, 181, 182, 183, 184, 185, 186, 187, 188, 189, 190, 191, 192, 193, 194, 195, 196, 197, 198, 199, 200, 201, 202, 203, 204, 205, 206, 207, 208, 209, 210, 211, 212, 213, 214, 215, 216, 217, 218, 219, 220, 221, 222, 224, 225, 226, 227, 228, 229, 230, 231, 232, 233, 234, 235, 236, 237, 238, 239, 240, 241, 242, 243, 244, 245, 247, 248, 249, 250, 251, 253, 276]
def B (g : Nat) : Bool := funs.any (Nat.beq g)
def bodyB (P : Program) (g : Nat) : Bool := match P.funcs[g]? with | some fn => !fn.body.isNone && !(fn.name == "runtime.NumGoroutine") | none => false
theorem funsOk : (funs.all (bodyB Tryz.prog)) = true := by kernel_rfl
theorem hB : BOk Tryz.prog B := fun g h => by
  obtain ⟨g', hm, hg⟩ := List.any_eq_true.1 h
  obtain rfl := Nat.eq_of_beq_eq_true hg
  have := List.all_eq_true.1 funsOk g hm
  unfold bodyB at this
  split at this
  · rename_i fn hf
    simp only [Bool.and_eq_true, Bool.not_eq_true'] at this
    exact ⟨fn, hf, this.1, this.2⟩
  · cases this
theorem hD : DOk Tryz.prog (drawP Tryz.prog T B) := drawP_ok hT hB (by kernel_rfl)
end Go.Proofs.YtilacabmbjephaaGreatDoor
