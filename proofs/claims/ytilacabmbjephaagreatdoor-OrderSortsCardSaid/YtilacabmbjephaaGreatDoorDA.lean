/- The results of passes (package order): what they are; maps; the loop's body. -/
import Derived.Test.YtilacabmbjephaaGreatDoorCZ
import Derived.Test.YtilacabmbjephaaGreatDoorCU
import Derived.Test.YtilacabmbjephaaGreatDoorMG
import Derived.RangeFuncRecord
namespace Go.Proofs.YtilacabmbjephaaGreatDoor
open Go Go.GX
set_option linter.unusedVariables false
set_option linter.unusedSimpArgs false

/-! ## What the passes are -/
def nameOf : Nat → ByteArray
  | 0 => ⟨#[100, 101, 108, 101, 116, 101, 115]⟩
  | 1 => ⟨#[108, 111, 119, 101, 114, 115]⟩
  | 2 => ⟨#[115, 119, 97, 112, 115]⟩
  | _ => ⟨#[115, 104, 97, 114, 101, 115]⟩
def rawsOf (p : List Int) (sp : List Span) : Nat → List (List Int)
  | 0 => deletesP p sp
  | 1 => lowersP p
  | 2 => swapsP p sp
  | _ => sharesP p
/-- The path that numbers lead to, if it is a smaller one. -/
def fitR (t : List Nod) (e : Int) (p : List Int) (f : Nat) (raw : List Int) : List (List Int) := match fitP t e raw f with
  | some (q, e') => if e' = 0 ∧ pathCmp q p < 0 then [q] else []
  | none => []
def outsOf (t : List Nod) (e : Int) (p : List Int) (sp : List Span) (f : Nat) (ids : List Nat) : List (List Int) := ids.flatMap fun id => (rawsOf p sp id).flatMap (fitR t e p f)

/-! ## Maps -/
theorem map_new (w : World) : (Instr.makeMap 108 none).run Tryz.prog w = .ok (.map (some w.heap.size)) (w.alloc (.map #[] 0)) := rfl
theorem und108 : Tryz.prog.underlying 108 = some (.map 9 111) := by kernel_rfl
theorem und9 : Tryz.prog.underlying 9 = some .string := by kernel_rfl
theorem checkKeyG (n : Nat) (k : ByteArray) (b : Bool) (w : World) : (Instr.checkKey b (n + 1) 9 (.string k)).run Tryz.prog w = .ok () w := by
  simp only [Instr.checkKey, Sem.run_bind, run_under und9, Result.andThen_ok, Sem.run_pure]
theorem checkKeyS (k : ByteArray) (b : Bool) (w : World) : (Instr.checkKey b 10000 9 (.string k)).run Tryz.prog w = .ok () w := checkKeyG 9999 k b w
theorem run_getObj_map {w : World} {r : Nat} {es : Array MapEntry} {c : Nat} (h : w.heap[r]? = some (.map es c)) : (getObj r).run Tryz.prog w = .ok (.map es c) w := by simp [getObj, Sem.run, h]
theorem map_put {w : World} {r : Nat} {es : Array MapEntry} {c : Nat} (h : w.heap[r]? = some (.map es c)) (k : ByteArray) (v : Value) (hf : Instr.findNow .string (.string k) es.toList 0 = some none) :
    (Instr.mapUpdate 108 (.map (some r)) (.string k) v).run Tryz.prog w = .ok () (w.putObj r (.map (es.push { key := .string k, val := v, born := c }) (c + 1))) := by
  have hs : ∀ o, (setObj r o).run Tryz.prog w = .ok () (w.putObj r o) := fun o => by simp [setObj, Sem.run, h, World.putObj]
  simp only [Instr.mapUpdate, Sem.run_bind, run_under und108, Result.andThen_ok, run_getObj_map h, checkKeyS, Instr.findKey, run_under und9, hf, Sem.run_pure, hs]
theorem map_get {w : World} {r : Nat} {es : Array MapEntry} {c : Nat} (h : w.heap[r]? = some (.map es c)) (k : ByteArray) (i : Nat) (v : Value) (hf : Instr.findNow .string (.string k) es.toList 0 = some (some (i, v))) :
    (Instr.lookup 108 (.map (some r)) (.string k) false).run Tryz.prog w = .ok v w := by
  simp only [Instr.lookup, Sem.run_bind, run_under und108, Result.andThen_ok, run_getObj_map h, checkKeyS, Instr.findKey, run_under und9, hf, Sem.run_pure, Bool.false_eq_true, if_false]
def passMap : Array MapEntry := #[⟨.string (nameOf 0), .func (.func 75) #[] #[], 0⟩, ⟨.string (nameOf 1), .func (.func 76) #[] #[], 1⟩, ⟨.string (nameOf 2), .func (.func 77) #[] #[], 2⟩, ⟨.string (nameOf 3), .func (.func 78) #[] #[], 3⟩]
theorem pm0 : Instr.findNow .string (.string (nameOf 0)) passMap.toList 0 = some (some (0, .func (.func 75) #[] #[])) := by kernel_rfl
theorem pm1 : Instr.findNow .string (.string (nameOf 1)) passMap.toList 0 = some (some (1, .func (.func 76) #[] #[])) := by kernel_rfl
theorem pm2 : Instr.findNow .string (.string (nameOf 2)) passMap.toList 0 = some (some (2, .func (.func 77) #[] #[])) := by kernel_rfl
theorem pm3 : Instr.findNow .string (.string (nameOf 3)) passMap.toList 0 = some (some (3, .func (.func 78) #[] #[])) := by kernel_rfl
theorem passMap_get (id : Nat) (h : id < 4) : Instr.findNow .string (.string (nameOf id)) passMap.toList 0 = some (some (id, .func (.func (75 + id)) #[] #[])) := by
  match id, h with
  | 0, _ => exact pm0
  | 1, _ => exact pm1
  | 2, _ => exact pm2
  | 3, _ => exact pm3
theorem putObj_ext (w : World) (r : Nat) (o : Obj) : Ext (fun k => k = r) w (w.putObj r o) := ⟨rfl, rfl, rfl, by simp, fun k _ hk => World.putObj_heap_other hk⟩
/-- The passes' map is made. -/
theorem map_made (w : World) {k : Value → World → Prop} (hk : ∀ w', Ext No w w' → w'.heap[w.heap.size]? = some (.map passMap 4) → w'.heap.size = w.heap.size + 1 → k (.map (some w.heap.size)) w') :
    RunV Tryz.prog (Instr.makeMap 108 none) w fun r13 wv14 =>
    RunU Tryz.prog (Instr.mapUpdate 108 r13 (.string (⟨#[100, 101, 108, 101, 116, 101, 115]⟩) : Value) (.func (.func 75) #[] #[] : Value)) wv14 fun wv15 =>
    RunU Tryz.prog (Instr.mapUpdate 108 r13 (.string (⟨#[108, 111, 119, 101, 114, 115]⟩) : Value) (.func (.func 76) #[] #[] : Value)) wv15 fun wv16 =>
    RunU Tryz.prog (Instr.mapUpdate 108 r13 (.string (⟨#[115, 119, 97, 112, 115]⟩) : Value) (.func (.func 77) #[] #[] : Value)) wv16 fun wv17 =>
    RunU Tryz.prog (Instr.mapUpdate 108 r13 (.string (⟨#[115, 104, 97, 114, 101, 115]⟩) : Value) (.func (.func 78) #[] #[] : Value)) wv17 fun wv18 => k r13 wv18 := by
  have hE1 : Ext No w (w.alloc (.map #[] 0)) := (Ext.refl No w).alloc _
  have b1 : (w.alloc (.map #[] 0)).heap[w.heap.size]? = some (.map #[] 0) := heap_alloc_new w _
  have s1 : (w.alloc (.map #[] 0)).heap.size = w.heap.size + 1 := by simp
  refine ⟨_, _, map_new w, ?_⟩
  generalize w.alloc (.map #[] 0) = w1 at hE1 b1 s1
  have stp : ∀ (W : World) (es : Array MapEntry) (c : Nat), Ext No w W → W.heap[w.heap.size]? = some (.map es c) → W.heap.size = w.heap.size + 1 → ∀ o, Ext No w (W.putObj w.heap.size o) ∧ (W.putObj w.heap.size o).heap[w.heap.size]? = some o ∧ (W.putObj w.heap.size o).heap.size = w.heap.size + 1 := by
    intro W es c hE hb hs o
    exact ⟨hE.trans' (putObj_ext W _ o) fun k hk h => by have h' : k = w.heap.size := h; omega, World.putObj_heap_same (by omega), by simp [hs]⟩
  refine ⟨_, map_put b1 _ _ (by kernel_rfl), ?_⟩
  obtain ⟨hE2, b2, s2⟩ := stp _ _ _ hE1 b1 s1 (.map ((#[] : Array MapEntry).push { key := .string (nameOf 0), val := .func (.func 75) #[] #[], born := 0 }) (0 + 1))
  refine ⟨_, map_put b2 _ _ (by kernel_rfl), ?_⟩
  obtain ⟨hE3, b3, s3⟩ := stp _ _ _ hE2 b2 s2 (.map (((#[] : Array MapEntry).push { key := .string (nameOf 0), val := .func (.func 75) #[] #[], born := 0 }).push { key := .string (nameOf 1), val := .func (.func 76) #[] #[], born := 0 + 1 }) (0 + 1 + 1))
  refine ⟨_, map_put b3 _ _ (by kernel_rfl), ?_⟩
  obtain ⟨hE4, b4, s4⟩ := stp _ _ _ hE3 b3 s3 (.map ((((#[] : Array MapEntry).push { key := .string (nameOf 0), val := .func (.func 75) #[] #[], born := 0 }).push { key := .string (nameOf 1), val := .func (.func 76) #[] #[], born := 0 + 1 }).push { key := .string (nameOf 2), val := .func (.func 77) #[] #[], born := 0 + 1 + 1 }) (0 + 1 + 1 + 1))
  refine ⟨_, map_put b4 _ _ (by kernel_rfl), ?_⟩
  obtain ⟨hE5, b5, s5⟩ := stp _ _ _ hE4 b4 s4 (.map passMap 4)
  exact hk _ hE5 b5 s5
end Go.Proofs.YtilacabmbjephaaGreatDoor
