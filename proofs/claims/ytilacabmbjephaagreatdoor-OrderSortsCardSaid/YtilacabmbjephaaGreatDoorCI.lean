/- Contracts: reading a whole tree, with any chooser. -/
import Derived.Test.YtilacabmbjephaaGreatDoorCE
import Derived.Test.YtilacabmbjephaaGreatDoorCH
namespace Go.Proofs.YtilacabmbjephaaGreatDoor
open Go Go.GX
set_option linter.unusedVariables false
set_option linter.unusedSimpArgs false

def zero4 : Array Value := #[.int .i64 0, .int .i64 0, .string ⟨#[]⟩, .slice none 0 0]
def RunQ (D : Rd) (CJ : Mem) (w : World) (SA : Option Addr) (BC : Nat → Prop) (r : Except Stop (Val × St)) : Ending → World → Prop := Ret
  (fun v w' => match r with
    | .ok (vl, st') => ∃ res SA' sc' BC', v = .tuple #[.agg res, .agg #[.int .i64 (-1), .int .i64 0]] ∧ ValR (exc D w.heap.size SA' BC') w' res vl ∧ Cfg D CJ st' w' SA' sc' BC' ∧ Upd (blk D SA BC) (blk D SA' BC') w ∧ Ext (blk D SA BC) w w'
    | .error (nd, er) => v = .tuple #[.agg zero4, .agg #[.int .i64 nd, .int .i64 er]] ∧ Ext (blk D SA BC) w w')
  (fun _ _ => False)

section
variable {D : Rd} {CJ : Mem} {ch : Nat → Nat → Option (Except Stop Int)}
theorem run_ok (hM : MemOk D CJ) (hch : ChOk D CJ ch) {f : Nat} {st : St} {w : World} {SA : Option Addr} {sc : Nat} {BC : Nat → Prop} {r : Except Stop (Val × St)}
    (hC : Cfg D CJ st w SA sc BC) (hne : 0 < D.nodes.length) (hr : readP D.nodes ch f (D.nodes.length - 1) st = some r) :
    Calls Tryz.prog 50 #[.pointer (some ⟨D.g, 0, none⟩)] w (RunQ D CJ w SA BC r) := by
  have hb0 : ¬ blk D SA BC w.heap.size := fun h => Nat.lt_irrefl _ (hC.blkLt _ h)
  have hb1 : ¬ blk D SA BC (w.heap.size + 1) := fun h => by have := hC.blkLt _ h; omega
  have hXw : D.X w.heap.size := hC.X1 _ hC.b1
  have hXw1 : D.X (w.heap.size + 1) := hC.X1 _ (by have := hC.b1; omega)
  obtain ⟨W, hW⟩ : ∃ W, W = (((w.alloc (.cells #[.int .i64 0, .int .i64 0, .string ⟨#[]⟩, .slice none 0 0] 45)).alloc (.cells #[.int .i64 0, .int .i64 0] 76)).setCell ⟨w.heap.size + 1, 0, none⟩ (.int .i64 (-1))) := ⟨_, rfl⟩
  have hE1 : Ext No w (w.alloc (.cells #[.int .i64 0, .int .i64 0, .string ⟨#[]⟩, .slice none 0 0] 45)) := (Ext.refl No w).alloc _
  have hEW : Ext No w W := by
    rw [hW]
    exact (hE1.alloc _).setCell _ fun h => by simp at h; omega
  have hWs : W.heap.size = w.heap.size + 2 := by rw [hW]; simp [World.setCell]
  have hWv : W.heap[w.heap.size]? = some (.cells #[.int .i64 0, .int .i64 0, .string ⟨#[]⟩, .slice none 0 0] 45) := by
    rw [hW]
    simp only [World.setCell, Array.getElem?_modify]
    rw [if_neg (by omega)]
    exact (heap_alloc_old _ _ _ (by simp)).trans (heap_alloc_new w _)
  have hWr : W.heap[w.heap.size + 1]? = some (.cells #[.int .i64 (-1), .int .i64 0] 76) := by
    rw [hW]
    simp only [World.setCell, Array.getElem?_modify]
    have h1 := heap_alloc_new (w.alloc (.cells #[.int .i64 0, .int .i64 0, .string ⟨#[]⟩, .slice none 0 0] 45)) (.cells #[.int .i64 0, .int .i64 0] 76)
    have h2 : (w.alloc (.cells #[.int .i64 0, .int .i64 0, .string ⟨#[]⟩, .slice none 0 0] 45)).heap.size = w.heap.size + 1 := by simp
    rw [h2] at h1
    rw [if_pos trivial, h1]
    rfl
  have hCW := hC.ext0 hM hEW
  have hup : ∀ {SA' BC'}, Upd (blk D SA BC) (blk D SA' BC') W → Upd (blk D SA BC) (blk D SA' BC') w ∧ ¬ blk D SA' BC' w.heap.size ∧ ¬ blk D SA' BC' (w.heap.size + 1) := by
    intro SA' BC' hU
    refine ⟨fun k hk => (hU k hk).imp id fun h => Nat.le_trans hEW.size h, fun h => ?_, fun h => ?_⟩
    · rcases hU _ h with h | h
      · exact hb0 h
      · omega
    · rcases hU _ h with h | h
      · exact hb1 h
      · omega
  refine run_wp D.g w _ (fun chn w' => ∃ nd er, r = .error (nd, er) ∧ chn = [{ v := .iface 76 (.agg #[.int .i64 nd, .int .i64 er]), recovered := false }] ∧ Ext (blk D SA BC) W w')
    (fun w3 => ∃ vl st' res SA' sc' BC', r = .ok (vl, st') ∧ ValR (exc D w.heap.size SA' BC') w3 res vl ∧ Cfg D CJ st' w3 SA' sc' BC' ∧ Upd (blk D SA BC) (blk D SA' BC') w ∧ Ext (blk D SA BC) w w3 ∧
      CellsAt w3 ⟨w.heap.size, 0, none⟩ res ∧ CellsAt w3 ⟨w.heap.size + 1, 0, none⟩ #[.int .i64 (-1), .int .i64 0]) ?_ ?_ ?_
  · rintro w' ⟨vl, st', res, SA', sc', BC', rfl, hV, hC', hU, hE, h1, h2⟩
    exact ⟨res, _, hV.size, rfl, h1, h2, res, SA', sc', BC', rfl, hV, hC', hU, hE⟩
  · rintro chn w' ⟨nd, er, rfl, rfl, hE⟩
    have v' := (hE.block _ (by omega) hb0).trans hWv
    have s' := (hE.block _ (by omega) hb1).trans hWr
    have cv := row_cells v'
    have cs := row_cells s'
    have q0 : w'.cell? ⟨w.heap.size, 0, none⟩ = some (.int .i64 0) := cv 0 _ rfl
    have q1 : w'.cell? ⟨w.heap.size, 1, none⟩ = some (.int .i64 0) := by have := cv 1 _ rfl; rw [addr0] at this; exact this
    have q2 : w'.cell? ⟨w.heap.size, 2, none⟩ = some (.string ⟨#[]⟩) := by have := cv 2 _ rfl; rw [addr0] at this; exact this
    have q3 : w'.cell? ⟨w.heap.size, 3, none⟩ = some (.slice none 0 0) := by have := cv 3 _ rfl; rw [addr0] at this; exact this
    have q4 : w'.cell? ⟨w.heap.size + 1, 0, none⟩ = some (.int .i64 (-1)) := cs 0 _ rfl
    have q5 : w'.cell? ⟨w.heap.size + 1, 1, none⟩ = some (.int .i64 0) := by have := cs 1 _ rfl; rw [addr0] at this; exact this
    refine ⟨nd, er, _, _, _, _, _, _, rfl, q0, q1, q2, q3, q4, q5, ?_, ?_, fun w'' hE2 => ⟨rfl, ?_⟩⟩
    · intro j; simp [World.frozen?, v']
    · intro j; simp [World.frozen?, s']
    · exact (hEW.no.trans hE).trans' hE2 fun k hk h => by omega
  · intro W' hW'
    obtain rfl : W' = W := hW'.trans hW.symm
    have hd : Ext No W' W'.drew := (Ext.refl No W').drew
    have hCd := hCW.ext0 hM hd
    have hnn : IntKind.i64.wrap (((D.nodes.length : Nat) : Int) - 1) = ((D.nodes.length - 1 : Nat) : Int) := by
      have h1 := hC.nd.cap
      have h2 := hC.nd.max
      rw [maxLen_eq] at h2
      rw [wrap_id ⟨by omega, by omega⟩]
      omega
    unfold m50
    refine ⟨fun w' => w'.cell? ⟨D.g, 0, none⟩ = some (.slice D.TA D.nodes.length D.tc) ∧ CellsAt w' ⟨w.heap.size + 1, 0, none⟩ #[.int .i64 (-1), .int .i64 0], ⟨hCd.c0, (hd.cells (row_cells hWr) (fun h => h))⟩, _, rfl, _, fun w' h => h.1, _, _, _, rfl,
      #[.int .i64 (-1), .int .i64 0], rfl, fun w' h => h.2, ?_⟩
    rw [hnn]
    refine (read_ok hM hch f _ _ _ _ _ _ r hCd hr).mono fun e w4 hQ => ?_
    cases e with
    | outgrown => exact hQ
    | panicked chn =>
      obtain ⟨nd, er, rfl, rfl, hE⟩ := hQ
      exact ⟨nd, er, rfl, rfl, hd.no.trans hE⟩
    | returned v =>
      obtain ⟨vl, st', res, SA', sc', BC', rfl, rfl, hV, hC4, hU4, hE4⟩ := hQ
      obtain ⟨hU, n0, n1⟩ := hup hU4
      have hE4' : Ext (blk D SA BC) W' w4 := hd.no.trans hE4
      have v4 := (hE4'.block _ (by omega) hb0).trans hWv
      have s4 := (hE4'.block _ (by omega) hb1).trans hWr
      refine ⟨res, rfl, ⟨hC4.c0, row_cells s4⟩, hV.size, ?_⟩
      refine store_box v4 (by rw [hV.size]; rfl) (valK.one hV) ?_
      have hE5 := setRow_ext w4 w.heap.size res
      have v5 := setRow_new (cs := res) v4
      have hC5 : Cfg D CJ st' (w4.setRow w.heap.size res) SA' sc' BC' := hC4.ext hM hE5 fun k _ hk => by
        have hk' : k = w.heap.size := hk
        rw [hk']
        exact ⟨hXw, n0⟩
      have s5 : (w4.setRow w.heap.size res).heap[w.heap.size + 1]? = some (.cells #[.int .i64 (-1), .int .i64 0] 76) := (hE5.block _ (by have := hE4'.size; omega) (show ¬ (w.heap.size + 1 = w.heap.size) by omega)).trans s4
      refine ⟨⟨hC5.c0, row_cells s5⟩, rfl, ?_⟩
      refine store_box s5 rfl (by intro v hv; simp at hv; rcases hv with rfl | rfl <;> rfl) ⟨fun _ => True, trivial, ?_⟩
      have hE6 := setRow_ext (w4.setRow w.heap.size res) (w.heap.size + 1) #[.int .i64 (-1), .int .i64 0]
      have hE56 : Ext (fun k => k = w.heap.size ∨ k = w.heap.size + 1) w4 ((w4.setRow w.heap.size res).setRow (w.heap.size + 1) #[.int .i64 (-1), .int .i64 0]) :=
        (hE5.mono fun k _ h => .inl h).trans (hE6.mono fun k _ h => .inr h)
      refine ⟨vl, st', res, SA', sc', BC', rfl, ?_, ?_, hU, (hEW.no.trans hE4').trans' hE56 fun k hk h => by omega, ?_, row_cells (setRow_new s5)⟩
      · refine (hV.ext (hE56.mono (Y := exc D W'.drew.heap.size SA' BC') fun k _ hk => ?_) (Upd.same _ _)).ext (Ext.refl _ _) ?_
        · have hs : W'.drew.heap.size = w.heap.size + 2 := hWs
          rcases hk with rfl | rfl
          · exact .inl ⟨hXw, by omega⟩
          · exact .inl ⟨hXw1, by omega⟩
        · rintro k (⟨h1, h2⟩ | h)
          · exact .inl (.inl ⟨h1, Nat.lt_of_lt_of_le h2 (hEW.trans hd).size⟩)
          · exact .inl (.inr h)
      · exact hC5.ext hM hE6 fun k _ hk => by
          have hk' : k = w.heap.size + 1 := hk
          rw [hk']
          exact ⟨hXw1, n1⟩
      · exact hE6.cells (row_cells v5) (show ¬ (w.heap.size = w.heap.size + 1) by omega)
end
end Go.Proofs.YtilacabmbjephaaGreatDoor
