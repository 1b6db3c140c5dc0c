/- Contracts: options of a node, the value that is made, a choice. -/
import Derived.Test.YtilacabmbjephaaGreatDoorME
import Derived.Test.YtilacabmbjephaaGreatDoorCW
namespace Go.Proofs.YtilacabmbjephaaGreatDoor
open Go Go.GX
set_option linter.unusedVariables false

/-- The number of options of a node that makes a choice. -/
def optsP (x : Nod) : Int := if x.kind = 1 then x.hi - x.lo + 1 else x.kids.length
theorem options_ok {X : Nat → Prop} (cs : Array Value) (x : Nod) (w : World) (h : NodeR X w cs x) (hr : x.kind = 1 → intOk (x.hi - x.lo) ∧ intOk (x.hi - x.lo + 1)) :
    Calls Tryz.prog 49 #[.agg cs] w (Fin w fun v _ => v = .int .i64 (optsP x)) := by
  apply c49
  unfold m49
  obtain ⟨⟨A1, c1, A2, c2, A3, c3, A4, c4, A5, c5, hcs, h1, h2, h3, h4, h5⟩, hk, hn, hlo, hhi, _⟩ := h
  have hE : Ext No w (w.alloc (.cells cs 74)) := (Ext.refl No w).alloc _
  refine ⟨_, by rw [box_cell, hcs]; rfl, _, rfl, ?_⟩
  by_cases k1 : x.kind = 1
  · rw [if_pos (by simpa using k1)]
    obtain ⟨r1, r2⟩ := hr k1
    refine ⟨_, by rw [box_cell, hcs]; rfl, _, rfl, _, by rw [box_cell, hcs]; rfl, _, rfl, Fin.ret hE ?_⟩
    rw [wrap_id r1, wrap_id r2]
    simp [optsP, k1]
  · rw [if_neg (by simpa using k1)]
    exact ⟨_, by rw [box_cell, hcs]; rfl, _, _, _, rfl, Fin.ret hE (by simp [optsP, k1])⟩

/-- The value of a sequence. -/
def listV (kids : List Val) : Val := .mk 2 0 ⟨#[]⟩ kids
def madeV (x : Nod) (kids : List Val) : Val := if noS x.name = true then listV kids else .mk 3 0 x.name kids
theorem build45 (A : Option Addr) (n c : Nat) (w : World) : (Instr.build 45 #[(0, .int .i64 2), (3, .slice A n c)]).run Tryz.prog w = .ok (.agg #[.int .i64 2, .int .i64 0, .string ⟨#[]⟩, .slice A n c]) w := by kernel_rfl
theorem build45n (s : ByteArray) (A : Option Addr) (n c : Nat) (w : World) : (Instr.build 45 #[(0, .int .i64 3), (2, .string s), (3, .slice A n c)]).run Tryz.prog w = .ok (.agg #[.int .i64 3, .int .i64 0, .string s, .slice A n c]) w := by kernel_rfl
theorem made_ok {X Y : Nat → Prop} (cs : Array Value) (x : Nod) (A : Option Addr) (n c : Nat) (kids : List Val) (w : World) (h : NodeR Y w cs x) (hs : SlR valK X w A n c kids) :
    Calls Tryz.prog 126 #[.agg cs, .slice A n c] w (Fin w fun v w' => ∃ res, v = .agg res ∧ ValR X w' res (madeV x kids)) := by
  apply c126
  unfold m126
  obtain ⟨⟨A1, c1, A2, c2, A3, c3, A4, c4, A5, c5, hcs, h1, h2, h3, h4, h5⟩, _, hname, _⟩ := h
  have hE1 : Ext No w (w.alloc (.cells cs 74)) := (Ext.refl No w).alloc _
  generalize hW1 : w.alloc (.cells cs 74) = w1 at hE1
  have hE2 : Ext No w1 (w1.alloc (.cells #[.int .i64 0, .int .i64 0, .string ⟨#[]⟩, .slice none 0 0] 45)) := (Ext.refl No w1).alloc _
  have b1 : (w1.alloc (.cells #[.int .i64 0, .int .i64 0, .string ⟨#[]⟩, .slice none 0 0] 45)).cell? ((⟨w.heap.size, 0, none⟩ : Addr).add 1) = some (.string x.name) := by
    have := hE2
    rw [← hW1] at this
    rw [← hW1, this.box (fun h => h) 1, hcs]
    rfl
  refine ⟨_, b1, _, rfl, ?_⟩
  have i2 : ∀ n : Int, n = 2 ∨ n = 3 ∨ n = 0 → intOk n := fun n h => by rcases h with rfl | rfl | rfl <;> constructor <;> decide
  by_cases hn : noS x.name = true
  · rw [if_pos (by simpa [noS] using hn)]
    refine ⟨_, _, build45 A n c _, _, rfl, rfl, ?_⟩
    refine box_store w1 _ #[.int .i64 2, .int .i64 0, .string ⟨#[]⟩, .slice A n c] 45 (by rfl) (by intro v hv; simp at hv; rcases hv with rfl | rfl | rfl | rfl <;> rfl) ?_
    have hE3 : Ext No w1 (w1.alloc (.cells #[.int .i64 2, .int .i64 0, .string ⟨#[]⟩, .slice A n c] 45)) := (Ext.refl No w1).alloc _
    refine ⟨_, rfl, box_cells _ _ _, Fin.ret (hE1.trans hE3) ⟨_, rfl, ?_⟩⟩
    have hs' := hs.ext (hE1.trans hE3).no (Upd.same X w)
    rw [madeV, if_pos hn]
    exact ValR.close (i2 _ (.inl rfl)) (i2 _ (.inr (.inr rfl))) (by show (0 : Nat) ≤ _; exact Nat.zero_le _) hs'
  · rw [if_neg (by simpa [noS] using hn)]
    refine ⟨_, b1, _, rfl, _, _, build45n x.name A n c _, _, rfl, rfl, ?_⟩
    refine box_store w1 _ #[.int .i64 3, .int .i64 0, .string x.name, .slice A n c] 45 (by rfl) (by intro v hv; simp at hv; rcases hv with rfl | rfl | rfl | rfl <;> rfl) ?_
    have hE3 : Ext No w1 (w1.alloc (.cells #[.int .i64 3, .int .i64 0, .string x.name, .slice A n c] 45)) := (Ext.refl No w1).alloc _
    refine ⟨_, rfl, box_cells _ _ _, Fin.ret (hE1.trans hE3) ⟨_, rfl, ?_⟩⟩
    have hs' := hs.ext (hE1.trans hE3).no (Upd.same X w)
    rw [madeV, if_neg hn]
    exact ValR.close (i2 _ (.inr (.inl rfl))) (i2 _ (.inr (.inr rfl))) hname hs'
end Go.Proofs.YtilacabmbjephaaGreatDoor
