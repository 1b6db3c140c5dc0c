/- Contracts: reading a whole tree. -/
import Derived.Test.YtilacabmbjephaaGreatDoorCD
namespace Go.Proofs.YtilacabmbjephaaGreatDoor
open Go Go.GX
set_option linter.unusedVariables false

/-- What the reading of a whole tree asks of its last region: the tree's slice, the call, the results' boxes. -/
def m50 (kp : List PanicEntry → World → Prop) (kn : World → Prop) (g v s : Addr) (w : World) : Prop :=
  ∃ S : World → Prop, S (World.drew w) ∧
  ∃ a, some g = some a ∧ ∃ x, (∀ w', S w' → World.cell? w' (((a : Addr).add 0 : Addr).add 0) = some x) ∧ ∃ A n c, x = .slice A n c ∧
  ∃ cs : Array Value, cs.size = 2 ∧ (∀ w', S w' → CellsAt w' s cs) ∧
  Calls Tryz.prog 73 #[.pointer (some g), .int .i64 (IntKind.i64.wrap (((n : Nat) : Int) - 1))] (World.drew w) (Ret (fun r w' =>
    ∃ r1 : Array Value, r = .agg r1 ∧ S w' ∧ r1.size = 4 ∧ RunU Tryz.prog (storeCells v r1.toList) w' fun w2 =>
    S w2 ∧ cs.size = 2 ∧ RunU Tryz.prog (storeCells s cs.toList) w2 fun w3 => ∃ S3 : World → Prop, S3 w3 ∧ kn w3) (fun ch w' => kp ch w'))
def run3 (f : Func) : Code := match f.body with
  | some (.seq _ (.seq _ (.seq _ (.seq r _)))) => r
  | _ => .skip
def ops3 (f : Func) : Array Oper := match run3 f with
  | .region _ ops _ => ops
  | _ => #[]
theorem e50 (kp : List PanicEntry → World → Prop) (kn : World → Prop) (g v s p : Addr) (f : Value) (w : World) :
    drawP Tryz.prog T B 3 (ops3 Tryz.f50) kp (fun _ w => kn w) (Env.ini [.pointer (some g), undef, .pointer (some v), .pointer (some s), .pointer (some p), f]) w = m50 kp kn g v s w := by kernel_rfl

theorem run_wp (g : Nat) (w : World) (R : Ending → World → Prop) (kp : List PanicEntry → World → Prop) (kn : World → Prop)
    (hn : ∀ w', kn w' → ∃ rv rs : Array Value, rv.size = 4 ∧ rs.size = 2 ∧ CellsAt w' ⟨w.heap.size, 0, none⟩ rv ∧ CellsAt w' ⟨w.heap.size + 1, 0, none⟩ rs ∧ R (.returned (.tuple #[.agg rv, .agg rs])) w')
    (hp : ∀ ch w', kp ch w' → ∃ (nd er : Int) (c0 c1 c2 c3 d0 d1 : Value), ch = [{ v := .iface 76 (.agg #[.int .i64 nd, .int .i64 er]), recovered := false }] ∧
      w'.cell? ⟨w.heap.size, 0, none⟩ = some c0 ∧ w'.cell? ⟨w.heap.size, 1, none⟩ = some c1 ∧ w'.cell? ⟨w.heap.size, 2, none⟩ = some c2 ∧ w'.cell? ⟨w.heap.size, 3, none⟩ = some c3 ∧
      w'.cell? ⟨w.heap.size + 1, 0, none⟩ = some d0 ∧ w'.cell? ⟨w.heap.size + 1, 1, none⟩ = some d1 ∧ (∀ j, w'.frozen? ⟨w.heap.size, j, none⟩ = false) ∧ (∀ j, w'.frozen? ⟨w.heap.size + 1, j, none⟩ = false) ∧
      ∀ w'', Ext (fun k => k = w.heap.size ∨ k = w.heap.size + 1) w' w'' → R (.returned (.tuple #[.agg #[.int .i64 0, .int .i64 0, .string ⟨#[]⟩, .slice none 0 0], .agg #[.int .i64 nd, .int .i64 er]])) w'')
    (h : ∀ W, W = (((w.alloc (.cells #[.int .i64 0, .int .i64 0, .string ⟨#[]⟩, .slice none 0 0] 45)).alloc (.cells #[.int .i64 0, .int .i64 0] 76)).setCell ⟨w.heap.size + 1, 0, none⟩ (.int .i64 (-1))) →
      m50 kp kn ⟨g, 0, none⟩ ⟨w.heap.size, 0, none⟩ ⟨w.heap.size + 1, 0, none⟩ W) : Calls Tryz.prog 50 #[.pointer (some ⟨g, 0, none⟩)] w R := by
  have hmf : ∀ (fn : Fn) (first cap : Array Value) (w : World), (Instr.makeFunc fn first cap).run Tryz.prog w = .ok (.func fn first cap) w := fun _ _ _ _ => rfl
  go_enter_defers Tryz.func50, Tryz.ntmps50
  apply wp_seq
  go_wp2
  rename_i K hK
  refine wp_mono (wpIn_wide.1 (hD none [{ target := .fn (.func 72) #[.pointer (some ⟨w.heap.size, 0, none⟩), .pointer (some ⟨w.heap.size + 1, 0, none⟩)], args := #[] }] 16 [2, 3] (Env.ini [.pointer (some ⟨g, 0, none⟩), undef, .pointer (some ⟨w.heap.size, 0, none⟩), .pointer (some ⟨w.heap.size + 1, 0, none⟩), .pointer (some ⟨w.heap.size + 1, 0, none⟩), (.func (.func 72) #[] #[.pointer (some ⟨w.heap.size, 0, none⟩), .pointer (some ⟨w.heap.size + 1, 0, none⟩)])]) 3 (ops3 Tryz.f50) (fun _ _ _ => False) (fun _ w => kn w) (fun _ _ => False) kp _ (Env.ini [.pointer (some ⟨g, 0, none⟩), undef, .pointer (some ⟨w.heap.size, 0, none⟩), .pointer (some ⟨w.heap.size + 1, 0, none⟩), .pointer (some ⟨w.heap.size + 1, 0, none⟩), (.func (.func 72) #[] #[.pointer (some ⟨w.heap.size, 0, none⟩), .pointer (some ⟨w.heap.size + 1, 0, none⟩)])]) _ (by kernel_rfl) ?_ ((e50 kp kn _ _ _ _ (.func (.func 72) #[] #[.pointer (some ⟨w.heap.size, 0, none⟩), .pointer (some ⟨w.heap.size + 1, 0, none⟩)]) _).symm ▸ h _ ?_))) ?_
  · refine ⟨rfl, fun t => ?_, rfl, fun d hd => rfl⟩
    match t with
    | 0 | 1 | 2 | 3 | 4 | 5 | 6 | 7 | 8 | 9 | 10 | 11 | 12 | 13 | 14 | 15 => rfl
    | t + 16 => rfl
  · rintro e a' w' hq
    cases e with
    | normal =>
      obtain ⟨ρ, hA, hk⟩ := hq
      refine hK a' w' (wp_ret ?_)
      show Leaves _ _ _ _ a'.defers _ _
      rw [hA.defers]
      refine leaves_cons (f := 72) (args := #[.pointer (some ⟨w.heap.size, 0, none⟩), .pointer (some ⟨w.heap.size + 1, 0, none⟩)]) (by simp) (by simp [go_sem]) ?_
      refine (catch_idle _ _ _).mono ?_
      rintro e u' w'' ⟨rfl, rfl, rfl⟩
      obtain ⟨rv, rs, h1, h2, h3, h4, h5⟩ := hn _ hk
      have k2 : ρ 2 = .pointer (some ⟨w.heap.size, 0, none⟩) := hA.keep 2 (by simp)
      have k3 : ρ 3 = .pointer (some ⟨w.heap.size + 1, 0, none⟩) := hA.keep 3 (by simp)
      have hres := resP_sound hT (fn := Tryz.f50) (w := w'') (k := fun v => R (.returned v) w'') hA (by
        show resL _ _ [.cell 2 45, .cell 3 76] _ _ _
        simp only [resL, k2, k3]
        exact ⟨rv, h1, h3, rs, h2, h4, h5⟩)
      exact hres
    | panic ch =>
      obtain ⟨⟨hd, hC⟩, hk⟩ := hq
      obtain ⟨nd, er, c0, c1, c2, c3, d0, d1, rfl, g0, g1, g2, g3, h0, h1, gf, hf, hR⟩ := hp _ _ hk
      show Leaves _ _ _ _ a'.defers _ _
      rw [hd]
      refine leaves_cons (f := 72) (args := #[.pointer (some ⟨w.heap.size, 0, none⟩), .pointer (some ⟨w.heap.size + 1, 0, none⟩)]) (by simp) (by simp [go_sem]) ?_
      refine (catch_panicking w.heap.size (w.heap.size + 1) c0 c1 c2 c3 d0 d1 nd er _ g0 g1 g2 g3 h0 h1 gf hf (by omega)).mono ?_
      rintro e u' w'' ⟨rfl, rfl, hw⟩
      have k2 : a'.tmps.getD 2 undef = .pointer (some ⟨w.heap.size, 0, none⟩) := hC 2 (by simp)
      have k3 : a'.tmps.getD 3 undef = .pointer (some ⟨w.heap.size + 1, 0, none⟩) := hC 3 (by simp)
      have hE : Ext (fun k => k = w.heap.size ∨ k = w.heap.size + 1) w' w'' := by
        rw [hw]
        have st : ∀ (W : World) (p : Addr) (v : Value), Ext (fun k => k = w.heap.size ∨ k = w.heap.size + 1) w' W → (p.block = w.heap.size ∨ p.block = w.heap.size + 1) → Ext (fun k => k = w.heap.size ∨ k = w.heap.size + 1) w' (W.setCell p v) := fun W p v hE hp => hE.setCell v fun _ => hp
        exact st _ _ _ (st _ _ _ (st _ _ _ (st _ _ _ (st _ _ _ (st _ _ _ (Ext.refl _ _) (.inl rfl)) (.inl rfl)) (.inl rfl)) (.inl rfl)) (.inr rfl)) (.inr rfl)
      have x1 : ∀ (o j : Nat), (⟨w.heap.size, o, none⟩ : Addr) ≠ ⟨w.heap.size + 1, j, none⟩ := fun o j e => by injection e with e; omega
      have x2 : ∀ (o j : Nat), (⟨w.heap.size + 1, o, none⟩ : Addr) ≠ ⟨w.heap.size, j, none⟩ := fun o j e => by injection e with e; omega
      have cv : CellsAt w'' ⟨w.heap.size, 0, none⟩ #[.int .i64 0, .int .i64 0, .string ⟨#[]⟩, .slice none 0 0] := by
        intro j v hj
        rw [addr0]
        match j, hj with
        | 0, hj => cases hj; rw [hw]; simp [World.cell?_setCell_other, x1, x2, g0, World.cell?_setCell_same']
        | 1, hj => cases hj; rw [hw]; simp [World.cell?_setCell_other, x1, x2, g1, World.cell?_setCell_same']
        | 2, hj => cases hj; rw [hw]; simp [World.cell?_setCell_other, x1, x2, g2, World.cell?_setCell_same']
        | 3, hj => cases hj; rw [hw]; simp [World.cell?_setCell_other, x1, x2, g3, World.cell?_setCell_same']
        | j + 4, hj => simp at hj
      have cs : CellsAt w'' ⟨w.heap.size + 1, 0, none⟩ #[.int .i64 nd, .int .i64 er] := by
        intro j v hj
        rw [addr0]
        match j, hj with
        | 0, hj => cases hj; rw [hw]; simp [World.cell?_setCell_other, x1, x2, h0, World.cell?_setCell_same']
        | 1, hj => cases hj; rw [hw]; simp [World.cell?_setCell_other, x1, x2, h1, World.cell?_setCell_same']
        | j + 2, hj => simp at hj
      obtain ⟨vs, hr, hres⟩ := resL_sound (P := Tryz.prog) hT (tmps := a'.tmps) (ρ := fun t => a'.tmps.getD t undef) (w := w'') (fun t => rfl) [.cell 2 45, .cell 3 76]
        (fun vs => vs = [.agg #[.int .i64 0, .int .i64 0, .string ⟨#[]⟩, .slice none 0 0], .agg #[.int .i64 nd, .int .i64 er]]) (by
          simp only [resL, k2, k3]
          exact ⟨_, rfl, cv, _, rfl, cs, rfl⟩)
      subst hres
      have hA : Ag a'.defers a'.tmps.size [] (fun t => a'.tmps.getD t undef) a' (fun t => a'.tmps.getD t undef) := ⟨rfl, fun _ => rfl, rfl, fun _ _ => rfl⟩
      have hres := resP_sound hT (fn := Tryz.f50) (w := w'') (k := fun v => R (.returned v) w'') hA (by
        show resL _ _ [.cell 2 45, .cell 3 76] _ _ _
        simp only [resL, k2, k3]
        exact ⟨_, rfl, cv, _, rfl, cs, hR w'' hE⟩)
      exact hres
    | ret => exact hq.elim fun ρ h => h.2.elim
    | exit i => exact hq.elim fun ρ h => h.2.elim
    | goto l => exact hq.elim
    | outgrown => exact hq.elim
  · rfl
end Go.Proofs.YtilacabmbjephaaGreatDoor
