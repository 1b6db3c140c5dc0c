/- The results of passes (package order): the passes, uniformly. -/
import Derived.Test.YtilacabmbjephaaGreatDoorDB
namespace Go.Proofs.YtilacabmbjephaaGreatDoor
open Go Go.GX
set_option linter.unusedVariables false
set_option linter.unusedSimpArgs false

/-- An iterator: over whatever a loop's body does. -/
def IterOk (g : Nat) (caps : Array Value) (S : RS) (id : Nat) (W1 : World) (lo hi : Nat) : Prop := ∀ (l : Nat) (J : Nat → (Nat → Prop) → World → Prop) (Y0 : Nat → Prop) (W2 : World),
  Ext No W1 W2 → Body l (rawsOf S.p S.sp id) J → J 0 Y0 W2 → (∀ b, Y0 b → ¬ (lo ≤ b ∧ b < hi)) → SlR intK Y0 W2 S.PA S.p.length S.pc S.p → SlR spanK Y0 W2 S.SA S.sp.length S.sc S.sp →
  Calls Tryz.prog g (#[.func (.yield l) #[] #[]] ++ caps) W2 (Ret (fun v w' => v = .tuple #[] ∧ ∃ Y', J (rawsOf S.p S.sp id).length Y' w' ∧ Upd Y0 Y' W2 ∧ Ext Y0 W2 w') fun _ _ => False)
theorem pass_ok (S : RS) (hn : S.p.length ≤ small) (hok : ∀ x ∈ S.sp, spanOk S.p.length x) (id : Nat) (hid : id < 4) (W : World) :
    Calls Tryz.prog (75 + id) #[.slice S.PA S.p.length S.pc, .slice S.SA S.sp.length S.sc] W (Ret (fun v W1 => Ext No W W1 ∧ ∃ g caps, v = .func (.func g) #[] caps ∧ B g = true ∧ IterOk g caps S id W1 W.heap.size W1.heap.size) fun _ _ => False) := by
  have hE1 : Ext No W (W.alloc (.cells #[.slice S.PA S.p.length S.pc] 22)) := (Ext.refl No W).alloc _
  have b1 : (W.alloc (.cells #[.slice S.PA S.p.length S.pc] 22)).heap[W.heap.size]? = some (.cells #[.slice S.PA S.p.length S.pc] 22) := heap_alloc_new W _
  have s1 : (W.alloc (.cells #[.slice S.PA S.p.length S.pc] 22)).heap.size = W.heap.size + 1 := by simp
  have hE2 : Ext No (W.alloc (.cells #[.slice S.PA S.p.length S.pc] 22)) ((W.alloc (.cells #[.slice S.PA S.p.length S.pc] 22)).alloc (.cells #[.slice S.SA S.sp.length S.sc] 68)) := (Ext.refl No _).alloc _
  have b2 : ((W.alloc (.cells #[.slice S.PA S.p.length S.pc] 22)).alloc (.cells #[.slice S.SA S.sp.length S.sc] 68)).heap[W.heap.size + 1]? = some (.cells #[.slice S.SA S.sp.length S.sc] 68) := by
    rw [← s1]; exact heap_alloc_new _ _
  have s2 : ((W.alloc (.cells #[.slice S.PA S.p.length S.pc] 22)).alloc (.cells #[.slice S.SA S.sp.length S.sc] 68)).heap.size = W.heap.size + 2 := by simp
  match id, hid with
  | 0, _ =>
    apply c75
    unfold m75
    rw [s1]
    refine ⟨hE1.trans hE2, 129, _, rfl, by kernel_rfl, ?_⟩
    intro l J Y0 W2 hE hB hJ hY hp hsp
    have b1' := ((hE2.trans hE).block _ (by omega) (fun h => h)).trans b1
    have b2' := (hE.block _ (by omega) (fun h => h)).trans b2
    exact deletes1_ok (pb := W.heap.size) (sb := W.heap.size + 1) hB hJ ⟨row_cell b1' 0 _ rfl, fun h => hY _ h ⟨Nat.le_refl _, by omega⟩, hp⟩ ⟨row_cell b2' 0 _ rfl, fun h => hY _ h ⟨by omega, by omega⟩, hsp⟩ hn hok
  | 1, _ =>
    apply c76
    unfold m76
    refine ⟨hE1, 131, _, rfl, by kernel_rfl, ?_⟩
    intro l J Y0 W2 hE hB hJ hY hp hsp
    have b1' := (hE.block _ (by omega) (fun h => h)).trans b1
    exact lowers1_ok (pb := W.heap.size) hB hJ ⟨row_cell b1' 0 _ rfl, fun h => hY _ h ⟨Nat.le_refl _, by omega⟩, hp⟩ hn
  | 2, _ =>
    apply c77
    unfold m77
    rw [s1]
    refine ⟨hE1.trans hE2, 133, _, rfl, by kernel_rfl, ?_⟩
    intro l J Y0 W2 hE hB hJ hY hp hsp
    have b1' := ((hE2.trans hE).block _ (by omega) (fun h => h)).trans b1
    have b2' := (hE.block _ (by omega) (fun h => h)).trans b2
    exact swaps1_ok (pb := W.heap.size) (sb := W.heap.size + 1) hB hJ ⟨row_cell b1' 0 _ rfl, fun h => hY _ h ⟨Nat.le_refl _, by omega⟩, hp⟩ ⟨row_cell b2' 0 _ rfl, fun h => hY _ h ⟨by omega, by omega⟩, hsp⟩ hn hok
  | 3, _ =>
    apply c78
    unfold m78
    refine ⟨hE1, 134, _, rfl, by kernel_rfl, ?_⟩
    intro l J Y0 W2 hE hB hJ hY hp hsp
    have b1' := (hE.block _ (by omega) (fun h => h)).trans b1
    exact shares1_ok (pb := W.heap.size) hB hJ ⟨row_cell b1' 0 _ rfl, fun h => hY _ h ⟨Nat.le_refl _, by omega⟩, hp⟩ hn

/-! ## The marks are taken up -/
theorem marks_leave {fn : Func} {tmps : Array Value} {R : Ending → World → Prop} : ∀ (ms : List Nat) (w : World), ms.Nodup → (∀ r ∈ ms, w.heap[r]? = some (.deferred (some []))) →
    (∀ w', Ext (fun k => k ∈ ms) w w' → ∃ v, (results fn tmps).run Tryz.prog w' = .ok v w' ∧ R (.returned v) w') →
    LeavesInM Fence.wide 0 Tryz.prog fn tmps R (ms.map fun r => { target := .collected r, args := #[] }) .returning w
  | [], w, _, _, h => h w (Ext.refl _ _)
  | r :: ms, w, hnd, hm, h => by
    have hr := hm r List.mem_cons_self
    rw [List.nodup_cons] at hnd
    refine ⟨by simp, .inl ⟨r, _, rfl, run_takeDeferred hr, ?_⟩⟩
    have hE := putObj_ext w r (.deferred none)
    refine marks_leave ms _ hnd.2 (fun r' hr' => ?_) fun w' hE' => h w' ?_
    · have h1 := hm r' (List.mem_cons_of_mem _ hr')
      exact (hE.block _ (Array.getElem?_eq_some_iff.1 h1).1 fun hh => hnd.1 (by have hh' : r' = r := hh; rw [← hh']; exact hr')).trans h1
    · exact (hE.mono fun k _ hk => by have hk' : k = r := hk; rw [hk']; exact List.mem_cons_self).trans (hE'.mono fun k _ hk => List.mem_cons_of_mem _ hk)
end Go.Proofs.YtilacabmbjephaaGreatDoor
