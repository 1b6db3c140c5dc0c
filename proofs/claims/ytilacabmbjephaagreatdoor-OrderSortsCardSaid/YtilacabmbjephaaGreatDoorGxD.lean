/- The evaluator's effects are the model's: every clause. -/
import Derived.Test.YtilacabmbjephaaGreatDoorGxC
import Derived.Laws.Externs
namespace Go.GX
set_option linter.unusedVariables false
set_option linter.unusedSimpArgs false
attribute [local simp] Sem.run

section
variable {P : Program} {T : Nat → Option TK} {B : Nat → Bool}

theorem fieldsAt {fa : Array Field} {fs : List (Nat × Nat)} (h : (fa.toList.map fun f => (f.offset, f.type)) = fs) {f off ty : Nat} (hf : fs[f]? = some (off, ty)) :
    ∃ fld, fa[f]? = some fld ∧ fld.offset = off ∧ fld.type = ty := by
  rw [← h] at hf
  simp only [List.getElem?_map, Option.map_eq_some_iff] at hf
  obtain ⟨fld, hfld, he⟩ := hf
  simp only [Prod.mk.injEq] at he
  exact ⟨fld, by simpa using hfld, he.1, he.2⟩
theorem run_part_one {t : Nat} {tk : TK} (h : TSpec P t tk) (h1 : tk.one = true) {cs : Array Value} {off : Nat} {v : Value} (hc : cs[off]? = some v) (w : World) : (part t cs off).run P w = .ok v w := by
  simp only [part, Sem.run_bind, (one_spec h h1 w).1, Result.andThen_ok, Bool.false_eq_true, if_false, hc]
  rfl
theorem run_part_agg {t : Nat} {d : TypeDesc} {z : Option Value} {sz : Nat} (hd : P.underlying t = some d) (hs : pinfo P t = some (z, sz)) (ha : isAggD d = true)
    (cs : Array Value) (off : Nat) (w : World) : (part t cs off).run P w = .ok (.agg (cs.extract off (off + sz))) w := by
  simp only [part, Sem.run_bind, run_isAgg hd w, Result.andThen_ok, ha, if_true, run_sizeOf' hs w]
  simp
theorem not_tup {tk : TK} (hn1 : ∀ sz fs zs, tk = .agg sz fs zs → False) (hn2 : ∀ n e sz zs, tk = .arr n e sz zs → False) (hn3 : ∀ n, tk = .tup n → False) : tk.one = true := by
  cases tk <;> first | rfl | exact absurd rfl (hn1 _ _ _) | exact absurd rfl (hn2 _ _ _ _) | exact absurd rfl (hn3 _)
theorem set_fold : ∀ (ws : List Value) (i off : Nat) (cs : Array Value), off + i + ws.length ≤ cs.size →
    ((ws.zipIdx i).foldl (fun cs (x : Value × Nat) => cs.setIfInBounds (off + x.2) x.1) cs).toList = cs.toList.take (off + i) ++ ws ++ cs.toList.drop (off + i + ws.length) := by
  intro ws
  induction ws with
  | nil => intro i off cs h; simp
  | cons v ws ih =>
    intro i off cs h
    simp only [List.length_cons] at h
    rw [List.zipIdx_cons, List.foldl_cons, ih (i + 1) off _ (by simp; omega)]
    simp only [Array.toList_setIfInBounds, List.length_cons]
    rw [List.take_set, List.drop_set_of_lt (by omega)]
    have hlt : off + i < cs.toList.length := by simp; omega
    rw [show off + (i + 1) = off + i + 1 by omega, List.take_succ_eq_append_getElem hlt, List.set_append_right _ _ (by simp; omega)]
    simp only [List.length_take, Array.length_toList]
    rw [show off + i - min (off + i) cs.size = 0 by omega]
    simp [show off + i + 1 + ws.length = off + i + (ws.length + 1) by omega]
theorem fill_flat (sz : Nat) : ∀ (vs : List Value) (i : Nat) (cells : Array Value), (∀ v ∈ vs, v.cells.size = sz) → cells.size = (i + vs.length) * sz →
    Instr.fill (fun i => some (i * sz, sz)) cells ((List.range' i vs.length).zip vs) = some ((cells.toList.take (i * sz) ++ vs.flatMap fun v => v.cells.toList).toArray) := by
  intro vs
  induction vs with
  | nil =>
    intro i cells _ hs
    simp only [List.length_nil, Nat.add_zero] at hs
    simp only [List.length_nil, List.range'_zero, List.zip_nil_left, Instr.fill, List.flatMap_nil, List.append_nil, Option.some.injEq]
    apply Array.ext'
    rw [List.take_of_length_le (by simp [hs])]
  | cons v vs ih =>
    intro i cells hv hs
    have h1 := hv v (by simp)
    have hfit : i * sz + sz ≤ cells.size := by
      rw [hs]
      have : (i + 1) * sz ≤ (i + (v :: vs).length) * sz := Nat.mul_le_mul_right _ (by simp)
      rw [Nat.add_mul, Nat.one_mul] at this
      exact this
    simp only [List.length_cons, List.range'_succ, List.zip_cons_cons, Instr.fill, h1]
    rw [if_neg (by simp; omega)]
    have hf := set_fold v.cells.toList 0 (i * sz) cells (by simp [h1]; omega)
    have hfa : (v.cells.zipIdx.foldl (fun cs (x : Value × Nat) => cs.setIfInBounds (i * sz + x.2) x.1) cells) = (cells.toList.take (i * sz) ++ v.cells.toList ++ cells.toList.drop (i * sz + sz)).toArray := by
      apply Array.ext'
      rw [← Array.foldl_toList, Array.toList_zipIdx]
      simpa [h1] using hf
    rw [hfa, ih (i + 1) _ (fun u hu => hv u (by simp [hu])) (by
      simp only [List.size_toArray, List.length_append, List.length_take, List.length_drop, Array.length_toList, h1]
      rw [show (i + 1 + vs.length) * sz = cells.size by rw [hs]; simp [Nat.add_comm, Nat.add_left_comm]]
      omega)]
    congr 1
    apply Array.ext'
    have hl : (cells.toList.take (i * sz) ++ v.cells.toList).length = (i + 1) * sz := by
      simp only [List.length_append, List.length_take, Array.length_toList, h1, Nat.add_mul, Nat.one_mul]
      omega
    rw [List.append_assoc, ← List.append_assoc (cells.toList.take (i * sz)), List.take_append_of_le_length (by omega), List.take_of_length_le (by omega)]
    simp
theorem callKey (hB : BOk P B) {o : Oper} {ρ : Env} {w : World} {k : Value → World → Prop} {kp : List PanicEntry → World → Prop} {f : Operand} {args : Array Operand} {tys : Array TypeId} {g : Nat} {first cap : Array Value}
    (ho : o.op = .call { callee := .value f, args := args, argTypes := tys }) (hf : ρ.ev f = .func (.func g) first cap) (hb : B g = true)
    (hc : Calls P g (callA first args ρ cap) w (Ret (fun v w' => Dec (T o.type) v fun v => k v w') kp)) : Upon P k kp ((execOp ρ.ev o).run P w) := by
  rw [callA_eq] at hc
  obtain ⟨fn, hfn, hbody, hname⟩ := hB g hb
  have hr : (execOp ρ.ev o).run P w = .ok (.enter g (first ++ args.map ρ.ev ++ cap)) w := by
    have h1 : (callFunc g (first ++ args.map ρ.ev ++ cap)).run P w = .ok (.enter g (first ++ args.map ρ.ev ++ cap)) w := by
      have hp : (program : Sem Program).run P w = .ok P w := rfl
      simp only [callFunc, Sem.run_bind, hp, Result.andThen_ok, hfn, hname, hbody, Bool.false_eq_true, if_false]
      rfl
    simp only [execOp, ho, resolve, hf, Deferred.ofValue, Sem.run_bind, Sem.run_pure, Result.andThen_ok, invoke]
    exact h1
  rw [hr]
  refine hc.mono fun e w' hR => ?_
  cases e with
  | returned v =>
    have hR' : Dec (T o.type) v fun v => k v w' := hR
    exact Dec_elim hR'
  | panicked ch => exact hR
  | outgrown => exact hR

theorem effP_sound (hT : TOk P T) (hB : BOk P B) {o : Oper} {ρ : Env} {w : World} {k : Value → World → Prop} {kp : List PanicEntry → World → Prop}
    (h : effP P T B o.op o.type ρ w k kp) : Upon P k kp ((execOp ρ.ev o).run P w) := by
  unfold effP at h
  split at h
  case h_1 t x y t' ho =>
    split at h
    · rename_i q a q' b hx hy
      split at h
      · rename_i hq
        subst hq
        obtain ⟨hb, hk⟩ := h
        refine Upon.value (v := .int q (q.wrap (a.tdiv b))) ?_ hk
        simp [execOp, ho, hx, hy, eqGuard, binOp, Op.intDiv, hb]
      · exact h.elim
    · exact h.elim
  case h_2 t x y t' ho =>
    split at h
    · rename_i q a q' b hx hy
      split at h
      · rename_i hq
        subst hq
        obtain ⟨hb, hk⟩ := h
        refine Upon.value (v := .int q (a.tmod b)) ?_ hk
        simp [execOp, ho, hx, hy, eqGuard, binOp, Op.intDiv, hb]
      · exact h.elim
    · exact h.elim
  case h_3 op t x y t' _ _ ho =>
    obtain ⟨v, w', hr, hk⟩ := h
    exact Upon.of (by simp only [execOp, ho]) hr (Dec_elim hk)
  case h_4 x ho =>
    split at h
    · rename_i p hx
      obtain ⟨a, rfl, hk⟩ := h
      exact Upon.value (w' := w) (v := .pointer (some a)) (by simp [execOp, ho, hx]) hk
    · exact h.elim
  case h_5 op t x ho =>
    obtain ⟨v, w', hr, hk⟩ := h
    exact Upon.of (by simp only [execOp, ho]) hr (Dec_elim hk)
  case h_6 src dst x ho =>
    obtain ⟨v, w', hr, hk⟩ := h
    exact Upon.of (by simp only [execOp, ho]) hr (Dec_elim hk)
  case h_7 x i ho =>
    split at h
    · rename_i vs hx
      split at h
      · rename_i v hv
        exact Upon.of (w' := w) (v := v) (s := Instr.extract (ρ.ev x) i) (by simp only [execOp, ho]) (by simp [Instr.extract, hx, hv]) (Dec_elim h)
      · exact h.elim
    · exact h.elim
  case h_8 t ho =>
    split at h
    · obtain ⟨v, w', hr, hk⟩ := h
      exact Upon.of (by simp only [execOp, ho]) hr hk
    · exact h.elim
    · rename_i tk hne hnt ht
      refine Upon.of (w' := w.alloc (.cells tk.zero.cells t)) (v := .pointer (some ⟨w.heap.size, 0, none⟩)) (s := Instr.alloc t true (.tuple #[])) (by simp only [execOp, ho]) ?_ h
      have hz : ∃ s, pinfo P t = some (some tk.zero, s) := by
        have hs := hT t tk ht
        cases tk <;> simp only [TSpec] at hs
        case int => exact ⟨_, hs.2⟩
        case bool => exact ⟨_, hs.2⟩
        case str => exact ⟨_, hs.2⟩
        case slice => exact ⟨_, hs.2.1⟩
        case ptr => exact ⟨_, hs.2⟩
        case fn => exact ⟨_, hs.2⟩
        case opaque1 => exact absurd rfl hne
        case agg => exact ⟨_, hs.2.1⟩
        case arr => exact ⟨_, hs.2.2.1⟩
        case tup => exact absurd rfl (hnt _)
      obtain ⟨s, hz⟩ := hz
      simp only [Instr.alloc, Sem.run_bind, run_zeroValue' hz w, Result.andThen_ok]
      simp [newVar, newRow]
    · exact h.elim
  case h_9 t x ho =>
    refine Upon.of (w' := w.alloc (.cells (ρ.ev x).cells t)) (v := .pointer (some ⟨w.heap.size, 0, none⟩)) (s := Instr.box t (ρ.ev x)) (by simp only [execOp, ho]) ?_ h
    simp [Instr.box, newVar, newRow]
  case h_10 t x ho =>
    split at h
    · rename_i a ha
      split at h
      · rename_i sz fs zs ht
        obtain ⟨cs, hsz, hc, hk⟩ := h
        obtain ⟨⟨fa, hu, _, _⟩, hp, _⟩ := hT t _ ht
        refine Upon.of (w' := w) (v := .agg cs) (s := Instr.loadAt t (ρ.ev x)) (by simp only [execOp, ho]) ?_ hk
        simp only [Instr.loadAt, ha, Instr.sureAddr, Sem.run_bind, Sem.run_pure, Result.andThen_ok]
        exact run_loadVar_agg hu hp rfl hsz hc
      · rename_i n e sz zs ht
        obtain ⟨cs, hsz, hc, hk⟩ := h
        obtain ⟨hu, _, hp, _⟩ := hT t _ ht
        refine Upon.of (w' := w) (v := .agg cs) (s := Instr.loadAt t (ρ.ev x)) (by simp only [execOp, ho]) ?_ hk
        simp only [Instr.loadAt, ha, Instr.sureAddr, Sem.run_bind, Sem.run_pure, Result.andThen_ok]
        exact run_loadVar_agg hu hp rfl hsz hc
      · exact h.elim
      · rename_i tk hn1 hn2 hn3 ht
        obtain ⟨v, hc, hk⟩ := h
        have hone : tk.one = true := by
          cases tk <;> first | rfl | exact absurd rfl (hn1 _ _ _) | exact absurd rfl (hn2 _ _ _ _) | exact absurd rfl (hn3 _)
        refine Upon.of (w' := w) (v := v) (s := Instr.loadAt t (ρ.ev x)) (by simp only [execOp, ho]) ?_ (Dec_elim hk)
        simp only [Instr.loadAt, ha, Instr.sureAddr, Sem.run_bind, Sem.run_pure, Result.andThen_ok]
        exact run_loadVar_one (hT t _ ht) hone hc
      · exact h.elim
    · exact h.elim
  case h_11 t x y ho =>
    split at h
    · rename_i a ha
      split at h
      · rename_i sz fs zs cs ht hy
        obtain ⟨hsz, w', hr, hk⟩ := h
        obtain ⟨_, hp, _⟩ := hT t _ ht
        refine Upon.ofU (w' := w') (s := Instr.storeAt t (ρ.ev x) (ρ.ev y)) (by simp only [execOp, ho]) ?_ hk
        simp only [Instr.storeAt, ha, hy, Instr.sureAddr, Sem.run_bind, Sem.run_pure, Result.andThen_ok]
        exact run_storeVar_agg hp hsz hr
      · rename_i n e sz zs cs ht hy
        obtain ⟨hsz, w', hr, hk⟩ := h
        obtain ⟨_, _, hp, _⟩ := hT t _ ht
        refine Upon.ofU (w' := w') (s := Instr.storeAt t (ρ.ev x) (ρ.ev y)) (by simp only [execOp, ho]) ?_ hk
        simp only [Instr.storeAt, ha, hy, Instr.sureAddr, Sem.run_bind, Sem.run_pure, Result.andThen_ok]
        exact run_storeVar_agg hp hsz hr
      · exact h.elim
      · exact h.elim
      · exact h.elim
      · exact h.elim
      · exact h.elim
      · rename_i tk h4 h5 h6 ht h1 h2 h3 h7
        obtain ⟨⟨u, hc⟩, hf, hk⟩ := h
        have hone : tk.one = true := by
          cases tk <;> first | rfl | exact absurd rfl (h4 _ _ _) | exact absurd rfl (h5 _ _ _ _) | exact absurd rfl (h6 _)
        have hv3 : ∀ vs, ρ.ev y ≠ .agg vs := fun vs e => h3 _ e
        have hv2 : ∀ vs, ρ.ev y ≠ .tuple vs := fun vs e => h7 _ e
        refine Upon.ofU (w' := w.setCell a (ρ.ev y)) (s := Instr.storeAt t (ρ.ev x) (ρ.ev y)) (by simp only [execOp, ho]) ?_ hk
        simp only [Instr.storeAt, ha, Instr.sureAddr, Sem.run_bind, Sem.run_pure, Result.andThen_ok]
        refine run_storeVar_one (hT t _ ht) hone hc hf ?_ hv2 hv3
        cases hy : ρ.ev y <;> first | rfl | exact absurd hy (hv3 _)
      · exact h.elim
    · exact h.elim
  case h_12 t x f ho =>
    split at h
    · rename_i sz fs zs cs ht hx
      obtain ⟨⟨fa, hu, hfs, _⟩, _, _⟩ := hT t _ ht
      split at h
      · rename_i off ty hf
        obtain ⟨fld, hfld, rfl, rfl⟩ := fieldsAt hfs hf
        have he : execOp ρ.ev o = (do pure (.value (← Instr.field t (ρ.ev x) f))) := by simp only [execOp, ho]
        have hrun : ∀ v, (part fld.type cs fld.offset).run P w = .ok v w → (Instr.field t (ρ.ev x) f).run P w = .ok v w := by
          intro v hv
          simp [Instr.field, run_under hu, hfld, hx, asAgg, hv]
        split at h
        · rename_i sz' fs' zs' hty
          obtain ⟨⟨fa', hu', _, _⟩, hp', _⟩ := hT _ _ hty
          exact Upon.of he (hrun _ (run_part_agg hu' hp' rfl cs _ w)) h
        · rename_i n' e' sz' zs' hty
          obtain ⟨hu', _, hp', _⟩ := hT _ _ hty
          exact Upon.of he (hrun _ (run_part_agg hu' hp' rfl cs _ w)) h
        · exact h.elim
        · rename_i tk hn1 hn2 hn3 hty
          obtain ⟨v, hv, hk⟩ := h
          exact Upon.of he (hrun _ (run_part_one (hT _ _ hty) (not_tup hn1 hn2 hn3) hv w)) (Dec_elim hk)
        · exact h.elim
      · exact h.elim
    · exact h.elim
  case h_13 t x i ho =>
    split at h
    · rename_i q i' hi
      split at h
      · rename_i e sz A n c ht hx
        obtain ⟨a, rfl, h0, h1, hk⟩ := h
        obtain ⟨hu, _, z, hz⟩ := hT t _ ht
        refine Upon.of (w' := w) (v := .pointer (some (a.add (i'.toNat * sz)))) (s := Instr.indexAt t (ρ.ev x) (ρ.ev i)) (by simp only [execOp, ho]) ?_ hk
        simp [Instr.indexAt, hx, hi, asIntOf, run_under hu, h0, h1, run_sizeOf' hz]
      · rename_i n e sz zs a ht hx
        obtain ⟨h0, h1, hk⟩ := h
        obtain ⟨hu, ⟨z, hz⟩, _⟩ := hT t _ ht
        refine Upon.of (w' := w) (v := .pointer (some (a.add (i'.toNat * sz)))) (s := Instr.indexAt t (ρ.ev x) (ρ.ev i)) (by simp only [execOp, ho]) ?_ hk
        simp [Instr.indexAt, hx, hi, asIntOf, run_under hu, h0, h1, run_sizeOf' hz, Instr.sureAddr]
      · exact h.elim
    · exact h.elim
  case h_14 t x i ho =>
    split at h
    · rename_i q i' hi
      split at h
      · rename_i s ht hx
        obtain ⟨h0, b, hb, hk⟩ := h
        obtain ⟨hu, _⟩ := hT t _ ht
        refine Upon.of (w' := w) (v := .int .u8 b.toNat) (s := Instr.index t (ρ.ev x) (ρ.ev i)) (by simp only [execOp, ho]) ?_ hk
        simp [Instr.index, hx, hi, asIntOf, run_under hu, h0, hb]
      · rename_i n e sz zs cs ht hx
        obtain ⟨hu, ⟨z, hz⟩, _⟩ := hT t _ ht
        have he : execOp ρ.ev o = (do pure (.value (← Instr.index t (ρ.ev x) (ρ.ev i)))) := by simp only [execOp, ho]
        have hrun : 0 ≤ i' → i' < (n : Int) → ∀ v, (part e cs (i'.toNat * sz)).run P w = .ok v w → (Instr.index t (ρ.ev x) (ρ.ev i)).run P w = .ok v w := by
          intro h0 h1 v hv
          simp [Instr.index, hi, hx, asIntOf, run_under hu, h0, h1, run_sizeOf' hz, hv]
        split at h
        · rename_i sz' fs' zs' hty
          obtain ⟨h0, h1, hk⟩ := h
          obtain ⟨⟨fa', hu', _, _⟩, hp', _⟩ := hT _ _ hty
          obtain rfl : sz' = sz := by rw [hz] at hp'; simp at hp'; exact hp'.2.symm
          exact Upon.of he (hrun h0 h1 _ (run_part_agg hu' hp' rfl cs _ w)) hk
        · rename_i n' e' sz' zs' hty
          obtain ⟨h0, h1, hk⟩ := h
          obtain ⟨hu', _, hp', _⟩ := hT _ _ hty
          obtain rfl : n' * sz' = sz := by rw [hz] at hp'; simp at hp'; exact hp'.2.symm
          exact Upon.of he (hrun h0 h1 _ (run_part_agg hu' hp' rfl cs _ w)) hk
        · exact h.elim
        · rename_i tk hn1 hn2 hn3 hty
          obtain ⟨h0, h1, v, hv, hk⟩ := h
          exact Upon.of he (hrun h0 h1 _ (run_part_one (hT _ _ hty) (not_tup hn1 hn2 hn3) hv w)) (Dec_elim hk)
        · exact h.elim
      · exact h.elim
    · exact h.elim
  case h_15 t x lo hi ho =>
    split at h
    · rename_i e sz A n c ht hx
      obtain ⟨hu, _, z, hz⟩ := hT t _ ht
      obtain ⟨l, hh, hb, hk⟩ := sliceP_spec (P := P) h w true
      refine Upon.of (w' := w) (v := .slice (sliceAddr A l c sz) (hh - l) (c - l)) (s := Instr.sliceAt t (ρ.ev x) (lo.map ρ.ev) (hi.map ρ.ev) none) (by simp only [execOp, ho]; rfl) ?_ hk
      simp [Instr.sliceAt, Instr.slice, hx, run_under hu, hb, run_sizeOf' hz, sliceAddr]
    · rename_i s ht hx
      obtain ⟨hu, _⟩ := hT t _ ht
      obtain ⟨l, hh, hb, hk⟩ := sliceP_spec (P := P) h w false
      refine Upon.of (w' := w) (v := .string (s.extract l hh)) (s := Instr.sliceAt t (ρ.ev x) (lo.map ρ.ev) (hi.map ρ.ev) none) (by simp only [execOp, ho]; rfl) ?_ hk
      simp [Instr.sliceAt, Instr.slice, hx, run_under hu, hb]
    · obtain ⟨v, w', hr, hk⟩ := h
      exact Upon.of (by simp only [execOp, ho]; rfl) hr hk
    · obtain ⟨v, w', hr, hk⟩ := h
      exact Upon.of (by simp only [execOp, ho]; rfl) hr hk
    · exact h.elim
  case h_16 t parts ho =>
    obtain ⟨v, w', hr, hk⟩ := h
    rw [mapA_eq] at hr
    exact Upon.of (by simp only [execOp, ho]) hr (Dec_elim hk)
  case h_17 t len parts ho =>
    split at h
    · rename_i e sz ht
      obtain ⟨hu, _, z, hz⟩ := hT t _ ht
      cases hc : (parts.toList.map (·.1) == List.range len) && Nat.ble (len * sz) 16777216 with
      | false => rw [hc] at h; exact h.elim
      | true =>
        rw [hc] at h
        obtain ⟨hsz, hk⟩ := h
        simp only [Bool.and_eq_true, beq_iff_eq, Nat.ble_eq] at hc
        obtain ⟨hidx, hle⟩ := hc
        refine Upon.of (w' := w.alloc (.cells (flat (parts.toList.map fun x => ρ.ev x.2)) e)) (v := .slice (some ⟨w.heap.size, 0, none⟩) len len) (s := Instr.buildSlice t len (parts.map fun (i, x) => (i, ρ.ev x))) (by simp only [execOp, ho]) ?_ hk
        have hcells : ∀ (zero : Array Value), (Instr.fill (fun i => some (i * sz, sz)) ((Array.range (len * sz)).map (zero[· % zero.size]!)) (parts.map fun (i, x) => (i, ρ.ev x)).toList) = some (flat (parts.toList.map fun x => ρ.ev x.2)) := by
          intro zero
          have hl : parts.toList.length = len := by have := congrArg List.length hidx; simpa using this
          have hz' : (parts.map fun (i, x) => (i, ρ.ev x)).toList = (List.range' 0 (parts.toList.map fun x => ρ.ev x.2).length).zip (parts.toList.map fun x => ρ.ev x.2) := by
            rw [List.length_map, hl, ← List.range_eq_range', ← hidx, Array.toList_map, List.zip_map', ]
          rw [hz', fill_flat sz _ 0 _ hsz (by simp [hl])]
          simp [flat]
        simp only [Instr.buildSlice, Sem.run_bind, run_under hu, Result.andThen_ok, run_sizeOf' hz w]
        have hn : ¬ (len * sz > 2 ^ 24) := by omega
        simp only [hn, if_false]
        have hcells' := hcells
        by_cases h0 : len * sz = 0
        · simp only [h0, if_true, Sem.run_bind, Sem.run_pure, Result.andThen_ok]
          have := hcells #[]
          rw [h0] at this
          simp only [this]
          simp [newRow]
        · simp only [h0, if_false, Sem.run_bind, run_zeroValue' hz w, Sem.run_pure, Result.andThen_ok]
          simp only [hcells z.cells]
          simp [newRow]
    · exact h.elim
  case h_18 t l c ho =>
    obtain ⟨v, w', hr, hk⟩ := h
    exact Upon.of (by simp only [execOp, ho]) hr (Dec_elim hk)
  case h_19 t x ho =>
    obtain ⟨v, w', hr, hk⟩ := h
    exact Upon.of (by simp only [execOp, ho]) hr hk
  case h_20 t x ho =>
    obtain ⟨v, w', hr, hk⟩ := h
    exact Upon.of (by simp only [execOp, ho]) hr hk
  case h_21 x ho =>
    split at h
    · rename_i t u hx
      have hr : (execOp ρ.ev o).run P w = .halt (.panic (.iface t u)) w := by
        simp [execOp, ho, Instr.panic, hx, goPanic]
      rw [hr]
      exact h
    · exact h.elim
  case h_22 x xt t ok ho =>
    obtain ⟨v, w', hr, hk⟩ := h
    exact Upon.of (by simp only [execOp, ho]) hr (Dec_elim hk)
  case h_23 t m i x ho =>
    obtain ⟨w', hr, hk⟩ := h
    exact Upon.ofU (by simp only [execOp, ho]) hr hk
  case h_24 t m i x ho =>
    obtain ⟨w', hr, hk⟩ := h
    exact Upon.ofU (by simp only [execOp, ho]) hr hk
  case h_25 args tys ho =>
    obtain ⟨v, w', hr, hk⟩ := h
    refine Upon.value (w' := w') (v := v) ?_ hk
    rw [mapA_eq] at hr
    simp [execOp, ho, resolve, invoke, builtin, hr]
  case h_26 args tys ho =>
    obtain ⟨v, w', hr, hk⟩ := h
    refine Upon.value (w' := w') (v := v) ?_ hk
    rw [mapA_eq] at hr
    simp [execOp, ho, resolve, invoke, builtin, hr]
  case h_27 t x i ok ho =>
    obtain ⟨v, w', hr, hk⟩ := h
    exact Upon.of (by simp only [execOp, ho]) hr (Dec_elim hk)
  case h_28 args tys ho =>
    obtain ⟨v, w', hr, hk⟩ := h
    refine Upon.value (w' := w') (v := v) ?_ (Dec_elim hk)
    rw [mapA_eq] at hr
    simp [execOp, ho, resolve, invoke, builtin, hr]
  case h_29 g args tys ho =>
    cases hb : B g with
    | false => rw [hb] at h; exact h.elim
    | true =>
      rw [hb] at h
      exact callKey hB ho rfl hb h
  case h_30 f args tys _ ho =>
    split at h
    · rename_i g first cap hf
      exact callKey hB ho hf h.1 h.2
    · rename_i l first cap hf
      obtain ⟨h0, fn, tmps, assign, body, w', hy, hR⟩ := h
      have h00 : first = #[] := Array.eq_empty_of_size_eq_zero h0
      subst h00
      rw [mapA_eq] at hy
      have hr : (execOp ρ.ev o).run P w = .ok (.round l fn tmps assign body) w' := by
        simp [execOp, ho, resolve, hf, Deferred.ofValue, Sem.run_bind, Sem.run_pure, Result.andThen_ok, invoke, hy]
      rw [hr]
      refine hR.mono fun e w'' hR' => ?_
      cases e with
      | returned v =>
        have hR'' : Dec (T o.type) v fun v => k v w'' := hR'
        exact Dec_elim hR''
      | panicked ch => exact hR'
      | outgrown => exact hR'
    · exact h.elim
  case h_31 => exact h.elim
end
end Go.GX
