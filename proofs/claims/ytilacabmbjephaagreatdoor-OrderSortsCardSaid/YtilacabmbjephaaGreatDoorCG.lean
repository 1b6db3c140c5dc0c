/- Contracts: reading a node with any chooser. -/
import Derived.Test.YtilacabmbjephaaGreatDoorCR
namespace Go.Proofs.YtilacabmbjephaaGreatDoor
open Go Go.GX
set_option linter.unusedVariables false
set_option linter.unusedSimpArgs false

/-! ## What is read, as data -/
abbrev Span := Int × Int × Int
abbrev Stop := Int × Int
structure St where
  spans : List Span
  outs : List Int
def most : Nat := 1099511627776
def chooseP (ch : Nat → Nat → Option (Except Stop Int)) (node : Nat) (st : St) : Option (Except Stop (Int × St)) :=
  if st.outs.length < most then
    match ch st.outs.length node with
    | some (.ok c) => some (.ok (c, { st with outs := st.outs ++ [c] }))
    | some (.error e) => some (.error e)
    | none => none
  else none
def setEnd (l : List Span) (i : Nat) (e : Int) : List Span := l.set i ((l.getD i (0, 0, 0)).1, (l.getD i (0, 0, 0)).2.1, e)
def seqP (rd : Nat → St → Option (Except Stop (Val × St))) (begin : Nat) : List Int → List Val → St → Option (Except Stop (List Val × St))
  | [], vs, st => some (.ok (vs, st))
  | k :: ks, vs, st =>
    if 0 ≤ k ∧ st.spans.length < most then
      match rd k.toNat { st with spans := st.spans ++ [((begin : Int), ((st.outs.length : Nat) : Int), 0)] } with
      | some (.ok (v, st')) => if st.spans.length < st'.spans.length ∧ st'.outs.length < most then seqP rd begin ks (vs ++ [v]) { st' with spans := setEnd st'.spans st.spans.length (st'.outs.length : Nat) } else none
      | some (.error e) => some (.error e)
      | none => none
    else none
def intB (n : Int) : Bool := decide (-9223372036854775808 ≤ n) && decide (n ≤ 9223372036854775807)
theorem intB_ok {n : Int} (h : intB n = true) : intOk n := by
  simp only [intB, Bool.and_eq_true, decide_eq_true_eq] at h
  exact h
def readP (T : List Nod) (ch : Nat → Nat → Option (Except Stop Int)) : Nat → Nat → St → Option (Except Stop (Val × St))
  | 0, _, _ => none
  | f + 1, node, st => match T[node]? with
    | none => none
    | some x =>
      if x.kind = 1 then match chooseP ch node st with
        | some (.ok (c, st')) => if intB (x.lo + c) = true then some (.ok (.mk 0 (x.lo + c) ⟨#[]⟩ [], st')) else none
        | some (.error e) => some (.error e)
        | none => none
      else if x.kind = 2 then match chooseP ch node st with
        | some (.ok (c, st')) => if 0 ≤ c ∧ c < x.kids.length ∧ 0 ≤ x.kids.getD c.toNat 0 then readP T ch f (x.kids.getD c.toNat 0).toNat st' else none
        | some (.error e) => some (.error e)
        | none => none
      else if x.kind = 3 then
        if x.kids.length ≤ most ∧ st.outs.length < most then match seqP (readP T ch f) st.outs.length x.kids [] st with
          | some (.ok (vs, st')) => some (.ok (madeV x vs, st'))
          | some (.error e) => some (.error e)
          | none => none
        else none
      else if x.kind = 4 then none
      else some (.ok (x.value, st))

/-! ## How it lies in memory -/
def spanK : Kd Span where
  sz := 3
  R := fun _ _ cs d => cs = #[.int .i64 d.1, .int .i64 d.2.1, .int .i64 d.2.2] ∧ intOk d.1 ∧ intOk d.2.1 ∧ intOk d.2.2
  pos := by omega
  len := fun h => by rw [h.1]; rfl
  one := fun h v hv => by rw [h.1] at hv; simp at hv; rcases hv with rfl | rfl | rfl <;> rfl
  ext := fun h _ _ => h
theorem elSpan : ElT Tryz.prog spanK 68 168 24 := .of (by kernel_rfl)
theorem elVal : ElT Tryz.prog valK 43 45 56 := .of (by kernel_rfl)

/-- A reader: its block, the tree's nodes, its chooser, the blocks that may change (X), the heap's size when reading began (b1). -/
structure Rd where
  g : Nat
  TA : Option Addr
  tc : Nat
  nodes : List Nod
  cf : Nat
  ccap : Array Value
  X : Nat → Prop
  b1 : Nat
def blk (D : Rd) (SA : Option Addr) (BC : Nat → Prop) : Nat → Prop := fun k => k = D.g ∨ own SA k ∨ BC k
abbrev Mem := List Int → (Nat → Prop) → World → Prop
structure Cfg (D : Rd) (CJ : Mem) (st : St) (w : World) (SA : Option Addr) (sc : Nat) (BC : Nat → Prop) : Prop where
  c0 : w.cell? ⟨D.g, 0, none⟩ = some (.slice D.TA D.nodes.length D.tc)
  c1 : w.cell? ⟨D.g, 1, none⟩ = some (.func (.func D.cf) #[] D.ccap)
  c2 : w.cell? ⟨D.g, 2, none⟩ = some (.int .i64 (st.outs.length : Nat))
  c3 : w.cell? ⟨D.g, 3, none⟩ = some (.slice SA st.spans.length sc)
  fr : ∀ j, w.frozen? ⟨D.g, j, none⟩ = false
  sp : OwnR spanK 168 D.b1 No w SA st.spans.length sc st.spans
  cj : CJ st.outs BC w
  nd : SlR nodeK D.X w D.TA D.nodes.length D.tc D.nodes
  gX : D.X D.g
  bX : ∀ k, BC k → D.X k
  lt : ∀ k, BC k → k < w.heap.size
  g1 : D.g < D.b1
  X1 : ∀ k, D.b1 ≤ k → D.X k
  ne : ¬ BC D.g
  dj : ∀ k, own SA k → ¬ BC k
  b1 : D.b1 ≤ w.heap.size
/-- The chooser's memory abides what happens elsewhere. -/
def MemOk (D : Rd) (CJ : Mem) : Prop := ∀ outs BC w w' Y, CJ outs BC w → D.b1 ≤ w.heap.size → Ext Y w w' → (∀ k, k < w.heap.size → Y k → D.X k ∧ ¬ BC k) → CJ outs BC w'

section
variable {D : Rd} {CJ : Mem} {st : St} {w w' : World} {SA : Option Addr} {sc : Nat} {BC Y : Nat → Prop}
theorem Cfg.blkX (h : Cfg D CJ st w SA sc BC) : ∀ k, blk D SA BC k → D.X k := by
  rintro k (rfl | hk | hk)
  · exact h.gX
  · exact h.X1 _ (h.sp.lt k hk).1
  · exact h.bX k hk
theorem Cfg.blkLt (h : Cfg D CJ st w SA sc BC) : ∀ k, blk D SA BC k → k < w.heap.size := by
  rintro k (rfl | hk | hk)
  · exact Nat.lt_of_lt_of_le h.g1 h.b1
  · exact (h.sp.lt k hk).2
  · exact h.lt k hk
theorem Cfg.gOwn (h : Cfg D CJ st w SA sc BC) : ¬ own SA D.g := fun ho => by have := (h.sp.lt _ ho).1; have := h.g1; omega
theorem Cfg.ext (hM : MemOk D CJ) (h : Cfg D CJ st w SA sc BC) (hE : Ext Y w w') (hY : ∀ k, k < w.heap.size → Y k → D.X k ∧ ¬ blk D SA BC k) : Cfg D CJ st w' SA sc BC := by
  have hg : D.g < w.heap.size := h.blkLt _ (.inl rfl)
  have ng : ¬ Y D.g := fun hy => (hY _ hg hy).2 (.inl rfl)
  refine ⟨hE.cell h.c0 ng, hE.cell h.c1 ng, hE.cell h.c2 ng, hE.cell h.c3 ng, fun j => (hE.frozen hg ng).trans (h.fr j), ?_, ?_, ?_, h.gX, h.bX, fun k hk => Nat.lt_of_lt_of_le (h.lt k hk) hE.size, h.g1, h.X1, h.ne, h.dj, Nat.le_trans h.b1 hE.size⟩
  · obtain ⟨css, hr, ha⟩ := h.sp.ex
    have hs : OwnR spanK 168 D.b1 Y w SA st.spans.length sc st.spans := ⟨h.sp.len, css, hr, ha.mono fun cs d hR => hR⟩
    have hs' := hs.ext hE (fun k _ hy => hy) fun k hk hy => (hY k (h.sp.lt k hk).2 hy).2 (.inr (.inl hk))
    obtain ⟨css', hr', ha'⟩ := hs'.ex
    exact ⟨hs'.len, css', hr', ha'.mono fun cs d hR => hR⟩
  · exact hM _ _ _ _ _ h.cj h.b1 hE fun k hk hy => ⟨(hY k hk hy).1, fun hb => (hY k hk hy).2 (.inr (.inr hb))⟩
  · refine (h.nd.ext (hE.mono (Y := D.X) fun k hk hy => (hY k hk hy).1) (Upd.same _ _))
theorem Cfg.ext0 (hM : MemOk D CJ) (h : Cfg D CJ st w SA sc BC) (hE : Ext No w w') : Cfg D CJ st w' SA sc BC := h.ext hM hE fun _ _ hy => hy.elim
theorem Cfg.node (h : Cfg D CJ st w SA sc BC) {i : Nat} {x : Nod} (hx : D.nodes[i]? = some x) :
    ∃ a cs, D.TA = some a ∧ cs.size = 12 ∧ NodeR D.X w cs x ∧ CellsAt w (a.add (i * 12)) cs ∧ ¬ D.X a.block := by
  have hi : i < D.nodes.length := (List.getElem?_eq_some_iff.1 hx).1
  obtain ⟨a, cs, hA, hn, hR, hc⟩ := h.nd.at_ i hi
  have hxe : D.nodes[i] = x := (List.getElem?_eq_some_iff.1 hx).2
  rw [hxe] at hR
  exact ⟨a, cs, hA, nodeK.len hR, hR, hc, hn⟩
end

/-- The chooser's contract. -/
def ChOk (D : Rd) (CJ : Mem) (ch : Nat → Nat → Option (Except Stop Int)) : Prop :=
  B D.cf = true ∧ ∀ st w SA sc BC node r, Cfg D CJ st w SA sc BC → node < D.nodes.length → st.outs.length < most → ch st.outs.length node = some r →
    Calls Tryz.prog D.cf (callV #[] [.int .i64 (node : Nat)] D.ccap) w (Ret
      (fun v w' => ∃ c BC', r = .ok c ∧ v = .int .i64 c ∧ Upd BC BC' w ∧ (∀ k, BC' k → k < w'.heap.size) ∧ Ext BC w w' ∧ CJ (st.outs ++ [c]) BC' w')
      (fun chn w' => ∃ nd er, r = .error (nd, er) ∧ chn = [{ v := .iface 76 (.agg #[.int .i64 nd, .int .i64 er]), recovered := false }] ∧ Ext BC w w'))

section
variable {D : Rd} {CJ : Mem} {ch : Nat → Nat → Option (Except Stop Int)}

theorem choice_ok (hM : MemOk D CJ) (hch : ChOk D CJ ch) {st : St} {w : World} {SA : Option Addr} {sc : Nat} {BC : Nat → Prop} {node : Nat} {r : Except Stop (Int × St)}
    (hC : Cfg D CJ st w SA sc BC) (hn : node < D.nodes.length) (hr : chooseP ch node st = some r) :
    Calls Tryz.prog 127 #[.pointer (some ⟨D.g, 0, none⟩), .int .i64 (node : Nat)] w (Ret
      (fun v w' => ∃ c st' BC', r = .ok (c, st') ∧ v = .int .i64 c ∧ Cfg D CJ st' w' SA sc BC' ∧ Upd (blk D SA BC) (blk D SA BC') w ∧ Ext (blk D SA BC) w w')
      (fun chn w' => ∃ nd er, r = .error (nd, er) ∧ chn = [{ v := .iface 76 (.agg #[.int .i64 nd, .int .i64 er]), recovered := false }] ∧ Ext (blk D SA BC) w w')) := by
  have hlt : st.outs.length < most := by
    unfold chooseP at hr
    split at hr
    · assumption
    · cases hr
  unfold chooseP at hr
  rw [if_pos hlt] at hr
  have hex : ∃ r0, ch st.outs.length node = some r0 := by
    cases h : ch st.outs.length node with
    | none => rw [h] at hr; cases hr
    | some r0 => exact ⟨r0, rfl⟩
  obtain ⟨r0, hr0⟩ := hex
  rw [hr0] at hr
  apply c127
  unfold m127
  refine ⟨_, rfl, _, by rw [addr0]; exact hC.c1, _, _, _, rfl, hch.1, ?_⟩
  refine (hch.2 st w SA sc BC node r0 hC hn hlt hr0).mono fun e w1 hR => ?_
  cases e with
  | outgrown => exact hR
  | panicked chn =>
    obtain ⟨nd, er, rfl, rfl, hE⟩ := hR
    simp only [Option.some.injEq] at hr
    exact ⟨nd, er, hr.symm, rfl, hE.mono fun k _ hk => .inr (.inr hk)⟩
  | returned v =>
    obtain ⟨c, BC', rfl, rfl, hU, hl, hE, hcj⟩ := hR
    simp only [Option.some.injEq] at hr
    have hgs : D.g < w.heap.size := hC.blkLt _ (.inl rfl)
    have hng : ¬ BC D.g := hC.ne
    have hng' : ¬ BC' D.g := fun h => by
      rcases hU _ h with h | h
      · exact hng h
      · omega
    have e2 := hE.cell hC.c2 hng
    have hE2 : Ext (blk D SA BC) w w1 := hE.mono fun k _ hk => .inr (.inr hk)
    have hw1 : IntKind.i64.wrap (((st.outs.length : Nat) : Int) + 1) = (((st.outs ++ [c]).length : Nat) : Int) := by
      unfold most at hlt
      rw [wrap_id ⟨by omega, by omega⟩]
      simp
    refine ⟨_, rfl, _, rfl, _, by rw [addr0]; exact e2, _, rfl, _, rfl, ⟨_, by rw [addr0]; exact e2⟩, by rw [addr0]; exact (hE.frozen hgs hng).trans (hC.fr 2), ?_⟩
    rw [hw1, addr0]
    have hE3 : Ext (fun k => k = D.g) w1 (w1.setCell ⟨D.g, 2, none⟩ (.int .i64 (((st.outs ++ [c]).length : Nat) : Int))) := (Ext.refl _ _).setCell _ fun _ => rfl
    refine ⟨c, _, BC', hr.symm, rfl, ?_, ?_, hE2.setCell _ fun _ => .inl rfl⟩
    · have oth : ∀ j v, j ≠ 2 → w.cell? ⟨D.g, j, none⟩ = some v → (w1.setCell ⟨D.g, 2, none⟩ (.int .i64 (((st.outs ++ [c]).length : Nat) : Int))).cell? ⟨D.g, j, none⟩ = some v := fun j v hj hc => by
        rw [World.cell?_setCell_other _ _ _ _ (by intro e; injection e with _ e _; exact hj e.symm)]
        exact hE.cell hc hng
      have hX1 : ∀ k, k < w1.heap.size → (fun k => k = D.g) k → D.X k := fun k _ hk => by rw [hk]; exact hC.gX
      refine ⟨oth 0 _ (by omega) hC.c0, oth 1 _ (by omega) hC.c1, ?_, oth 3 _ (by omega) hC.c3, fun j => ?_, ?_, ?_, ?_, hC.gX, ?_, ?_, hC.g1, hC.X1, hng', ?_, ?_⟩
      · rw [World.cell?_setCell_same' _ _ _ (by rw [e2]; rfl)]
      · rw [World.frozen?_setCell]; exact (hE.frozen hgs hng).trans (hC.fr j)
      · have s1 : OwnR spanK 168 D.b1 BC w SA st.spans.length sc st.spans := by
          obtain ⟨css, h1, h2⟩ := hC.sp.ex
          exact ⟨hC.sp.len, css, h1, h2.mono fun cs d hR => hR⟩
        have s2 := s1.ext hE (fun k _ hy => hy) hC.dj
        have s3 : OwnR spanK 168 D.b1 (fun k => k = D.g) w1 SA st.spans.length sc st.spans := by
          obtain ⟨css, h1, h2⟩ := s2.ex
          exact ⟨s2.len, css, h1, h2.mono fun cs d hR => hR⟩
        have s4 := s3.ext hE3 (fun k _ hy => hy) fun k hk hy => by
          have hy' : k = D.g := hy
          rw [hy'] at hk
          exact hC.gOwn hk
        obtain ⟨css, h1, h2⟩ := s4.ex
        exact ⟨s4.len, css, h1, h2.mono fun cs d hR => hR⟩
      · exact hM _ _ _ _ _ hcj (Nat.le_trans hC.b1 hE.size) hE3 fun k hk hy => by
          have hy' : k = D.g := hy
          rw [hy']
          exact ⟨hC.gX, hng'⟩
      · exact (hC.nd.ext (hE.mono (Y := D.X) fun k _ hk => hC.bX k hk) (Upd.same _ _)).ext (hE3.mono (Y := D.X) hX1) (Upd.same _ _)
      · intro k hk
        rcases hU k hk with h | h
        · exact hC.bX k h
        · exact hC.X1 k (Nat.le_trans hC.b1 h)
      · intro k hk
        have := hl k hk
        simpa [World.setCell] using this
      · intro k hk hk2
        rcases hU k hk2 with h | h
        · exact hC.dj k hk h
        · have := (hC.sp.lt k hk).2
          omega
      · have := Nat.le_trans hC.b1 hE.size
        simpa [World.setCell] using this
    · rintro k (h | h | h)
      · exact .inl (.inl h)
      · exact .inl (.inr (.inl h))
      · rcases hU k h with h | h
        · exact .inl (.inr (.inr h))
        · exact .inr h
end
end Go.Proofs.YtilacabmbjephaaGreatDoor
