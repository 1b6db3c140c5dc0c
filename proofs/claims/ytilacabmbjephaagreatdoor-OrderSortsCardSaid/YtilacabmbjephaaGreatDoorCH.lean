/- Contracts: reading a node with any chooser: the walk. -/
import Derived.Test.YtilacabmbjephaaGreatDoorCG
namespace Go.Proofs.YtilacabmbjephaaGreatDoor
open Go Go.GX
set_option linter.unusedVariables false
set_option linter.unusedSimpArgs false

/-! ## A box that is written later -/
theorem setRow_ext (w : World) (g : Nat) (cs : Array Value) : Ext (fun k => k = g) w (w.setRow g cs) :=
  ⟨rfl, rfl, rfl, by simp, fun j _ hj => setRow_other w g j _ fun e => hj e⟩
theorem setRow_new {w : World} {g : Nat} {z cs : Array Value} {t : TypeId} (hg : w.heap[g]? = some (.cells z t)) : (w.setRow g cs).heap[g]? = some (.cells cs t) := setRow_heap w g z cs t _ hg
theorem row_cells {w : World} {g : Nat} {cs : Array Value} {t : TypeId} (hg : w.heap[g]? = some (.cells cs t)) : CellsAt w ⟨g, 0, none⟩ cs := fun j v hj => by
  rw [addr0, cell_of_row _ g j cs t (0, 0) hg]
  exact hj
theorem store_box {P : Program} {w : World} {g : Nat} {z cs : Array Value} {t : TypeId} (hg : w.heap[g]? = some (.cells z t)) (hs : z.size = cs.size) (h1 : ∀ v ∈ cs.toList, v.oneCell' = true) {k : World → Prop}
    (hk : k (w.setRow g cs)) : RunU P (storeCells ⟨g, 0, none⟩ cs.toList) w k := by
  have hst := run_storeCells_at (P := P) g 0 t cs.toList 0 z w hg (by simp [hs]) h1
  refine ⟨_, hst, ?_⟩
  have : (z.toList.take (0 + 0) ++ cs.toList ++ z.toList.drop (0 + 0 + cs.toList.length)).toArray = cs := by
    have : z.toList.drop (0 + 0 + cs.toList.length) = [] := List.drop_of_length_le (by simp [hs])
    rw [this]
    simp
  rw [this]
  exact hk

/-- What a value that was read does not lie in: the blocks that may change and that stood when reading began; those that the reader holds. -/
def exc (D : Rd) (n : Nat) (SA : Option Addr) (BC : Nat → Prop) : Nat → Prop := fun k => (D.X k ∧ k < n) ∨ blk D SA BC k
def RdQ (D : Rd) (CJ : Mem) (w : World) (SA : Option Addr) (BC : Nat → Prop) (r : Except Stop (Val × St)) : Ending → World → Prop := Ret
  (fun v w' => ∃ vl st' res SA' sc' BC', r = .ok (vl, st') ∧ v = .agg res ∧ ValR (exc D w.heap.size SA' BC') w' res vl ∧ Cfg D CJ st' w' SA' sc' BC' ∧ Upd (blk D SA BC) (blk D SA' BC') w ∧ Ext (blk D SA BC) w w')
  (fun chn w' => ∃ nd er, r = .error (nd, er) ∧ chn = [{ v := .iface 76 (.agg #[.int .i64 nd, .int .i64 er]), recovered := false }] ∧ Ext (blk D SA BC) w w')

section
variable {D : Rd} {CJ : Mem} {ch : Nat → Nat → Option (Except Stop Int)}
theorem ret_box (hM : MemOk D CJ) {w w3 : World} {SA SA' : Option Addr} {sc' n2 : Nat} {BC BC' : Nat → Prop} {st' : St} {vl : Val} {res z : Array Value} (hz : z.size = 4)
    (hb : w3.heap[w.heap.size]? = some (.cells z 45)) (hC : Cfg D CJ st' w3 SA' sc' BC') (hnb : ¬ blk D SA' BC' w.heap.size) (hX : D.X w.heap.size) (hn2 : w.heap.size < n2)
    (hV : ValR (exc D n2 SA' BC') w3 res vl) (hU : Upd (blk D SA BC) (blk D SA' BC') w) (hE : Ext (blk D SA BC) w w3) {k : World → Prop}
    (hk : ∀ w4, CellsAt w4 ⟨w.heap.size, 0, none⟩ res → RdQ D CJ w SA BC (.ok (vl, st')) (.returned (.agg res)) w4 → k w4) :
    RunU Tryz.prog (storeCells ⟨w.heap.size, 0, none⟩ res.toList) w3 k := by
  have hsz := hV.size
  refine store_box hb (by rw [hz, hsz]) (valK.one hV) (hk _ (row_cells (setRow_new hb)) ?_)
  have hE4 := setRow_ext w3 w.heap.size res
  refine ⟨vl, st', res, SA', sc', BC', rfl, rfl, ?_, ?_, hU, ?_⟩
  · refine (hV.ext (hE4.mono (Y := exc D n2 SA' BC') fun k _ hk => ?_) (Upd.same _ _)).ext (Ext.refl _ _) ?_
    · have hk' : k = w.heap.size := hk
      rw [hk']
      exact .inl ⟨hX, hn2⟩
    · rintro k (⟨h1, h2⟩ | h)
      · exact .inl (.inl ⟨h1, Nat.lt_trans h2 hn2⟩)
      · exact .inl (.inr h)
  · exact hC.ext hM hE4 fun k _ hk => by
      have hk' : k = w.heap.size := hk
      rw [hk']
      exact ⟨hX, hnb⟩
  · exact hE.trans' hE4 fun k hk hy => by
      have hy' : k = w.heap.size := hy
      omega
theorem kid_bound {x : Nod} (h : x.kids.length ≤ most) : ∀ i, i < x.kids.length → i < most := fun i hi => Nat.lt_of_lt_of_le hi h

theorem build45i (n : Int) (w : World) : (Instr.build 45 #[(1, .int .i64 n)]).run Tryz.prog w = .ok (.agg #[.int .i64 0, .int .i64 n, .string ⟨#[]⟩, .slice none 0 0]) w := by kernel_rfl
theorem build168 (a b c : Int) (w : World) : (Instr.build 168 #[(0, .int .i64 a), (1, .int .i64 b), (2, .int .i64 c)]).run Tryz.prog w = .ok (.agg #[.int .i64 a, .int .i64 b, .int .i64 c]) w := by kernel_rfl

/-- The reader's list of spans has a new row. -/
theorem Cfg.span (hM : MemOk D CJ) {st : St} {w w1 : World} {SA SA2 : Option Addr} {sc c2 : Nat} {BC : Nat → Prop} {sp2 : List Span} (hC : Cfg D CJ st w SA sc BC) (hE : Ext (own SA) w w1)
    (hO : OwnR spanK 168 D.b1 No w1 SA2 sp2.length c2 sp2) (hf : ∀ k, own SA2 k → own SA k ∨ w.heap.size ≤ k) :
    Cfg D CJ ⟨sp2, st.outs⟩ (w1.setCell ⟨D.g, 3, none⟩ (.slice SA2 sp2.length c2)) SA2 c2 BC ∧ Ext (blk D SA BC) w (w1.setCell ⟨D.g, 3, none⟩ (.slice SA2 sp2.length c2)) ∧ Upd (blk D SA BC) (blk D SA2 BC) w := by
  have hgs : D.g < w.heap.size := hC.blkLt _ (.inl rfl)
  have hng := hC.gOwn
  have hE3 : Ext (fun k => k = D.g) w1 (w1.setCell ⟨D.g, 3, none⟩ (.slice SA2 sp2.length c2)) := (Ext.refl _ _).setCell _ fun _ => rfl
  have hE2 : Ext (blk D SA BC) w w1 := hE.mono fun k _ hk => .inr (.inl hk)
  have e3 := hE.cell hC.c3 hng
  have oth : ∀ j v, j ≠ 3 → w.cell? ⟨D.g, j, none⟩ = some v → (w1.setCell ⟨D.g, 3, none⟩ (.slice SA2 sp2.length c2)).cell? ⟨D.g, j, none⟩ = some v := fun j v hj hc => by
    rw [World.cell?_setCell_other _ _ _ _ (by intro e; injection e with _ e _; exact hj e.symm)]
    exact hE.cell hc hng
  have hng2 : ¬ own SA2 D.g := fun h => by
    rcases hf _ h with h | h
    · exact hng h
    · omega
  have oX : ∀ k, own SA k → D.X k := fun k hk => hC.blkX k (.inr (.inl hk))
  refine ⟨⟨oth 0 _ (by omega) hC.c0, oth 1 _ (by omega) hC.c1, oth 2 _ (by omega) hC.c2, ?_, fun j => ?_, ?_, ?_, ?_, hC.gX, hC.bX, ?_, hC.g1, hC.X1, hC.ne, ?_, ?_⟩, hE2.setCell _ fun _ => .inl rfl, ?_⟩
  · rw [World.cell?_setCell_same' _ _ _ (by rw [e3]; rfl)]
  · rw [World.frozen?_setCell]; exact (hE.frozen hgs hng).trans (hC.fr j)
  · have s3 : OwnR spanK 168 D.b1 (fun k => k = D.g) w1 SA2 sp2.length c2 sp2 := by
      obtain ⟨css, h1, h2⟩ := hO.ex
      exact ⟨hO.len, css, h1, h2.mono fun cs d hR => hR⟩
    have s4 := s3.ext hE3 (fun k _ hy => hy) fun k hk hy => by
      have hy' : k = D.g := hy
      rw [hy'] at hk
      exact hng2 hk
    obtain ⟨css, h1, h2⟩ := s4.ex
    exact ⟨s4.len, css, h1, h2.mono fun cs d hR => hR⟩
  · refine hM _ _ _ _ _ (hM _ _ _ _ _ hC.cj hC.b1 hE fun k _ hk => ⟨oX k hk, hC.dj k hk⟩) (Nat.le_trans hC.b1 hE.size) hE3 fun k _ hk => ?_
    have hk' : k = D.g := hk
    rw [hk']
    exact ⟨hC.gX, hC.ne⟩
  · exact (hC.nd.ext (hE.mono (Y := D.X) fun k _ hk => oX k hk) (Upd.same _ _)).ext (hE3.mono (Y := D.X) fun k _ hk => by
      have hk' : k = D.g := hk
      rw [hk']
      exact hC.gX) (Upd.same _ _)
  · intro k hk
    have := Nat.lt_of_lt_of_le (hC.lt k hk) hE.size
    simpa [World.setCell] using this
  · intro k hk hb
    rcases hf k hk with h | h
    · exact hC.dj k h hb
    · have := hC.lt k hb; omega
  · have := Nat.le_trans hC.b1 hE.size
    simpa [World.setCell] using this
  · rintro k (h | h | h)
    · exact .inl (.inl h)
    · exact (hf k h).imp (fun h => .inr (.inl h)) id
    · exact .inl (.inr (.inr h))
/-- The reader's list of spans has changed in its row. -/
theorem Cfg.spanSet (hM : MemOk D CJ) {st : St} {w w1 : World} {SA : Option Addr} {sc : Nat} {BC : Nat → Prop} {sp2 : List Span} (hC : Cfg D CJ st w SA sc BC) (hE : Ext (own SA) w w1)
    (hl : sp2.length = st.spans.length) (hO : OwnR spanK 168 D.b1 No w1 SA sp2.length sc sp2) : Cfg D CJ ⟨sp2, st.outs⟩ w1 SA sc BC := by
  have hgs : D.g < w.heap.size := hC.blkLt _ (.inl rfl)
  have hng := hC.gOwn
  have oX : ∀ k, own SA k → D.X k := fun k hk => hC.blkX k (.inr (.inl hk))
  refine ⟨hE.cell hC.c0 hng, hE.cell hC.c1 hng, hE.cell hC.c2 hng, ?_, fun j => (hE.frozen hgs hng).trans (hC.fr j), hO, hM _ _ _ _ _ hC.cj hC.b1 hE fun k _ hk => ⟨oX k hk, hC.dj k hk⟩,
    hC.nd.ext (hE.mono (Y := D.X) fun k _ hk => oX k hk) (Upd.same _ _), hC.gX, hC.bX, fun k hk => Nat.lt_of_lt_of_le (hC.lt k hk) hE.size, hC.g1, hC.X1, hC.ne, hC.dj, Nat.le_trans hC.b1 hE.size⟩
  show w1.cell? _ = some (.slice SA sp2.length sc)
  rw [hl]
  exact hE.cell hC.c3 hng
theorem flat_agg (cs : Array Value) : flat [.agg cs] = cs := by simp [flat, Value.cells]

set_option maxHeartbeats 1000000 in
theorem seq_ok (hM : MemOk D CJ) {rd : Nat → St → Option (Except Stop (Val × St))}
    (hrd : ∀ (node : Nat) (st : St) (w : World) (SA : Option Addr) (sc : Nat) (BC : Nat → Prop) (r : Except Stop (Val × St)),
      Cfg D CJ st w SA sc BC → rd node st = some r → Calls Tryz.prog 73 #[.pointer (some ⟨D.g, 0, none⟩), .int .i64 (node : Nat)] w (RdQ D CJ w SA BC r))
    {w2 : World} {b b2 : Addr} {kids : List Int} {A4 : Option Addr} {c4 : Nat} (h4 : SlR intK D.X w2 A4 kids.length c4 kids) (hlen : kids.length ≤ most) {st : St} {SA : Option Addr} {sc : Nat} {BC : Nat → Prop}
    (hC : Cfg D CJ st w2 SA sc BC) (hol : st.outs.length < most) {r0 : Except Stop (List Val × St)} (hs : seqP rd st.outs.length kids [] st = some r0) {R : Ending → World → Prop}
    (hpan : ∀ nd er w', r0 = .error (nd, er) → Ext (blk D SA BC) w2 w' → R (.panicked [{ v := .iface 76 (.agg #[.int .i64 nd, .int .i64 er]), recovered := false }]) w')
    (hfin : ∀ vs st' w' A' c' SA' sc' BC', r0 = .ok (vs, st') → Cfg D CJ st' w' SA' sc' BC' → Upd (blk D SA BC) (blk D SA' BC') w2 → Ext (blk D SA BC) w2 w' →
      SlR valK (exc D w2.heap.size SA' BC') w' A' kids.length c' vs → m73_K1 R b b2 A' kids.length c' w') :
    ∃ s97 : StOf m73_S1, [.slice (none) (0) (0), .int .i64 (0)] = encOf m73_S1 s97 ∧
      LoopP (fun again s wl => ∀ _r : Env, m73_B1 R (some ⟨D.g, 0, none⟩) b b2 ((st.outs.length : Nat) : Int) A4 kids.length c4 (((kids.length : Nat) : Int)) again (s.1.1) (s.1.2.1) (s.1.2.2) (s.2.1) wl) s97 w2 := by
  refine ⟨(((none : Option Addr), 0, 0), (0 : Int), ()), rfl, fun m s w' => ∃ (i : Nat) (A' : Option Addr) (c' : Nat) (vs : List Val) (stc : St) (SAc : Option Addr) (scc : Nat) (BCc : Nat → Prop), s = ((A', i, c'), (i : Int), ()) ∧ i ≤ kids.length ∧ m = kids.length - i ∧
      seqP rd st.outs.length (kids.drop i) vs stc = some r0 ∧ Cfg D CJ stc w' SAc scc BCc ∧ Upd (blk D SA BC) (blk D SAc BCc) w2 ∧ Ext (blk D SA BC) w2 w' ∧ stc.outs.length < most ∧
      OwnR valK 45 w2.heap.size (exc D w2.heap.size SAc BCc) w' A' i c' vs ∧ ∀ k, own A' k → ¬ blk D SAc BCc k,
    ⟨kids.length, 0, none, 0, [], st, SA, sc, BC, rfl, by omega, by omega, hs, hC, Upd.same _ _, Ext.refl _ _, hol, OwnR.nil _ _ _ _ _, fun k hk => absurd hk (own_none k)⟩, ?_⟩
  rintro m s w' ⟨i, A', c', vs, stc, SAc, scc, BCc, rfl, hi, rfl, hsq, hCc, hUc, hEc, holc, hO, hdj⟩ _r
  simp only [m73_B1]
  by_cases hlt : i < kids.length
  · rw [if_pos (by simp; omega)]
    have hdrop : kids.drop i = kids[i] :: kids.drop (i + 1) := List.drop_eq_getElem_cons hlt
    have hgd : kids.getD i 0 = kids[i] := by simp [List.getD_eq_getElem?_getD, hlt]
    rw [hdrop] at hsq
    unfold seqP at hsq
    split at hsq
    case isFalse => cases hsq
    rename_i hk
    obtain ⟨hk0, hsl⟩ := hk
    obtain ⟨p, hp, hpc, _⟩ := (h4.ext (hEc.mono (Y := D.X) fun k _ hk => hC.blkX k hk) (Upd.same _ _)).int i hlt
    rw [hgd] at hpc
    refine ⟨p, hp, by omega, by omega, _, by rw [Int.toNat_natCast]; exact hpc, _, rfl, _, rfl, _, by rw [addr0]; exact hCc.c3, _, _, _, rfl, ?_⟩
    have hd : Ext No w' w'.drew := (Ext.refl No w').drew
    have hCd := hCc.ext0 hM hd
    have hgs : D.g < w'.drew.heap.size := hCd.blkLt _ (.inl rfl)
    refine ⟨fun w'' => w''.cell? ⟨D.g, 3, none⟩ = some (.slice SAc stc.spans.length scc) ∧ w''.cell? ⟨D.g, 2, none⟩ = some (.int .i64 (stc.outs.length : Nat)), ⟨hCd.c3, hCd.c2⟩, _, rfl, _, fun w'' h => by rw [addr0]; exact h.1, _, _, _, rfl,
      _, rfl, _, fun w'' h => by rw [addr0]; exact h.2, _, rfl, _, fun w'' => build168 _ _ _ w'', _, rfl, by intro v hv; simp at hv; subst hv; rfl, ?_⟩
    have hEa : Ext No w'.drew (w'.drew.alloc (.cells (flat [.agg #[.int .i64 ((st.outs.length : Nat) : Int), .int .i64 ((stc.outs.length : Nat) : Int), .int .i64 0]]) 168)) := (Ext.refl No _).alloc _
    refine ⟨⟨hEa.cell hCd.c3 (fun h => h), hEa.cell hCd.c2 (fun h => h)⟩, ?_⟩
    have hio : ∀ n : Nat, n < most → intOk ((n : Nat) : Int) := fun n hn => by unfold most at hn; constructor <;> omega
    refine hCd.sp.push' elSpan (flat_agg _) (x := (((st.outs.length : Nat) : Int), ((stc.outs.length : Nat) : Int), (0 : Int))) ⟨rfl, hio _ hol, hio _ holc, show intOk 0 by constructor <;> decide⟩ hCd.b1 (by unfold most at hsl; simp [maxLen]; omega) (by unfold most at hsl; omega) fun SA2 sc2 w3 hE3 hO3 hf3 => ?_
    have hng : ¬ own SAc D.g := hCc.gOwn
    have hc3 := hE3.cell hCd.c3 hng
    refine ⟨_, _, _, rfl, ⟨hc3, hE3.cell hCd.c2 hng⟩, _, rfl, ⟨_, by rw [addr0]; exact hc3⟩, by rw [addr0]; exact (hE3.frozen hgs hng).trans (hCd.fr 3), fun _ => True, trivial, ?_⟩
    have hln : stc.spans.length + 1 = (stc.spans ++ [(((st.outs.length : Nat) : Int), ((stc.outs.length : Nat) : Int), (0 : Int))]).length := by simp
    rw [hln] at hO3 ⊢
    rw [addr0]
    obtain ⟨hC4, hE4, hU4⟩ := hCd.span hM hE3 hO3 hf3
    generalize w3.setCell ⟨D.g, 3, none⟩ (.slice SA2 (stc.spans ++ [(((st.outs.length : Nat) : Int), ((stc.outs.length : Nat) : Int), (0 : Int))]).length sc2) = w4 at hC4 hE4
    have hEc4 : Ext (blk D SA BC) w2 w4 := (hEc.trans hd.no).trans' hE4 fun k hk hb => by
      rcases hUc k hb with h | h
      · exact h
      · exact absurd hk (Nat.not_lt.2 h)
    have hUc4 : Upd (blk D SA BC) (blk D SA2 BCc) w2 := fun k hk => by
      rcases hU4 k hk with h | h
      · exact hUc k h
      · exact .inr (Nat.le_trans (hEc.trans hd.no).size h)
    have hO4 : OwnR valK 45 w2.heap.size (exc D w2.heap.size SAc BCc) w4 A' i c' vs := (hO.ext0 hd).ext hE4 (fun k _ hk => .inr hk) fun k hk hb => hdj k hk hb
    have hdj4 : ∀ k, own A' k → ¬ blk D SA2 BCc k := fun k hk hb => by
      rcases hU4 k hb with h | h
      · exact hdj k hk h
      · have h1 := (hO.lt k hk).2
        exact absurd h1 (Nat.not_lt.2 h)
    have hO4' : OwnR valK 45 w2.heap.size (fun k => exc D w2.heap.size SA2 BCc k ∨ w4.heap.size ≤ k) w4 A' i c' vs := by
      have h1 : OwnR valK 45 w2.heap.size (fun k => exc D w2.heap.size SAc BCc k ∨ w'.drew.heap.size ≤ k) w'.drew A' i c' vs := (hO.ext0 hd).weak fun k hk => hk.elim .inl fun h => .inr (.inr h)
      have h2 := h1.ext hE4 (fun k _ hk => .inl (.inr hk)) fun k hk hb => hdj k hk hb
      refine h2.weak fun k hk => ?_
      rcases hk with (h | h) | h
      · exact .inl (.inl (.inl h))
      · rcases hU4 k h with h | h
        · exact .inl (.inl (.inr h))
        · exact .inl (.inr h)
      · exact .inr (.inr h)
    have hkid : kids[i] = ((kids[i].toNat : Nat) : Int) := (Int.toNat_of_nonneg hk0).symm
    rw [hkid]
    cases hr1 : rd kids[i].toNat ⟨stc.spans ++ [(((st.outs.length : Nat) : Int), ((stc.outs.length : Nat) : Int), (0 : Int))], stc.outs⟩ with
    | none => rw [hr1] at hsq; cases hsq
    | some r1 =>
    rw [hr1] at hsq
    refine (hrd _ _ _ _ _ _ _ hC4 hr1).mono fun e w5 hQ => ?_
    cases e with
    | outgrown => exact hQ
    | panicked chn =>
      obtain ⟨nd, er, rfl, rfl, hE⟩ := hQ
      simp only [Option.some.injEq] at hsq
      exact hpan nd er w5 hsq.symm (hEc4.trans' hE fun k hk hb => by
        rcases hUc4 k hb with h | h
        · exact h
        · exact absurd hk (Nat.not_lt.2 h))
    | returned v =>
      obtain ⟨vl, st5, res, SA5, sc5, BC5, rfl, rfl, hV5, hC5, hU5, hE5⟩ := hQ
      simp only [] at hsq
      split at hsq
      case isFalse => cases hsq
      rename_i hg
      obtain ⟨hg1, hg2⟩ := hg
      refine ⟨_, rfl, by intro v hv; simp at hv; subst hv; exact hV5.size, ?_⟩
      have hEc5 : Ext (blk D SA BC) w2 w5 := hEc4.trans' hE5 fun k hk hb => by
        rcases hUc4 k hb with h | h
        · exact h
        · exact absurd hk (Nat.not_lt.2 h)
      have hUc5 : Upd (blk D SA BC) (blk D SA5 BC5) w2 := fun k hk => by
        rcases hU5 k hk with h | h
        · exact hUc4 k h
        · exact .inr (Nat.le_trans hEc4.size h)
      have hO5 : OwnR valK 45 w2.heap.size (exc D w2.heap.size SA5 BC5) w5 A' i c' vs := by
        have h2 := hO4'.ext hE5 (fun k _ hk => .inl (.inr hk)) fun k hk hb => hdj4 k hk hb
        refine h2.weak fun k hk => ?_
        rcases hk with h | h
        · exact .inl (.inl (.inl h))
        · rcases hU5 k h with h | h
          · exact .inl (.inl (.inr h))
          · exact .inl (.inr h)
      have hdj5 : ∀ k, own A' k → ¬ blk D SA5 BC5 k := fun k hk hb => by
        rcases hU5 k hb with h | h
        · exact hdj4 k hk h
        · have h1 := (hO4.lt k hk).2
          exact absurd h1 (Nat.not_lt.2 h)
      have hR5 : ValR (Or' (exc D w2.heap.size SA5 BC5) (own A')) w5 res vl := by
        refine hV5.ext (Ext.refl _ _) fun k hk => ?_
        rcases hk with (⟨h, h'⟩ | h) | h
        · exact .inl (.inl ⟨h, Nat.lt_of_lt_of_le h' hEc4.size⟩)
        · exact .inl (.inr h)
        · have h1 := hO4.lt k h
          exact .inl (.inl ⟨hC.X1 k (Nat.le_trans hC.b1 h1.1), h1.2⟩)
      refine hO5.push' elVal (flat_agg res) hR5 hEc5.size (by unfold most at hlen; simp [maxLen]; omega) (by unfold most at hlen; omega) fun A6 c6 w6 hE6 hO6 hf6 => ?_
      have hd6 : Ext No w6 w6.drew := (Ext.refl No w6).drew
      have oX : ∀ k, own A' k → D.X k := fun k hk => hC.X1 k (Nat.le_trans hC.b1 (hO5.lt k hk).1)
      have hC6 : Cfg D CJ st5 w6.drew SA5 sc5 BC5 := (hC5.ext hM hE6 fun k _ hk => ⟨oX k hk, hdj5 k hk⟩).ext0 hM hd6
      have hO6d := hO6.ext0 hd6
      have hdj6 : ∀ k, own A6 k → ¬ blk D SA5 BC5 k := fun k hk hb => by
        rcases hf6 k hk with h | h
        · exact hdj5 k h hb
        · have := hC5.blkLt k hb; omega
      refine ⟨_, _, _, rfl, fun w'' => w''.cell? ⟨D.g, 3, none⟩ = some (.slice SA5 st5.spans.length sc5) ∧ w''.cell? ⟨D.g, 2, none⟩ = some (.int .i64 (st5.outs.length : Nat)), ⟨hC6.c3, hC6.c2⟩, _, rfl, _, fun w'' h => by rw [addr0]; exact h.1, _, _, _, rfl,
        _, rfl, _, fun w'' h => by rw [addr0]; exact h.2, _, rfl, ?_⟩
      obtain ⟨a8, cs8, hA8, ⟨d8, hd8, hR8⟩, hc8, hfr8, hst8⟩ := hC6.sp.at stc.spans.length hg1
      obtain ⟨hcs8, hi8⟩ := hR8
      have hstore := hst8 2 (.int .i64 ((st5.outs.length : Nat) : Int)) (d8.1, d8.2.1, ((st5.outs.length : Nat) : Int)) (by show 2 < 3; omega) ⟨by rw [hcs8]; rfl, hi8.1, hi8.2.1, hio _ hg2⟩
      obtain ⟨hO7, hE7⟩ := hstore
      refine ⟨a8, hA8, by omega, by omega, by omega, by omega, ⟨_, by rw [Int.toNat_natCast]; exact hc8 2 _ (by rw [hcs8]; rfl)⟩, by rw [Int.toNat_natCast]; exact hfr8 2, fun _ => True, trivial,
        ((A6, i + 1, c6), ((i + 1 : Nat) : Int), ()), by unfold most at hlen; rw [wrap_id ⟨by omega, by omega⟩]; rfl, kids.length - (i + 1), by omega, ?_⟩
      have hset : st5.spans.set stc.spans.length (d8.1, d8.2.1, ((st5.outs.length : Nat) : Int)) = setEnd st5.spans stc.spans.length ((st5.outs.length : Nat) : Int) := by
        simp only [setEnd, List.getD_eq_getElem?_getD, hd8, Option.getD_some]
      rw [Int.toNat_natCast]
      rw [hset] at hO7
      have hl7 : (setEnd st5.spans stc.spans.length ((st5.outs.length : Nat) : Int)).length = st5.spans.length := by simp [setEnd]
      have hO7' : OwnR spanK 168 D.b1 No (w6.drew.setCell ((a8.add (stc.spans.length * 3)).add 2) (.int .i64 ((st5.outs.length : Nat) : Int))) SA5 (setEnd st5.spans stc.spans.length ((st5.outs.length : Nat) : Int)).length sc5 (setEnd st5.spans stc.spans.length ((st5.outs.length : Nat) : Int)) := by
        rw [hl7]; exact hO7
      have hC7 := hC6.spanSet hM hE7 hl7 hO7'
      have hE56 : Ext (blk D SA BC) w2 w6.drew := (hEc5.trans' hE6 fun k hk ho => by
        have := (hO5.lt k ho).1
        omega).trans hd6.no
      refine ⟨i + 1, A6, c6, vs ++ [vl], _, SA5, sc5, BC5, rfl, by omega, rfl, hsq, hC7, hUc5, hE56.trans' hE7 fun k hk ho => ?_, hg2, ?_, hdj6⟩
      · rcases hUc5 k (.inr (.inl ho)) with h | h
        · exact h
        · exact absurd hk (Nat.not_lt.2 h)
      · exact hO6d.ext hE7 (fun k _ ho => .inr (.inr (.inl ho))) fun k hk ho => hdj6 k hk (.inr (.inl ho))
  · rw [if_neg (by simp; omega)]
    obtain rfl : i = kids.length := by omega
    rw [List.drop_of_length_le (Nat.le_refl _)] at hsq
    simp only [seqP, Option.some.injEq] at hsq
    refine hfin vs stc w' A' c' SAc scc BCc hsq.symm hCc hUc hEc (hO.sl' (fun k hk => .inl hk) fun k hk hx => ?_)
    rcases hx with ⟨_, h⟩ | h
    · have := (hO.lt k hk).1; omega
    · exact hdj k hk h

theorem read_ok (hM : MemOk D CJ) (hch : ChOk D CJ ch) : ∀ (f node : Nat) (st : St) (w : World) (SA : Option Addr) (sc : Nat) (BC : Nat → Prop) (r : Except Stop (Val × St)),
    Cfg D CJ st w SA sc BC → readP D.nodes ch f node st = some r → Calls Tryz.prog 73 #[.pointer (some ⟨D.g, 0, none⟩), .int .i64 (node : Nat)] w (RdQ D CJ w SA BC r) := by
  intro f
  induction f with
  | zero => intro node st w SA sc BC r hC hr; cases hr
  | succ f ih =>
  intro node st w SA sc BC r hC hr
  unfold readP at hr
  cases hx : D.nodes[node]? with
  | none => rw [hx] at hr; cases hr
  | some x =>
  rw [hx] at hr
  simp only [] at hr
  have hnode : node < D.nodes.length := (List.getElem?_eq_some_iff.1 hx).1
  obtain ⟨a, cs, hTA, hcsz, hR, hcells, hna⟩ := hC.node hx
  apply c73
  unfold m73
  have hE1 : Ext No w (w.alloc (.cells #[.int .i64 0, .int .i64 0, .string ⟨#[]⟩, .slice none 0 0] 45)) := (Ext.refl No w).alloc _
  have hb1 : (w.alloc (.cells #[.int .i64 0, .int .i64 0, .string ⟨#[]⟩, .slice none 0 0] 45)).heap[w.heap.size]? = some (.cells #[.int .i64 0, .int .i64 0, .string ⟨#[]⟩, .slice none 0 0] 45) := heap_alloc_new w _
  have hs1 : w.heap.size < (w.alloc (.cells #[.int .i64 0, .int .i64 0, .string ⟨#[]⟩, .slice none 0 0] 45)).heap.size := by simp
  generalize w.alloc (.cells #[.int .i64 0, .int .i64 0, .string ⟨#[]⟩, .slice none 0 0] 45) = w1 at hE1 hb1 hs1
  refine ⟨_, rfl, _, hE1.cell hC.c0 (fun h => h), _, _, _, rfl, a, hTA, by omega, by omega, cs, hcsz, by rw [Int.toNat_natCast]; exact hE1.cells hcells (fun h => h), hcsz, ?_⟩
  refine box_store w1 _ cs 74 (by rw [hcsz]; rfl) (nodeK.one hR) ?_
  have hE2 : Ext No w1 (w1.alloc (.cells cs 74)) := (Ext.refl No w1).alloc _
  have bX : ∀ Y w', Ext Y (w1.alloc (.cells cs 74)) w' → ¬ Y w1.heap.size → ∀ j v, cs[j]? = some v → w'.cell? ((⟨w1.heap.size, 0, none⟩ : Addr).add j) = some v := fun Y w' h hY j v hj => by
    rw [h.box hY j]
    exact hj
  have hs2 : w1.heap.size < (w1.alloc (.cells cs 74)).heap.size := by simp
  generalize w1.alloc (.cells cs 74) = w2 at hE2 bX hs2
  have hw2 := hE1.trans hE2
  have hR2 : NodeR D.X w2 cs x := NodeR.ext hR hw2.no (Upd.same _ _)
  have hC2 := hC.ext0 hM hw2
  have hb2 : w2.heap[w.heap.size]? = some (.cells #[.int .i64 0, .int .i64 0, .string ⟨#[]⟩, .slice none 0 0] 45) := (hE2.block _ hs1 (fun h => h)).trans hb1
  have hXw : D.X w.heap.size := hC.X1 _ hC.b1
  have hXw1 : D.X w1.heap.size := hC.X1 _ (Nat.le_trans hC.b1 hE1.size)
  have hnb : ∀ {SA' BC'} {wx : World}, w2.heap.size ≤ wx.heap.size → Upd (blk D SA BC) (blk D SA' BC') wx → ¬ blk D SA' BC' w.heap.size ∧ ¬ blk D SA' BC' w1.heap.size := by
    intro SA' BC' wx hx hU
    constructor
    · intro h
      rcases hU _ h with h | h
      · exact Nat.lt_irrefl _ (hC.blkLt _ h)
      · omega
    · intro h
      rcases hU _ h with h | h
      · have := hC.blkLt _ h; omega
      · omega
  have hnb0 : ¬ blk D SA BC w.heap.size ∧ ¬ blk D SA BC w1.heap.size := hnb (Nat.le_refl _) (Upd.same _ _)
  have hbw : ∀ {Y} {w'}, Ext Y w2 w' → ¬ Y w.heap.size → w'.heap[w.heap.size]? = some (.cells #[.int .i64 0, .int .i64 0, .string ⟨#[]⟩, .slice none 0 0] 45) := fun hE hY => (hE.block _ (Nat.lt_trans hs1 hs2) hY).trans hb2
  have hXle : ∀ {SA' sc' BC' st'} {w'}, Cfg D CJ st' w' SA' sc' BC' → ∀ n k, exc D n SA' BC' k → D.X k := fun h n k hk => by
    rcases hk with hk | hk
    · exact hk.1
    · exact h.blkX _ hk
  have hx2 := hR2
  obtain ⟨⟨A1, c1, A2, c2, A3, c3, A4, c4, A5, c5, hcs, h1, h2, h3, h4, h5⟩, hkk, hnm, hlo, hhi, hvk, hvn, hvs⟩ := hx2
  have e0 : cs[0]? = some (.int .i64 x.kind) := by rw [hcs]; rfl
  have e2 : cs[2]? = some (.int .i64 x.lo) := by rw [hcs]; rfl
  have e7 : cs[7]? = some (.slice A4 x.kids.length c4) := by rw [hcs]; rfl
  refine ⟨_, bX _ _ (Ext.refl No _) (fun h => h) 0 _ e0, _, rfl, ?_⟩
  have hd : Ext No w2 w2.drew := (Ext.refl No w2).drew
  by_cases k1 : x.kind = 1
  · rw [if_pos (by simpa using k1)]
    rw [if_pos k1] at hr
    refine ⟨fun w' => w'.cell? ((⟨w1.heap.size, 0, none⟩ : Addr).add 2) = some (.int .i64 x.lo), bX _ _ hd (fun h => h) 2 _ e2, _, fun w' h => h, _, rfl, ?_⟩
    have hex : ∃ r0, chooseP ch node st = some r0 := by
      cases h : chooseP ch node st with
      | none => rw [h] at hr; cases hr
      | some r0 => exact ⟨r0, rfl⟩
    obtain ⟨r0, hr0⟩ := hex
    rw [hr0] at hr
    refine (choice_ok hM hch (hC2.ext0 hM hd) hnode hr0).mono fun e w3 hQ => ?_
    cases e with
    | outgrown => exact hQ
    | panicked chn =>
      obtain ⟨nd, er, rfl, rfl, hE⟩ := hQ
      simp only [Option.some.injEq] at hr
      exact ⟨nd, er, hr.symm, rfl, (hw2.trans hd).no.trans hE⟩
    | returned v =>
      obtain ⟨c, st', BC', rfl, rfl, hC3, hU3, hE3⟩ := hQ
      simp only [] at hr
      have hE3' : Ext (blk D SA BC) w2 w3 := hd.no.trans hE3
      split at hr
      · rename_i hib
        simp only [Option.some.injEq] at hr
        have hio := intB_ok hib
        refine ⟨_, rfl, bX _ _ hE3' hnb0.2 2 _ e2, _, fun w' => build45i _ w', _, rfl, rfl, ?_⟩
        rw [wrap_id hio]
        have hU3' : Upd (blk D SA BC) (blk D SA BC') w := fun k hk => (hU3 k hk).imp id fun h => Nat.le_trans (hw2.trans hd).size h
        refine ret_box (z := #[.int .i64 0, .int .i64 0, .string ⟨#[]⟩, .slice none 0 0]) (vl := .mk 0 (x.lo + c) ⟨#[]⟩ []) (st' := st') hM rfl (hbw hE3' hnb0.1) hC3 (hnb (wx := w2.drew) (Nat.le_refl _) hU3).1 hXw (n2 := w2.heap.size) (Nat.lt_trans hs1 hs2) ?_ hU3' (hw2.no.trans hE3') fun w4 hc4 hq => ⟨fun _ => True, trivial, _, rfl, hc4, ?_⟩
        · exact ValR.close (by constructor <;> decide) hio (by show (0 : Nat) ≤ _; exact Nat.zero_le _) (SlR.nil _ _ _ _ _ (by simp) fun _ => rfl)
        · rw [← hr]; exact hq
      · cases hr
  · rw [if_neg (by simpa using k1)]
    rw [if_neg k1] at hr
    by_cases k2 : x.kind = 2
    · rw [if_pos (by simpa using k2)]
      rw [if_pos k2] at hr
      have hex : ∃ r0, chooseP ch node st = some r0 := by
        cases h : chooseP ch node st with
        | none => rw [h] at hr; cases hr
        | some r0 => exact ⟨r0, rfl⟩
      obtain ⟨r0, hr0⟩ := hex
      rw [hr0] at hr
      refine ⟨fun w' => Ext (blk D SA BC) w2 w', hd.no, _, fun w' h => bX _ _ h hnb0.2 7 _ e7, _, _, _, rfl, ?_⟩
      refine (choice_ok hM hch (hC2.ext0 hM hd) hnode hr0).mono fun e w3 hQ => ?_
      cases e with
      | outgrown => exact hQ
      | panicked chn =>
        obtain ⟨nd, er, rfl, rfl, hE⟩ := hQ
        simp only [Option.some.injEq] at hr
        exact ⟨nd, er, hr.symm, rfl, (hw2.trans hd).no.trans hE⟩
      | returned v =>
        obtain ⟨c, st', BC', rfl, rfl, hC3, hU3, hE3⟩ := hQ
        simp only [] at hr
        have hE3' : Ext (blk D SA BC) w2 w3 := hd.no.trans hE3
        split at hr
        · rename_i hc
          obtain ⟨hc0, hc1, hc2⟩ := hc
          have hk4 : ∀ w', Ext (blk D SA BC) w2 w' → SlR intK D.X w' A4 x.kids.length c4 x.kids := fun w' h => h4.ext (h.mono (Y := D.X) fun k _ hk => hC.blkX k hk) (Upd.same _ _)
          obtain ⟨p, hp, _, _⟩ := (hk4 w3 hE3').int c.toNat (by omega)
          refine ⟨_, rfl, hE3', p, hp, hc0, hc1, .int .i64 (x.kids.getD c.toNat 0), fun w' h => ?_, _, rfl, ?_⟩
          · obtain ⟨p', hp', hpc, _⟩ := (hk4 w' h).int c.toNat (by omega)
            rw [hp] at hp'
            cases hp'
            exact hpc
          have hkid : x.kids.getD c.toNat 0 = (((x.kids.getD c.toNat 0).toNat : Nat) : Int) := (Int.toNat_of_nonneg hc2).symm
          rw [hkid]
          refine (ih _ st' w3 SA sc BC' r hC3 hr).mono fun e w4 hQ => ?_
          cases e with
          | outgrown => exact hQ
          | panicked chn =>
            obtain ⟨nd, er, rfl, rfl, hE⟩ := hQ
            exact ⟨nd, er, rfl, rfl, hw2.no.trans (hE3'.trans' hE fun k hk hb => by
              rcases hU3 k hb with h | h
              · exact h
              · exact absurd hk (Nat.not_lt.2 h))⟩
          | returned v =>
            obtain ⟨vl, st2, res, SA2, sc2, BC2, rfl, rfl, hV, hC4, hU4, hE4⟩ := hQ
            have hE4' : Ext (blk D SA BC) w2 w4 := hE3'.trans' hE4 fun k hk hb => by
              rcases hU3 k hb with h | h
              · exact h
              · exact absurd hk (Nat.not_lt.2 h)
            have hU4' : Upd (blk D SA BC) (blk D SA2 BC2) w2.drew := fun k hk => by
              rcases hU4 k hk with h | h
              · exact hU3 k h
              · exact .inr (Nat.le_trans hE3.size h)
            refine ⟨_, rfl, hE4', hV.size, ?_⟩
            have hw3 : w2.heap.size ≤ w3.heap.size := hE3'.size
            refine ret_box (z := #[.int .i64 0, .int .i64 0, .string ⟨#[]⟩, .slice none 0 0]) hM rfl (hbw hE4' hnb0.1) hC4 (hnb (wx := w2.drew) (Nat.le_refl _) hU4').1 hXw (n2 := w3.heap.size) (by omega) hV
              (fun k hk => (hU4' k hk).imp id fun h => Nat.le_trans (hw2.trans hd).size h) (hw2.no.trans hE4') fun w4 hc4 hq => ⟨fun _ => True, trivial, _, hV.size, hc4, hq⟩
        · cases hr
    · rw [if_neg (by simpa using k2)]
      rw [if_neg k2] at hr
      by_cases k3 : x.kind = 3
      · rw [if_pos (by simpa using k3)]
        rw [if_pos k3] at hr
        split at hr
        case isFalse => cases hr
        rename_i hkl
        have hex : ∃ r0, seqP (readP D.nodes ch f) st.outs.length x.kids [] st = some r0 := by
          cases h : seqP (readP D.nodes ch f) st.outs.length x.kids [] st with
          | none => rw [h] at hr; cases hr
          | some r0 => exact ⟨r0, rfl⟩
        obtain ⟨r0, hr0⟩ := hex
        rw [hr0] at hr
        refine ⟨_, rfl, _, by rw [addr0]; exact hC2.c2, _, rfl, _, bX _ _ (Ext.refl No _) (fun h => h) 7 _ e7, _, _, _, rfl, ?_⟩
        refine seq_ok hM ih h4 hkl.1 hC2 hkl.2 hr0 (fun nd er w' h hE => ?_) fun vs st' w' A' c' SA' sc' BC' h hC' hU' hE' hs' => ?_
        · subst h
          simp only [Option.some.injEq] at hr
          exact ⟨nd, er, hr.symm, rfl, hw2.no.trans hE⟩
        · subst h
          simp only [Option.some.injEq] at hr
          unfold m73_K1
          have hcs' : CellsAt w' ⟨w1.heap.size, 0, none⟩ cs := fun j v hj => bX _ _ hE' hnb0.2 j v hj
          refine ⟨cs, hcsz, hcs', Fin.use (made_ok cs x A' _ c' vs w' (NodeR.ext hR2 (hE'.mono (Y := D.X) fun k _ hk => hC.blkX k hk) (Upd.same _ _)) hs') fun v w6 hE6 hv => ?_⟩
          obtain ⟨res, rfl, hV⟩ := hv
          have hE6' : Ext (blk D SA BC) w2 w6 := hE'.trans hE6.no
          refine ⟨_, rfl, hV.size, ?_⟩
          refine ret_box (z := #[.int .i64 0, .int .i64 0, .string ⟨#[]⟩, .slice none 0 0]) (vl := madeV x vs) (st' := st') hM rfl (hbw hE6' hnb0.1) (hC'.ext0 hM hE6) (hnb (wx := w2) (Nat.le_refl _) hU').1 hXw (n2 := w2.heap.size) (Nat.lt_trans hs1 hs2) hV
            (fun k hk => (hU' k hk).imp id fun h => Nat.le_trans hw2.size h) (hw2.no.trans hE6') fun w4 hc4 hq => ⟨_, hV.size, hc4, ?_⟩
          rw [← hr]; exact hq
      · rw [if_neg (by simpa using k3)]
        rw [if_neg k3] at hr
        by_cases k4 : x.kind = 4
        · rw [if_pos k4] at hr
          cases hr
        · rw [if_neg (by simpa using k4)]
          rw [if_neg k4] at hr
          simp only [Option.some.injEq] at hr
          have hv8 : CellsAt w2 ((⟨w1.heap.size, 0, none⟩ : Addr).add 8) #[.int .i64 x.value.kind, .int .i64 x.value.n, .string x.value.s, .slice A5 x.value.kids.length c5] := by
            intro j v hj
            rw [add_add]
            refine bX _ _ (Ext.refl No _) (fun h => h) _ _ ?_
            rw [hcs]
            match j, hj with
            | 0, hj => exact hj
            | 1, hj => exact hj
            | 2, hj => exact hj
            | 3, hj => exact hj
            | j + 4, hj => simp at hj
          have hval : ValR D.X w2 #[.int .i64 x.value.kind, .int .i64 x.value.n, .string x.value.s, .slice A5 x.value.kids.length c5] x.value := by
            have := ValR.close hvk hvn hvs h5
            have he : x.value = .mk x.value.kind x.value.n x.value.s x.value.kids := by cases x.value; rfl
            rw [he]
            exact this
          refine ⟨_, rfl, hv8, rfl, ?_⟩
          refine ret_box (z := #[.int .i64 0, .int .i64 0, .string ⟨#[]⟩, .slice none 0 0]) hM rfl hb2 hC2 hnb0.1 hXw (n2 := w2.heap.size) (Nat.lt_trans hs1 hs2) (hval.ext (Ext.refl _ _) fun k hk => .inl (hXle hC2 _ _ hk)) (Upd.same _ _) hw2.no fun w4 hc4 hq => ⟨_, rfl, hc4, ?_⟩
          rw [← hr]; exact hq
end
end Go.Proofs.YtilacabmbjephaaGreatDoor
