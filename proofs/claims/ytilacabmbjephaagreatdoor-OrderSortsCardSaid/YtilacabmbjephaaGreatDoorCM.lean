/- Contracts: what is known of a node: its length, its size (ranges, choices, sequences). -/
import Derived.Test.YtilacabmbjephaaGreatDoorCF
namespace Go.Proofs.YtilacabmbjephaaGreatDoor
open Go Go.GX
set_option linter.unusedVariables false

/-- What is known of a node. -/
structure Fct where
  length : Int
  size : Int
  values : List Val
  known : Bool
  many : Bool
def fct0 : Fct := ⟨0, 0, [], false, false⟩
def fctK : Kd Fct where
  sz := 5
  R := fun X w cs f => ∃ A n c, cs = #[.int .i64 f.length, .int .i64 f.size, .slice A n c, .bool f.known, .bool f.many] ∧ intOk f.length ∧ intOk f.size ∧ SlR valK X w A n c f.values
  pos := by omega
  len := fun h => by obtain ⟨A, n, c, h, _⟩ := h; rw [h]; rfl
  one := fun h v hv => by
    obtain ⟨A, n, c, h, _⟩ := h
    rw [h] at hv
    simp at hv
    rcases hv with rfl | rfl | rfl | rfl | rfl <;> rfl
  ext := fun h hE hX => by
    obtain ⟨A, n, c, h, h1, h2, h3⟩ := h
    exact ⟨A, n, c, h, h1, h2, h3.ext hE hX⟩
/-- A tree: the slice of its nodes. -/
def TreeR (X : Nat → Prop) (w : World) (cs : Array Value) (t : List Nod) : Prop := ∃ A c, cs = #[.slice A t.length c] ∧ SlR nodeK X w A t.length c t
theorem TreeR.ext {X X' : Nat → Prop} {w w' : World} {cs : Array Value} {t : List Nod} (h : TreeR X w cs t) (hE : Ext X w w') (hX : Upd X X' w) : TreeR X' w' cs t := by
  obtain ⟨A, c, h, hs⟩ := h
  exact ⟨A, c, h, hs.ext hE hX⟩

section
variable {e : TypeId} {b : Nat} {X : Nat → Prop} {A : Option Addr} {n c : Nat} {w w0 : World} {fs : List Fct}
theorem fctAt (h : OwnR fctK e b X w A n c fs) (i : Nat) (hi : i < n) : ∃ a V vn vc, A = some a ∧
    w.cell? ((a.add (i * 5)).add 0) = some (.int .i64 (fs.getD i fct0).length) ∧ w.cell? ((a.add (i * 5)).add 1) = some (.int .i64 (fs.getD i fct0).size) ∧
    w.cell? ((a.add (i * 5)).add 2) = some (.slice V vn vc) ∧ w.cell? ((a.add (i * 5)).add 3) = some (.bool (fs.getD i fct0).known) ∧ w.cell? ((a.add (i * 5)).add 4) = some (.bool (fs.getD i fct0).many) ∧
    intOk (fs.getD i fct0).length ∧ intOk (fs.getD i fct0).size ∧ SlR valK (Or' X (own A)) w V vn vc (fs.getD i fct0).values ∧ (∀ j, w.frozen? ((a.add (i * 5)).add j) = false) ∧
    (∀ v, intOk v → OwnR fctK e b X (w.setCell ((a.add (i * 5)).add 0) (.int .i64 v)) A n c (fs.set i { fs.getD i fct0 with length := v }) ∧ Ext (own A) w (w.setCell ((a.add (i * 5)).add 0) (.int .i64 v))) ∧
    (∀ v, intOk v → OwnR fctK e b X (w.setCell ((a.add (i * 5)).add 1) (.int .i64 v)) A n c (fs.set i { fs.getD i fct0 with size := v }) ∧ Ext (own A) w (w.setCell ((a.add (i * 5)).add 1) (.int .i64 v))) := by
  obtain ⟨a, cs, hA, ⟨f, hf, V, vn, vc, rfl, hl, hs, hv⟩, hc, hfr, hst⟩ := h.at i hi
  have hg : fs.getD i fct0 = f := by simp [List.getD_eq_getElem?_getD, hf]
  rw [hg]
  refine ⟨a, V, vn, vc, hA, hc 0 _ rfl, hc 1 _ rfl, hc 2 _ rfl, hc 3 _ rfl, hc 4 _ rfl, hl, hs, hv, hfr, fun v hv' => hst 0 _ _ (by decide) ⟨V, vn, vc, rfl, hv', hs, hv⟩, fun v hv' => hst 1 _ _ (by decide) ⟨V, vn, vc, rfl, hl, hv', hv⟩⟩

def kidSum (g : Fct → Int) (fs : List Fct) (kids : List Int) : Int := kids.foldl (fun a k => a + g (fs.getD k.toNat fct0)) 0
def kidMax (g : Fct → Int) (fs : List Fct) (kids : List Int) : Int := kids.foldl (fun a k => if g (fs.getD k.toNat fct0) > a then g (fs.getD k.toNat fct0) else a) 0
theorem foldl_take {β : Type} (f : β → Int → β) (z : β) (l : List Int) (j : Nat) (h : j < l.length) : (l.take (j + 1)).foldl f z = f ((l.take j).foldl f z) (l.getD j 0) := by
  rw [List.take_succ_eq_append_getElem h, List.foldl_append]
  simp [h]
theorem kidSum_bd (g : Fct → Int) (fs : List Fct) (kids : List Int) (B : Int) (hB : 0 ≤ B) (h : ∀ k, k < kids.length → 0 ≤ g (fs.getD (kids.getD k 0).toNat fct0) ∧ g (fs.getD (kids.getD k 0).toNat fct0) ≤ B) :
    ∀ j, j ≤ kids.length → 0 ≤ kidSum g fs (kids.take j) ∧ kidSum g fs (kids.take j) ≤ j * B
  | 0, _ => by simp [kidSum]
  | j + 1, hj => by
    have ih := kidSum_bd g fs kids B hB h j (by omega)
    have hk := h j (by omega)
    unfold kidSum at ih ⊢
    rw [foldl_take _ _ _ _ (by omega)]
    have : ((j + 1 : Nat) : Int) * B = j * B + B := by rw [Int.natCast_add, Int.add_mul]; simp
    omega
theorem kidMax_bd (g : Fct → Int) (fs : List Fct) (kids : List Int) (B : Int) (hB : 0 ≤ B) (h : ∀ k, k < kids.length → 0 ≤ g (fs.getD (kids.getD k 0).toNat fct0) ∧ g (fs.getD (kids.getD k 0).toNat fct0) ≤ B) :
    ∀ j, j ≤ kids.length → 0 ≤ kidMax g fs (kids.take j) ∧ kidMax g fs (kids.take j) ≤ B
  | 0, _ => by simp [kidMax]; exact hB
  | j + 1, hj => by
    have ih := kidMax_bd g fs kids B hB h j (by omega)
    have hk := h j (by omega)
    unfold kidMax at ih ⊢
    rw [foldl_take _ _ _ _ (by omega)]
    split <;> omega

/-- What a node's kids make of it. -/
def measureP (x : Nod) (fs : List Fct) : Fct :=
  if x.kind = 1 then { fct0 with length := 1, size := 1 }
  else if x.kind = 3 then { fct0 with length := kidSum Fct.length fs x.kids, size := 1 + kidSum Fct.size fs x.kids }
  else { fct0 with length := kidMax Fct.length fs x.kids + 1, size := kidMax Fct.size fs x.kids }

theorem set_set_getD (fs : List Fct) (i : Nat) (f g : Fct) (hi : i < fs.length) : ((fs.set i f).set i g) = fs.set i g ∧ (fs.set i f).getD i fct0 = f := by
  constructor
  · simp
  · simp [hi]
theorem getD_set_other (fs : List Fct) (i k : Nat) (f : Fct) (h : i ≠ k) : (fs.set i f).getD k fct0 = fs.getD k fct0 := by
  simp [List.getD_eq_getElem?_getD, List.getElem?_set, h]

theorem measure_ok (cs : Array Value) (t : List Nod) (i : Nat) (hi : i < t.length) (hn : t.length = n) (ht : TreeR (Or' X (own A)) w cs t) (h : OwnR fctK e b X w A n c fs)
    (hk : (t[i]).kind = 1 ∨ (t[i]).kind = 2 ∨ (t[i]).kind = 3) (hkid : ∀ k ∈ (t[i]).kids, 0 ≤ k ∧ k < (i : Int)) (hlen : (t[i]).kids.length ≤ 256) (h0 : fs.getD i fct0 = fct0)
    (hb : ∀ k, k < i → (0 ≤ (fs.getD k fct0).length ∧ (fs.getD k fct0).length ≤ 256) ∧ (0 ≤ (fs.getD k fct0).size ∧ (fs.getD k fct0).size ≤ 1024)) :
    Calls Tryz.prog 68 #[.agg cs, .slice A n c, .int .i64 i] w (Ret (fun v w' => Ext (own A) w w' ∧ OwnR fctK e b X w' A n c (fs.set i (measureP t[i] fs))) (fun _ _ => False)) := by
  apply c68
  unfold m68
  have hfl := h.len
  have hcap := h.cap_le
  have hmax := hcap.2.1
  rw [maxLen_eq] at hmax
  obtain ⟨T, tc, rfl, hs⟩ := ht
  have hE1 : Ext No w (w.alloc (.cells #[.slice T t.length tc] 40)) := (Ext.refl No w).alloc _
  refine ⟨_, by rw [box_cell]; rfl, _, _, _, rfl, ?_⟩
  obtain ⟨p, ncs, hT, hR, hc⟩ := (hs.ext hE1.no (Upd.same _ _)).get i hi
  have hR' := hR
  obtain ⟨⟨A1, c1, A2, c2, A3, c3, A4, c4, A5, c5, hcs, h1, h2, h3, h4, h5⟩, _⟩ := hR
  refine ⟨p, hT, by omega, by omega, ncs, by rw [hcs]; rfl, by rw [Int.toNat_natCast]; exact hc, by rw [hcs]; rfl, ?_⟩
  refine box_store _ _ _ _ (by rw [hcs]; rfl) (nodeK.one hR') ?_
  generalize hW : (w.alloc (.cells #[.slice T t.length tc] 40)) = w1 at hE1 h4
  have hE2 : Ext No w1 (w1.alloc (.cells ncs 74)) := (Ext.refl No w1).alloc _
  have e0 : ncs[0]? = some (.int .i64 (t[i]).kind) := by rw [hcs]; rfl
  have e7 : ncs[7]? = some (.slice A4 (t[i]).kids.length c4) := by rw [hcs]; rfl
  clear hcs
  generalize hx : t[i] = x at *
  have bX : ∀ Y w', Ext Y (w1.alloc (.cells ncs 74)) w' → ¬ Y w1.heap.size → ∀ j v, ncs[j]? = some v → w'.cell? ((⟨w1.heap.size, 0, none⟩ : Addr).add j) = some v := fun Y w' h hY j v hj => by
    rw [h.box hY j]
    exact hj
  have hO2 := (h.ext0 hE1).ext0 hE2
  generalize hW2 : w1.alloc (.cells ncs 74) = w2 at hE2 bX hO2
  have hE : Ext No w w2 := hE1.trans hE2
  have hnew : ¬ own A w1.heap.size := fun ho => by
    have h1 := (h.lt _ ho).2
    have h2 := hE1.size
    omega
  have hkids : SlR intK (Or' X (own A)) w2 A4 x.kids.length c4 x.kids := h4.ext hE2.no (Upd.same _ _)
  have hcapk := hkids.cap
  have hmaxk := hkids.max
  rw [maxLen_eq] at hmaxk
  obtain ⟨a, V, vn, vc, hA, f0, f1, f2, f3, f4, g0, g1, g2, hfr, s0, s1⟩ := fctAt hO2 i (by omega)
  refine ⟨a, hA, by omega, by omega, _, bX _ _ (Ext.refl _ _) hnew 0 _ e0, _, rfl, ?_⟩
  rw [if_neg (by simp; omega)]
  simp only [Int.toNat_natCast]
  have hkb : ∀ k, k < x.kids.length → 0 ≤ x.kids.getD k 0 ∧ x.kids.getD k 0 < (i : Int) := fun k hk => by
    have : x.kids.getD k 0 = x.kids[k] := by simp [hk]
    rw [this]
    exact hkid _ (List.getElem_mem hk)
  have hbl : ∀ k, k < x.kids.length → 0 ≤ Fct.length (fs.getD (x.kids.getD k 0).toNat fct0) ∧ Fct.length (fs.getD (x.kids.getD k 0).toNat fct0) ≤ 256 := fun k hk => (hb _ (by have := hkb k hk; omega)).1
  have hbs : ∀ k, k < x.kids.length → 0 ≤ Fct.size (fs.getD (x.kids.getD k 0).toNat fct0) ∧ Fct.size (fs.getD (x.kids.getD k 0).toNat fct0) ≤ 1024 := fun k hk => (hb _ (by have := hkb k hk; omega)).2
  have hif : i < fs.length := by omega
  by_cases k1 : x.kind = 1
  · rw [if_pos (by simpa using k1)]
    obtain ⟨hO3, hE3⟩ := s0 1 (by constructor <;> omega)
    obtain ⟨a', V', vn', vc', hA', _, q1, _, _, _, _, _, _, hfr', _, s1'⟩ := fctAt hO3 i (by omega)
    obtain rfl : a = a' := by rw [hA] at hA'; simpa using hA'
    obtain ⟨hO4, hE4⟩ := s1' 1 (by constructor <;> omega)
    refine ⟨_, rfl, ⟨_, f0⟩, hfr 0, _, rfl, ⟨_, q1⟩, hfr' 1, ?_⟩
    simp only [m68_K1]
    refine ⟨(hE.no.trans hE3).trans hE4, ?_⟩
    have := set_set_getD fs i { fs.getD i fct0 with length := 1 } { fct0 with length := 1, size := 1 } hif
    rw [this.2] at hO4
    rw [h0] at hO4 this
    rw [this.1] at hO4
    simp only [measureP, k1, if_true]
    exact hO4
  · rw [if_neg (by simpa using k1)]
    by_cases k3 : x.kind = 3
    · rw [if_pos (by simpa using k3)]
      obtain ⟨hO3, hE3⟩ := s1 1 (by constructor <;> omega)
      refine ⟨_, rfl, ⟨_, f1⟩, hfr 1, _, bX _ _ hE3 hnew 7 _ e7, _, _, _, rfl, ((0 : Int), ()), rfl,
        fun k s w' => ∃ j : Nat, s = ((j : Int), ()) ∧ j ≤ x.kids.length ∧ k = x.kids.length - j ∧ Ext (own A) w2 w' ∧ OwnR fctK e b X w' A n c (fs.set i { fct0 with length := kidSum Fct.length fs (x.kids.take j), size := 1 + kidSum Fct.size fs (x.kids.take j) }),
        ⟨x.kids.length, 0, rfl, by omega, by omega, hE3, ?_⟩, ?_⟩
      · rw [h0] at hO3
        exact hO3
      rintro k s w3 ⟨j, rfl, hj, rfl, hE3, hO3⟩ _r
      simp only [m68_B1]
      by_cases hlt : j < x.kids.length
      · rw [if_pos (by simp; omega)]
        obtain ⟨q, hq, hqc, hqo⟩ := (hkids.ext (hE3.mono fun k _ hk => .inr hk) (Upd.same _ _)).int j hlt
        have kb := hkb j hlt
        obtain ⟨kk, hkk⟩ : ∃ kk : Nat, x.kids.getD j 0 = (kk : Int) := ⟨_, (Int.toNat_of_nonneg kb.1).symm⟩
        rw [hkk] at kb
        have hki : i ≠ kk := by omega
        have hd3 : Ext No w3 w3.drew := (Ext.refl No w3).drew
        have bl := kidSum_bd Fct.length fs x.kids 256 (by omega) hbl j hj
        have bs := kidSum_bd Fct.size fs x.kids 1024 (by omega) hbs j hj
        have bl' := hbl j hlt
        have bs' := hbs j hlt
        rw [hkk] at bl' bs'
        simp only [Int.toNat_natCast] at bl' bs'
        -- the fact of the node, and that of the kid
        obtain ⟨a', _, _, _, hA', i0, i1, _, _, _, _, _, _, hfr', st0, _⟩ := fctAt (hO3.ext0 hd3) i (by omega)
        obtain rfl : a = a' := by rw [hA] at hA'; simpa using hA'
        obtain ⟨a', _, _, _, hA', j0, j1, _⟩ := fctAt (hO3.ext0 hd3) kk (by omega)
        obtain rfl : a = a' := by rw [hA] at hA'; simpa using hA'
        rw [(set_set_getD fs i _ fct0 hif).2] at i0 i1 st0
        rw [getD_set_other fs i kk _ hki] at j0 j1
        obtain ⟨hO4, hE4⟩ := st0 (kidSum Fct.length fs (x.kids.take j) + (fs.getD kk fct0).length) (by constructor <;> omega)
        rw [(set_set_getD fs i _ _ hif).1] at hO4
        generalize hw4 : w3.drew.setCell ((a.add (i * 5)).add 0) (.int .i64 (kidSum Fct.length fs (x.kids.take j) + (fs.getD kk fct0).length)) = w4 at hO4 hE4
        have hd4 : Ext No w4 w4.drew := (Ext.refl No w4).drew
        obtain ⟨a', _, _, _, hA', _, n1, _, _, _, _, _, _, hfr4, _, st1⟩ := fctAt (hO4.ext0 hd4) i (by omega)
        obtain rfl : a = a' := by rw [hA] at hA'; simpa using hA'
        obtain ⟨a', _, _, _, hA', _, m1, _⟩ := fctAt (hO4.ext0 hd4) kk (by omega)
        obtain rfl : a = a' := by rw [hA] at hA'; simpa using hA'
        rw [(set_set_getD fs i _ fct0 hif).2] at n1 st1
        rw [getD_set_other fs i kk _ hki] at m1
        obtain ⟨hO5, hE5⟩ := st1 (1 + kidSum Fct.size fs (x.kids.take j) + (fs.getD kk fct0).size) (by constructor <;> omega)
        rw [(set_set_getD fs i _ _ hif).1] at hO5
        refine ⟨q, hq, by omega, by omega, _, hqc, _, rfl, fun w' => Ext No w3.drew w', Ext.refl _ _, _, rfl, _, fun w' h => h.cell i0 (fun h => h), _, rfl, a, hA, by omega, by omega, .int .i64 (fs.getD kk fct0).length, fun w' h => ?_, _, rfl, _, rfl, ⟨_, i0⟩, hfr' 0, fun _ => True, trivial, ?_⟩
        · rw [hkk, Int.toNat_natCast]; exact h.cell j0 (fun h => h)
        rw [wrap_id (n := kidSum Fct.length fs (x.kids.take j) + (fs.getD kk fct0).length) ⟨by omega, by omega⟩, hw4]
        refine ⟨fun w' => Ext No w4.drew w', Ext.refl _ _, _, rfl, _, fun w' h => h.cell n1 (fun h => h), _, rfl, a, hA, by omega, by omega, .int .i64 (fs.getD kk fct0).size, fun w' h => ?_, _, rfl, _, rfl, ⟨_, n1⟩, hfr4 1, fun _ => True, trivial, ?_⟩
        · rw [hkk, Int.toNat_natCast]; exact h.cell m1 (fun h => h)
        rw [wrap_id (n := 1 + kidSum Fct.size fs (x.kids.take j) + (fs.getD kk fct0).size) ⟨by omega, by omega⟩]
        refine ⟨(((j + 1 : Nat) : Int), ()), by rw [wrap_id ⟨by omega, by omega⟩]; rfl, x.kids.length - (j + 1), by omega, j + 1, rfl, by omega, rfl, (((hE3.then hd3).trans hE4).then hd4).trans hE5, ?_⟩
        have e1 : kidSum Fct.length fs (x.kids.take (j + 1)) = kidSum Fct.length fs (x.kids.take j) + (fs.getD kk fct0).length := by
          unfold kidSum
          rw [foldl_take _ _ _ _ hlt, hkk]
          simp
        have e2 : kidSum Fct.size fs (x.kids.take (j + 1)) = kidSum Fct.size fs (x.kids.take j) + (fs.getD kk fct0).size := by
          unfold kidSum
          rw [foldl_take _ _ _ _ hlt, hkk]
          simp
        rw [e1, e2, ← Int.add_assoc]
        exact hO5
      · rw [if_neg (by simp; omega)]
        simp only [m68_K1]
        refine ⟨hE.no.trans hE3, ?_⟩
        rw [List.take_of_length_le (by omega)] at hO3
        simp only [measureP, k1, k3, if_true, if_false]
        exact hO3
    · rw [if_neg (by simpa using k3)]
      obtain k2 : x.kind = 2 := by omega
      rw [if_pos (by simpa using k2)]
      simp only [m68_K2]
      rw [if_pos trivial]
      refine ⟨_, bX _ _ (Ext.refl _ _) hnew 7 _ e7, _, _, _, rfl, _, bX _ _ (Ext.refl _ _) hnew 0 _ e0, _, rfl, ?_⟩
      rw [if_neg (by simp; omega)]
      simp only [m68_K3]
      refine ⟨((0 : Int), ()), rfl,
        fun k s w' => ∃ j : Nat, s = ((j : Int), ()) ∧ j ≤ x.kids.length ∧ k = x.kids.length - j ∧ Ext (own A) w2 w' ∧ OwnR fctK e b X w' A n c (fs.set i { fct0 with length := kidMax Fct.length fs (x.kids.take j), size := kidMax Fct.size fs (x.kids.take j) }),
        ⟨x.kids.length, 0, rfl, by omega, by omega, Ext.refl _ _, ?_⟩, ?_⟩
      · have : fs.set i { fct0 with length := kidMax Fct.length fs (x.kids.take 0), size := kidMax Fct.size fs (x.kids.take 0) } = fs := by
          have e : ({ fct0 with length := kidMax Fct.length fs (x.kids.take 0), size := kidMax Fct.size fs (x.kids.take 0) } : Fct) = fs[i] := by
            have : fs.getD i fct0 = fs[i] := by simp [hif]
            rw [← this, h0]
            rfl
          rw [e]
          exact List.set_getElem_self hif
        rw [this]
        exact hO2
      rintro k s w3 ⟨j, rfl, hj, rfl, hE3, hO3⟩ _r
      simp only [m68_B3]
      have bl := kidMax_bd Fct.length fs x.kids 256 (by omega) hbl j hj
      have bs := kidMax_bd Fct.size fs x.kids 1024 (by omega) hbs j hj
      by_cases hlt : j < x.kids.length
      · rw [if_pos (by simp; omega)]
        obtain ⟨q, hq, hqc, hqo⟩ := (hkids.ext (hE3.mono fun k _ hk => .inr hk) (Upd.same _ _)).int j hlt
        have kb := hkb j hlt
        obtain ⟨kk, hkk⟩ : ∃ kk : Nat, x.kids.getD j 0 = (kk : Int) := ⟨_, (Int.toNat_of_nonneg kb.1).symm⟩
        rw [hkk] at kb
        have hki : i ≠ kk := by omega
        have hd3 : Ext No w3 w3.drew := (Ext.refl No w3).drew
        have bl' := hbl j hlt
        have bs' := hbs j hlt
        rw [hkk] at bl' bs'
        simp only [Int.toNat_natCast] at bl' bs'
        have e1 : kidMax Fct.length fs (x.kids.take (j + 1)) = if (fs.getD kk fct0).length > kidMax Fct.length fs (x.kids.take j) then (fs.getD kk fct0).length else kidMax Fct.length fs (x.kids.take j) := by
          unfold kidMax
          rw [foldl_take _ _ _ _ hlt, hkk]
          simp only [Int.toNat_natCast]
        have e2 : kidMax Fct.size fs (x.kids.take (j + 1)) = if (fs.getD kk fct0).size > kidMax Fct.size fs (x.kids.take j) then (fs.getD kk fct0).size else kidMax Fct.size fs (x.kids.take j) := by
          unfold kidMax
          rw [foldl_take _ _ _ _ hlt, hkk]
          simp only [Int.toNat_natCast]
        obtain ⟨a', _, _, _, hA', i0, i1, _, _, _, _, _, _, hfr', st0, _⟩ := fctAt (hO3.ext0 hd3) i (by omega)
        obtain rfl : a = a' := by rw [hA] at hA'; simpa using hA'
        obtain ⟨a', _, _, _, hA', j0, j1, _⟩ := fctAt (hO3.ext0 hd3) kk (by omega)
        obtain rfl : a = a' := by rw [hA] at hA'; simpa using hA'
        rw [(set_set_getD fs i _ fct0 hif).2] at i0 i1 st0
        rw [getD_set_other fs i kk _ hki] at j0 j1
        obtain ⟨hO4, hE4⟩ := st0 (kidMax Fct.length fs (x.kids.take (j + 1))) (by rw [e1]; split <;> constructor <;> omega)
        rw [(set_set_getD fs i _ _ hif).1] at hO4
        generalize hw4 : w3.drew.setCell ((a.add (i * 5)).add 0) (.int .i64 (kidMax Fct.length fs (x.kids.take (j + 1)))) = w4 at hO4 hE4
        have hd4 : Ext No w4 w4.drew := (Ext.refl No w4).drew
        obtain ⟨a', _, _, _, hA', _, n1, _, _, _, _, _, _, hfr4, _, st1⟩ := fctAt (hO4.ext0 hd4) i (by omega)
        obtain rfl : a = a' := by rw [hA] at hA'; simpa using hA'
        obtain ⟨a', _, _, _, hA', _, m1, _⟩ := fctAt (hO4.ext0 hd4) kk (by omega)
        obtain rfl : a = a' := by rw [hA] at hA'; simpa using hA'
        rw [(set_set_getD fs i _ fct0 hif).2] at n1 st1
        rw [getD_set_other fs i kk _ hki] at m1
        obtain ⟨hO5, hE5⟩ := st1 (kidMax Fct.size fs (x.kids.take (j + 1))) (by rw [e2]; split <;> constructor <;> omega)
        rw [(set_set_getD fs i _ _ hif).1] at hO5
        refine ⟨q, hq, by omega, by omega, _, hqc, _, rfl, fun w' => Ext No w3.drew w', Ext.refl _ _, _, rfl, _, fun w' h => h.cell i0 (fun h => h), _, rfl, a, hA, by omega, by omega, .int .i64 (fs.getD kk fct0).length, fun w' h => ?_, _, rfl, _, rfl, ⟨_, i0⟩, hfr' 0, fun _ => True, trivial, ?_⟩
        · rw [hkk, Int.toNat_natCast]; exact h.cell j0 (fun h => h)
        rw [← e1, hw4]
        refine ⟨fun w' => Ext No w4.drew w', Ext.refl _ _, _, rfl, _, fun w' h => h.cell n1 (fun h => h), _, rfl, a, hA, by omega, by omega, .int .i64 (fs.getD kk fct0).size, fun w' h => ?_, _, rfl, _, rfl, ⟨_, n1⟩, hfr4 1, fun _ => True, trivial, ?_⟩
        · rw [hkk, Int.toNat_natCast]; exact h.cell m1 (fun h => h)
        rw [← e2]
        exact ⟨(((j + 1 : Nat) : Int), ()), by rw [wrap_id ⟨by omega, by omega⟩]; rfl, x.kids.length - (j + 1), by omega, j + 1, rfl, by omega, rfl, (((hE3.then hd3).trans hE4).then hd4).trans hE5, hO5⟩
      · rw [if_neg (by simp; omega)]
        simp only [m68_K4]
        rw [List.take_of_length_le (by omega)] at hO3 bl bs
        obtain ⟨a', _, _, _, hA', i0, i1, _, _, _, _, _, _, hfr', st0, _⟩ := fctAt hO3 i (by omega)
        obtain rfl : a = a' := by rw [hA] at hA'; simpa using hA'
        rw [(set_set_getD fs i _ fct0 hif).2] at i0 st0
        obtain ⟨hO4, hE4⟩ := st0 (kidMax Fct.length fs x.kids + 1) (by constructor <;> omega)
        rw [(set_set_getD fs i _ _ hif).1] at hO4
        refine ⟨_, rfl, _, i0, _, rfl, _, rfl, ⟨_, i0⟩, hfr' 0, ?_⟩
        simp only [m68_K1]
        rw [wrap_id ⟨by omega, by omega⟩]
        refine ⟨(hE.no.trans hE3).trans hE4, ?_⟩
        simp only [measureP, k1, k3, if_false]
        exact hO4
end
end Go.Proofs.YtilacabmbjephaaGreatDoor
