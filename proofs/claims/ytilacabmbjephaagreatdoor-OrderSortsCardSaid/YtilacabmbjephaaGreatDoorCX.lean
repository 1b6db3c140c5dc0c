/- Contracts: the iterators of package order, over whatever a loop's body does. -/
import Derived.Test.YtilacabmbjephaaGreatDoorCQ
namespace Go.Proofs.YtilacabmbjephaaGreatDoor
open Go Go.GX
set_option linter.unusedVariables false
set_option linter.unusedSimpArgs false

/-! ## Lists one after the other -/
def upto {β : Type} (g : Nat → List β) (i : Nat) : List β := (List.range i).flatMap g
theorem upto_succ {β : Type} (g : Nat → List β) (i : Nat) : upto g (i + 1) = upto g i ++ g i := by simp [upto, List.range_succ]
theorem upto_len {β : Type} (g : Nat → List β) (i : Nat) : (upto g (i + 1)).length = (upto g i).length + (g i).length := by rw [upto_succ, List.length_append]
theorem upto_at {β : Type} (g : Nat → List β) : ∀ (n i j : Nat), i < n → j < (g i).length → (upto g n)[(upto g i).length + j]? = (g i)[j]?
  | 0, _, _, h, _ => absurd h (Nat.not_lt_zero _)
  | n + 1, i, j, hi, hj => by
    rw [upto_succ]
    by_cases h : i = n
    · subst h
      rw [List.getElem?_append_right (by omega)]
      congr 1
      omega
    · have ih := upto_at g n i j (by omega) hj
      rw [List.getElem?_append_left, ih]
      have : (upto g n)[(upto g i).length + j]? = some (g i)[j] := ih.trans (List.getElem?_eq_getElem hj)
      exact (List.getElem?_eq_some_iff.1 this).1
theorem upto_get {β : Type} (g : Nat → List β) {n i j : Nat} (d : β) (hi : i < n) (hj : j < (g i).length) : (upto g n).getD ((upto g i).length + j) d = (g i).getD j d ∧ (upto g i).length + j < (upto g n).length := by
  have h := upto_at g n i j hi hj
  constructor
  · simp only [List.getD_eq_getElem?_getD, h]
  · rw [List.getElem?_eq_getElem hj] at h
    exact (List.getElem?_eq_some_iff.1 h).1

/-- What a loop's body does: J k Y W: k lists have come, the body's own blocks are Y. -/
structure Body (l : Nat) (raws : List (List Int)) (J : Nat → (Nat → Prop) → World → Prop) : Prop where
  ext : ∀ k Y W W', J k Y W → Ext No W W' → J k Y W'
  lt : ∀ k Y W, J k Y W → ∀ b, Y b → b < W.heap.size
  call : ∀ k Y W A n c, k < raws.length → J k Y W → SlR intK Y W A n c (raws.getD k []) →
    CallsBody Tryz.prog l #[.slice A n c] W (Ret (fun v W' => v = .bool true ∧ ∃ Y', J (k + 1) Y' W' ∧ Upd Y Y' W ∧ Ext Y W W') fun _ _ => False)
theorem CallsBody.mono {P : Program} {l : Nat} {args : Array Value} {w : World} {R R' : Ending → World → Prop} (h : CallsBody P l args w R) (hr : ∀ e w', R e w' → R' e w') : CallsBody P l args w R' := by
  obtain ⟨fn, tmps, assign, body, w', h1, h2⟩ := h
  exact ⟨fn, tmps, assign, body, w', h1, h2.mono hr⟩

/-- The path in its box, out of the body's reach. -/
structure Held (Y : Nat → Prop) (W : World) (pb : Nat) (PA : Option Addr) (pc : Nat) (p : List Int) : Prop where
  box : W.cell? ⟨pb, 0, none⟩ = some (.slice PA p.length pc)
  out : ¬ Y pb
  sl : SlR intK Y W PA p.length pc p
theorem Held.ext {Y Y' : Nat → Prop} {W W' : World} {pb : Nat} {PA : Option Addr} {pc : Nat} {p : List Int} (h : Held Y W pb PA pc p) (hE : Ext Y W W') (hU : Upd Y Y' W) : Held Y' W' pb PA pc p :=
  ⟨hE.cell h.box h.out, fun hy => by
    rcases hU _ hy with h1 | h1
    · exact h.out h1
    · have := cell_lt h.box
      exact absurd this (Nat.not_lt.2 h1), h.sl.ext hE hU⟩
/-- What is known between two calls of the body. -/
structure Btw (l : Nat) (J : Nat → (Nat → Prop) → World → Prop) (K : (Nat → Prop) → World → Prop) (w : World) (Y0 : Nat → Prop) (pb : Nat) (PA : Option Addr) (pc : Nat) (p : List Int) (k : Nat) (W : World) : Prop where
  ex : ∃ Y, J k Y W ∧ (Held Y W pb PA pc p ∧ K Y W) ∧ Upd Y0 Y w ∧ Ext Y0 w W
/-- What abides the body. -/
def Abides (K : (Nat → Prop) → World → Prop) : Prop := ∀ Y Y' W W', K Y W → Ext Y W W' → Upd Y Y' W → K Y' W'
theorem abides_true : Abides fun _ _ => True := fun _ _ _ _ _ _ _ => trivial
theorem upd_ext {Y0 Y : Nat → Prop} {w W W' : World} (hU : Upd Y0 Y w) (hE : Ext Y0 w W) (hE2 : Ext Y W W') : Ext Y0 w W' := hE.trans' hE2 fun k hk hy => by
  rcases hU k hy with h | h
  · exact h
  · exact absurd hk (Nat.not_lt.2 h)
theorem upd_trans {Y0 Y Y' : Nat → Prop} {w W : World} (hU : Upd Y0 Y w) (hs : w.heap.size ≤ W.heap.size) (hU2 : Upd Y Y' W) : Upd Y0 Y' w := fun k hk => by
  rcases hU2 k hk with h | h
  · exact hU k h
  · exact .inr (Nat.le_trans hs h)

section
variable {l : Nat} {raws : List (List Int)} {J : Nat → (Nat → Prop) → World → Prop} {w : World} {Y0 : Nat → Prop} {pb : Nat} {PA : Option Addr} {pc : Nat} {p : List Int} {k : Nat} {W : World} {K : (Nat → Prop) → World → Prop}
theorem Btw.ext0 (hB : Body l raws J) (hK : Abides K) (h : Btw l J K w Y0 pb PA pc p k W) {W' : World} (hE : Ext No W W') : Btw l J K w Y0 pb PA pc p k W' := by
  obtain ⟨Y, h1, ⟨h2, h2'⟩, h3, h4⟩ := h.ex
  exact ⟨Y, hB.ext _ _ _ _ h1 hE, ⟨h2.ext hE.no (Upd.same _ _), hK _ _ _ _ h2' hE.no (Upd.same _ _)⟩, h3, h4.then hE⟩
/-- A call of the body: what else lies out of its reach stays. -/
theorem Btw.call (hB : Body l raws J) (hK : Abides K) {W0 : World} (h : Btw l J K w Y0 pb PA pc p k W0) {W : World} (hE0 : Ext No W0 W) (hk : k < raws.length) {A : Option Addr} {n c : Nat} (hs : SlR intK (Old W0) W A n c (raws.getD k []))
    {R : Ending → World → Prop} (hR : ∀ W', Btw l J K w Y0 pb PA pc p (k + 1) W' → (∀ {b o}, W0.heap.size ≤ b → W.heap[b]? = some o → W'.heap[b]? = some o) → W.heap.size ≤ W'.heap.size → (∀ {Z : Nat → Prop}, (∀ Y, J k Y W → ∀ b, Y b → Z b) → Ext Z W W') → R (.returned (.bool true)) W') : CallsBody Tryz.prog l #[.slice A n c] W R := by
  obtain ⟨Y, h1, ⟨h2, h2'⟩, h3, h4⟩ := h.ex
  have hJ := hB.ext _ _ _ _ h1 hE0
  have hY : ∀ b, Y b → b < W0.heap.size := hB.lt _ _ _ h1
  refine CallsBody.mono (hB.call k Y W A n c hk hJ (hs.mono fun b hb => hY b hb)) fun e W' hQ => ?_
  cases e with
  | outgrown => exact hQ.elim
  | panicked ch => exact hQ.elim
  | returned v =>
    obtain ⟨rfl, Y', hJ', hU', hE'⟩ := hQ
    refine hR W' ⟨Y', hJ', ⟨(h2.ext hE0.no (Upd.same _ _)).ext hE' hU', hK _ _ _ _ (hK _ _ _ _ h2' hE0.no (Upd.same _ _)) hE' hU'⟩, upd_trans h3 (h4.then hE0).size hU', upd_ext h3 (h4.then hE0) hE'⟩ (fun hb ho => (hE'.block _ (Array.getElem?_eq_some_iff.1 ho).1 fun hy => absurd (hY _ hy) (Nat.not_lt.2 hb)).trans ho) hE'.size fun hZ => hE'.mono fun b _ hy => hZ Y hJ b hy

/-! ## Lowers -/
def lowersG (p : List Int) (i : Nat) : List (List Int) := if p.getD i 0 > 0 then [withP p i 0, withP p i ((p.getD i 0).tdiv 2), withP p i (p.getD i 0 - 1)] else []
def lowersP (p : List Int) : List (List Int) := upto (lowersG p) p.length
theorem lowers1_ok (hB : Body l (lowersP p) J) (hJ : J 0 Y0 w) (hH : Held Y0 w pb PA pc p) (hn : p.length ≤ small) :
    Calls Tryz.prog 131 #[.func (.yield l) #[] #[], .pointer (some ⟨pb, 0, none⟩)] w (Ret (fun v w' => v = .tuple #[] ∧ ∃ Y', J (lowersP p).length Y' w' ∧ Upd Y0 Y' w ∧ Ext Y0 w w') fun _ _ => False) := by
  apply c131
  unfold m131
  have hs : p.length ≤ 1099511627776 := hn
  refine ⟨_, hH.box, _, _, _, rfl, ((0 : Int), ()), rfl, fun t s W => ∃ i : Nat, s = ((i : Int), ()) ∧ i ≤ p.length ∧ t = p.length - i ∧ Btw l J (fun _ _ => True) w Y0 pb PA pc p (upto (lowersG p) i).length W,
    ⟨p.length, 0, rfl, by omega, by omega, ⟨Y0, hJ, ⟨hH, trivial⟩, Upd.same _ _, Ext.refl _ _⟩⟩, ?_⟩
  rintro t s W ⟨i, rfl, hi, rfl, hW⟩ _r
  simp only [m131_B0]
  by_cases hlt : i < p.length
  · rw [if_pos (by simp; omega)]
    obtain ⟨Y, h1, ⟨h2, _⟩, h3, h4⟩ := hW.ex
    obtain ⟨a, ha, hc, hio⟩ := h2.sl.int i hlt
    refine ⟨a, ha, by omega, by omega, _, by rw [Int.toNat_natCast]; exact hc, _, rfl, ?_⟩
    have next : ∀ W', Btw l J (fun _ _ => True) w Y0 pb PA pc p (upto (lowersG p) (i + 1)).length W' → m131_K2 (Ret (fun v w' => v = .tuple #[] ∧ ∃ Y', J (lowersP p).length Y' w' ∧ Upd Y0 Y' w ∧ Ext Y0 w w') fun _ _ => False)
        (fun s' w' => ∃ m, m < p.length - i ∧ ∃ i : Nat, s' = ((i : Int), ()) ∧ i ≤ p.length ∧ m = p.length - i ∧ Btw l J (fun _ _ => True) w Y0 pb PA pc p (upto (lowersG p) i).length w') l ⟨pb, 0, none⟩ PA p.length pc (p.length : Nat) (i : Nat) false W' := by
      intro W' hW'
      unfold m131_K2
      rw [if_neg (by simp)]
      exact ⟨(((i + 1 : Nat) : Int), ()), by rw [wrap_id ⟨by omega, by omega⟩]; rfl, p.length - (i + 1), by omega, i + 1, rfl, by omega, rfl, hW'⟩
    have hl := upto_len (lowersG p) i
    by_cases hpos : p.getD i 0 > 0
    · rw [if_pos (by simpa using hpos)]
      have hg : lowersG p i = [withP p i 0, withP p i ((p.getD i 0).tdiv 2), withP p i (p.getD i 0 - 1)] := by unfold lowersG; rw [if_pos hpos]
      rw [hg] at hl
      have g0 := upto_get (lowersG p) (n := p.length) (i := i) (j := 0) [] hlt (by rw [hg]; simp)
      have g1 := upto_get (lowersG p) (n := p.length) (i := i) (j := 1) [] hlt (by rw [hg]; simp)
      have g2 := upto_get (lowersG p) (n := p.length) (i := i) (j := 2) [] hlt (by rw [hg]; simp)
      rw [hg] at g0 g1 g2
      rw [Nat.add_zero] at g0
      unfold intOk at hio
      have hdiv : intOk ((p.getD i 0).tdiv 2) := by
        rw [Int.tdiv_eq_ediv_of_nonneg (by omega)]
        constructor <;> omega
      have hlY : ∀ {k Y W}, J k Y W → ∀ b, Y b → b < W.heap.size := fun h => hB.lt _ _ _ h
      refine ⟨_, h2.box, _, _, _, rfl, Fin.use (with_ok p i 0 W h2.sl (hlY h1) hlt hn (by constructor <;> decide)) fun r W1 hE1 hr => ?_⟩
      obtain ⟨A', c', rfl, hsl⟩ := hr
      refine ⟨_, _, _, rfl, rfl, hW.call hB abides_true hE1 g0.2 (by rw [show lowersP p = upto (lowersG p) p.length from rfl, g0.1]; exact hsl) fun W2 hW2 _ _ _ => ⟨_, rfl, ?_⟩⟩
      rw [if_pos rfl]
      obtain ⟨Y2, h12, ⟨h22, _⟩, h32, h42⟩ := hW2.ex
      refine ⟨_, h22.box, _, _, _, rfl, by omega, ?_⟩
      rw [wrap_id hdiv]
      refine Fin.use (with_ok p i _ W2 h22.sl (hlY h12) hlt hn hdiv) fun r W3 hE3 hr => ?_
      obtain ⟨A', c', rfl, hsl⟩ := hr
      refine ⟨_, _, _, rfl, rfl, hW2.call hB abides_true hE3 g1.2 (by rw [show lowersP p = upto (lowersG p) p.length from rfl, g1.1]; exact hsl) fun W4 hW4 _ _ _ => ⟨_, rfl, ?_⟩⟩
      rw [if_pos rfl]
      obtain ⟨Y4, h14, ⟨h24, _⟩, h34, h44⟩ := hW4.ex
      refine ⟨_, h24.box, _, _, _, rfl, ?_⟩
      have hm1 : intOk (p.getD i 0 - 1) := by constructor <;> omega
      rw [wrap_id hm1]
      refine Fin.use (with_ok p i _ W4 h24.sl (hlY h14) hlt hn hm1) fun r W5 hE5 hr => ?_
      obtain ⟨A', c', rfl, hsl⟩ := hr
      refine ⟨_, _, _, rfl, rfl, hW4.call hB abides_true hE5 g2.2 (by rw [show lowersP p = upto (lowersG p) p.length from rfl, g2.1]; exact hsl) fun W6 hW6 _ _ _ => ⟨_, rfl, ?_⟩⟩
      refine next W6 ?_
      rw [hl]
      exact hW6
    · rw [if_neg (by simpa using hpos)]
      have hg : lowersG p i = [] := by unfold lowersG; rw [if_neg hpos]
      rw [hg] at hl
      refine next W ?_
      rw [hl]
      exact hW
  · rw [if_neg (by simp; omega)]
    unfold m131_K1
    obtain rfl : i = p.length := by omega
    obtain ⟨Y, h1, ⟨h2, _⟩, h3, h4⟩ := hW.ex
    exact ⟨rfl, Y, h1, h3, h4⟩

/-! ## Shares -/
def sharesH (p : List Int) (i d : Nat) : List (List Int) := if p.getD i 0 < p.getD (i + 1 + d) 0 then [withP p (i + 1 + d) (p.getD i 0)] else []
def sharesN (p : List Int) (i : Nat) : Nat := min p.length (i + 17) - (i + 1)
def sharesG (p : List Int) (i : Nat) : List (List Int) := upto (sharesH p i) (sharesN p i)
def sharesP (p : List Int) : List (List Int) := upto (sharesG p) p.length
theorem shares1_ok (hB : Body l (sharesP p) J) (hJ : J 0 Y0 w) (hH : Held Y0 w pb PA pc p) (hn : p.length ≤ small) :
    Calls Tryz.prog 134 #[.func (.yield l) #[] #[], .pointer (some ⟨pb, 0, none⟩)] w (Ret (fun v w' => v = .tuple #[] ∧ ∃ Y', J (sharesP p).length Y' w' ∧ Upd Y0 Y' w ∧ Ext Y0 w w') fun _ _ => False) := by
  apply c134
  unfold m134
  have hs : p.length ≤ 1099511627776 := hn
  have hlY : ∀ {k Y W}, J k Y W → ∀ b, Y b → b < W.heap.size := fun h => hB.lt _ _ _ h
  refine ⟨_, hH.box, _, _, _, rfl, ((0 : Int), ()), rfl, fun t s W => ∃ i : Nat, s = ((i : Int), ()) ∧ i ≤ p.length ∧ t = p.length - i ∧ Btw l J (fun _ _ => True) w Y0 pb PA pc p (upto (sharesG p) i).length W,
    ⟨p.length, 0, rfl, by omega, by omega, ⟨Y0, hJ, ⟨hH, trivial⟩, Upd.same _ _, Ext.refl _ _⟩⟩, ?_⟩
  rintro t s W ⟨i, rfl, hi, rfl, hW⟩ _r
  simp only [m134_B0]
  by_cases hlt : i < p.length
  · rw [if_pos (by simp; omega)]
    obtain ⟨Y, h1, ⟨h2, _⟩, h3, h4⟩ := hW.ex
    obtain ⟨a, ha, hc, hio⟩ := h2.sl.int i hlt
    have hl := upto_len (sharesG p) i
    refine ⟨a, ha, by omega, by omega, _, by rw [Int.toNat_natCast]; exact hc, _, rfl, (((i + 1 : Nat) : Int), ()), by rw [wrap_id ⟨by omega, by omega⟩]; rfl,
      fun t s W => ∃ d : Nat, s = (((i + 1 + d : Nat) : Int), ()) ∧ d ≤ sharesN p i ∧ t = sharesN p i - d ∧ Btw l J (fun _ _ => True) w Y0 pb PA pc p ((upto (sharesG p) i).length + (upto (sharesH p i) d).length) W,
      ⟨sharesN p i, 0, rfl, by omega, by omega, hW⟩, ?_⟩
    rintro t s W1 ⟨d, rfl, hd, rfl, hW1⟩ _r
    simp only [m134_B2]
    obtain ⟨Y1, h11, ⟨h21, _⟩, h31, h41⟩ := hW1.ex
    have hNd : sharesN p i = min p.length (i + 17) - (i + 1) := rfl
    -- the inner loop goes on
    have next : ∀ W', Btw l J (fun _ _ => True) w Y0 pb PA pc p ((upto (sharesG p) i).length + (upto (sharesH p i) (d + 1)).length) W' → d < sharesN p i →
        m134_K4 (Ret (fun v w' => v = .tuple #[] ∧ ∃ Y', J (sharesP p).length Y' w' ∧ Upd Y0 Y' w ∧ Ext Y0 w w') fun _ _ => False)
        (fun s' w' => ∃ m, m < p.length - i ∧ ∃ i : Nat, s' = ((i : Int), ()) ∧ i ≤ p.length ∧ m = p.length - i ∧ Btw l J (fun _ _ => True) w Y0 pb PA pc p (upto (sharesG p) i).length w')
        (fun s' w' => ∃ m, m < sharesN p i - d ∧ ∃ d : Nat, s' = (((i + 1 + d : Nat) : Int), ()) ∧ d ≤ sharesN p i ∧ m = sharesN p i - d ∧ Btw l J (fun _ _ => True) w Y0 pb PA pc p ((upto (sharesG p) i).length + (upto (sharesH p i) d).length) w')
        l ⟨pb, 0, none⟩ (i : Nat) (p.getD i 0) (i + 1 + d : Nat) PA p.length pc (p.length : Nat) (i : Nat) false W' := by
      intro W' hW' hdn
      unfold m134_K4
      rw [if_neg (by simp)]
      exact ⟨(((i + 1 + (d + 1) : Nat) : Int), ()), by rw [wrap_id ⟨by omega, by omega⟩]; rfl, sharesN p i - (d + 1), by omega, d + 1, rfl, by omega, rfl, hW'⟩
    have stop : d = sharesN p i → m134_K3 (Ret (fun v w' => v = .tuple #[] ∧ ∃ Y', J (sharesP p).length Y' w' ∧ Upd Y0 Y' w ∧ Ext Y0 w w') fun _ _ => False)
        (fun s' w' => ∃ m, m < p.length - i ∧ ∃ i : Nat, s' = ((i : Int), ()) ∧ i ≤ p.length ∧ m = p.length - i ∧ Btw l J (fun _ _ => True) w Y0 pb PA pc p (upto (sharesG p) i).length w')
        (fun s' w' => ∃ m, m < sharesN p i - d ∧ ∃ d : Nat, s' = (((i + 1 + d : Nat) : Int), ()) ∧ d ≤ sharesN p i ∧ m = sharesN p i - d ∧ Btw l J (fun _ _ => True) w Y0 pb PA pc p ((upto (sharesG p) i).length + (upto (sharesH p i) d).length) w')
        l ⟨pb, 0, none⟩ (i : Nat) (p.getD i 0) (i + 1 + d : Nat) PA p.length pc (p.length : Nat) (i : Nat) false W1 := by
      rintro rfl
      unfold m134_K3 m134_K2
      rw [if_neg (by simp)]
      refine ⟨(((i + 1 : Nat) : Int), ()), by rw [wrap_id ⟨by omega, by omega⟩]; rfl, p.length - (i + 1), by omega, i + 1, rfl, by omega, rfl, ?_⟩
      rw [hl]
      exact hW1
    refine ⟨_, h21.box, _, _, _, rfl, ?_⟩
    have hw16 : IntKind.i64.wrap ((i : Int) + 16) = (i : Int) + 16 := wrap_id ⟨by omega, by omega⟩
    by_cases hlt2 : i + 1 + d < p.length
    · rw [if_pos (by simp; omega)]
      rw [hw16]
      by_cases hle : i + 1 + d ≤ i + 16
      · have hdn : d < sharesN p i := by rw [hNd]; omega
        rw [show (decide (((i + 1 + d : Nat) : Int) ≤ (i : Int) + 16)) = true by simp; omega]
        unfold m134_K3
        rw [if_pos rfl]
        obtain ⟨a2, ha2, hc2, hio2⟩ := h21.sl.int (i + 1 + d) hlt2
        refine ⟨_, h21.box, _, _, _, rfl, a2, ha2, by omega, by omega, _, by rw [Int.toNat_natCast]; exact hc2, _, rfl, ?_⟩
        have hld := upto_len (sharesH p i) d
        by_cases hlt3 : p.getD i 0 < p.getD (i + 1 + d) 0
        · rw [if_pos (by simpa using hlt3)]
          have hg : sharesH p i d = [withP p (i + 1 + d) (p.getD i 0)] := by unfold sharesH; rw [if_pos hlt3]
          rw [hg] at hld
          have g0 := upto_get (sharesH p i) (n := sharesN p i) (i := d) (j := 0) [] hdn (by rw [hg]; simp)
          have G0 := upto_get (sharesG p) (n := p.length) (i := i) (j := (upto (sharesH p i) d).length) [] hlt (by have := g0.2; rw [Nat.add_zero] at this; exact this)
          rw [hg, Nat.add_zero] at g0
          refine ⟨_, h21.box, _, _, _, rfl, Fin.use (with_ok p (i + 1 + d) (p.getD i 0) W1 h21.sl (hlY h11) hlt2 hn hio) fun r W2 hE2 hr => ?_⟩
          obtain ⟨A', c', rfl, hsl⟩ := hr
          refine ⟨_, _, _, rfl, rfl, hW1.call hB abides_true hE2 G0.2 (by rw [show sharesP p = upto (sharesG p) p.length from rfl, G0.1, show sharesG p i = upto (sharesH p i) (sharesN p i) from rfl, g0.1]; exact hsl) fun W3 hW3 _ _ _ => ⟨_, rfl, ?_⟩⟩
          refine next W3 ?_ hdn
          rw [hld]
          exact hW3
        · rw [if_neg (by simpa using hlt3)]
          have hg : sharesH p i d = [] := by unfold sharesH; rw [if_neg hlt3]
          rw [hg] at hld
          refine next W1 ?_ hdn
          rw [hld]
          exact hW1
      · rw [show (decide (((i + 1 + d : Nat) : Int) ≤ (i : Int) + 16)) = false by simp; omega]
        exact stop (by rw [hNd]; omega)
    · rw [if_neg (by simp; omega)]
      exact stop (by rw [hNd]; omega)
  · rw [if_neg (by simp; omega)]
    unfold m134_K1
    obtain rfl : i = p.length := by omega
    obtain ⟨Y, h1, h2, h3, h4⟩ := hW.ex
    exact ⟨rfl, Y, h1, h3, h4⟩
end
end Go.Proofs.YtilacabmbjephaaGreatDoor
