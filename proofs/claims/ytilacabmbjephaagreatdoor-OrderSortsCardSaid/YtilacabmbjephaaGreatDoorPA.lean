/- Plain law: the order of paths; sorting them, each once. -/
import Derived.Test.YtilacabmbjephaaGreatDoorCB
import Derived.Sort.AssemblyPlain
namespace Go.Proofs.YtilacabmbjephaaGreatDoor
open Go Go.GX
set_option linter.unusedVariables false

theorem cmpI_anti (a b : Int) : cmpI b a = -cmpI a b := by unfold cmpI; split <;> split <;> (try split) <;> (try split) <;> omega
theorem cmpI_zero {a b : Int} : cmpI a b = 0 ↔ a = b := by unfold cmpI; split <;> (try split) <;> omega
theorem cmpI_neg {a b : Int} : cmpI a b < 0 ↔ a < b := by unfold cmpI; split <;> (try split) <;> omega
theorem lexI_anti : ∀ a b, lexI b a = -lexI a b
  | [], [] => rfl
  | [], _ :: _ => rfl
  | _ :: _, [] => rfl
  | a :: l, b :: m => by
    have h := cmpI_anti a b
    have ih := lexI_anti l m
    unfold lexI
    rw [h]
    by_cases h0 : cmpI a b = 0
    · rw [if_neg (by omega), if_neg (by omega), ih]
    · rw [if_pos (by omega), if_pos (by omega)]
theorem lexI_zero : ∀ a b, lexI a b = 0 ↔ a = b
  | [], [] => by simp [lexI]
  | [], _ :: _ => by simp [lexI]
  | _ :: _, [] => by simp [lexI]
  | a :: l, b :: m => by
    unfold lexI
    by_cases h0 : cmpI a b = 0
    · rw [if_neg (by omega), lexI_zero l m]
      have := cmpI_zero.1 h0
      simp [this]
    · rw [if_pos (by omega)]
      have : a ≠ b := fun h => h0 (cmpI_zero.2 h)
      simp [h0, this]
theorem lexI_trans : ∀ a b c, lexI a b < 0 → lexI b c < 0 → lexI a c < 0
  | [], [], _ => by simp [lexI]
  | [], _ :: _, [] => by simp [lexI]
  | [], _ :: _, _ :: _ => by simp [lexI]
  | _ :: _, [], _ => by simp [lexI]
  | _ :: _, _ :: _, [] => by simp [lexI]
  | a :: l, b :: m, c :: n => by
    have ih := lexI_trans l m n
    unfold lexI
    intro h1 h2
    by_cases h0 : cmpI a b = 0
    · rw [if_neg (by omega)] at h1
      have := cmpI_zero.1 h0
      subst this
      by_cases h3 : cmpI a c = 0
      · rw [if_neg (by omega)] at h2 ⊢
        exact ih h1 h2
      · rw [if_pos (by omega)] at h2 ⊢
        exact h2
    · rw [if_pos (by omega)] at h1
      have h4 := cmpI_neg.1 h1
      by_cases h3 : cmpI b c = 0
      · have := cmpI_zero.1 h3
        subst this
        rw [if_pos (by omega)]
        exact h1
      · rw [if_pos (by omega)] at h2
        have h5 := cmpI_neg.1 h2
        have h6 : cmpI a c < 0 := cmpI_neg.2 (by omega)
        rw [if_pos (by omega)]
        exact h6
theorem pathCmp_anti (a b : List Int) : pathCmp b a = -pathCmp a b := by
  unfold pathCmp
  rw [lexI_anti a b]
  split <;> split <;> (try split) <;> (try split) <;> omega
theorem pathCmp_zero {a b : List Int} : pathCmp a b = 0 ↔ a = b := by
  unfold pathCmp
  split
  · constructor
    · omega
    · rintro rfl; omega
  · split
    · constructor
      · omega
      · rintro rfl; omega
    · exact lexI_zero a b
theorem pathCmp_trans {a b c : List Int} (h1 : pathCmp a b < 0) (h2 : pathCmp b c < 0) : pathCmp a c < 0 := by
  unfold pathCmp at *
  split at h1
  · split at h2
    · rw [if_pos (by omega)]; omega
    · split at h2
      · omega
      · rw [if_pos (by omega)]; omega
  · split at h1
    · omega
    · split at h2
      · rw [if_pos (by omega)]; omega
      · split at h2
        · omega
        · rw [if_neg (by omega), if_neg (by omega)]
          exact lexI_trans a b c h1 h2
def ltP (a b : List Int) : Bool := decide (pathCmp a b < 0)
theorem ltP_iff {a b : List Int} : ltP a b = true ↔ pathCmp a b < 0 := by simp [ltP]
theorem ltP_iff' {a b : List Int} : ltP a b = false ↔ ¬ pathCmp a b < 0 := by simp [ltP]
theorem swoP : Go.Sort.SWO ltP where
  irrefl x := by rw [ltP_iff', pathCmp_zero.2 rfl]; omega
  trans x y z h1 h2 := by rw [ltP_iff] at *; exact pathCmp_trans h1 h2
  ntrans x y z h1 h2 := by
    rw [ltP_iff'] at *
    have a1 := pathCmp_anti x y
    have a2 := pathCmp_anti y z
    have a3 := pathCmp_anti x z
    intro h
    by_cases e1 : pathCmp x y = 0
    · obtain rfl := pathCmp_zero.1 e1
      exact h2 h
    · by_cases e2 : pathCmp y z = 0
      · obtain rfl := pathCmp_zero.1 e2
        exact h1 h
      · have := pathCmp_trans (a := z) (b := y) (c := x) (by omega) (by omega)
        omega

/-! ## Increasing lists, each once -/
def SS (l : List (List Int)) : Prop := l.Pairwise fun a b => pathCmp a b < 0
theorem ss_unique : ∀ {a b : List (List Int)}, SS a → SS b → (∀ x, x ∈ a ↔ x ∈ b) → a = b
  | [], [], _, _, _ => rfl
  | [], y :: b, _, _, h => absurd ((h y).2 (by simp)) (by simp)
  | x :: a, [], _, _, h => absurd ((h x).1 (by simp)) (by simp)
  | x :: a, y :: b, ha, hb, h => by
    have ha' := List.pairwise_cons.1 ha
    have hb' := List.pairwise_cons.1 hb
    have irr : ∀ z : List Int, ¬ pathCmp z z < 0 := fun z => by rw [pathCmp_zero.2 rfl]; omega
    have hxy : x = y := by
      apply Decidable.byContradiction
      intro hne
      have h1 : x ∈ b := by
        have := (h x).1 (by simp)
        simpa [hne] using this
      have h2 : y ∈ a := by
        have := (h y).2 (by simp)
        simpa [Ne.symm hne] using this
      exact irr x (pathCmp_trans (ha'.1 y h2) (hb'.1 x h1))
    subst hxy
    congr 1
    refine ss_unique ha'.2 hb'.2 fun z => ?_
    have := h z
    simp only [List.mem_cons] at this
    constructor
    · intro hz
      rcases this.1 (.inr hz) with rfl | h2
      · exact absurd (ha'.1 z hz) (irr z)
      · exact h2
    · intro hz
      rcases this.2 (.inr hz) with rfl | h2
      · exact absurd (hb'.1 z hz) (irr z)
      · exact h2

/-- A list with another one. -/
def putL : List (List Int) → List Int → List (List Int)
  | [], x => [x]
  | a :: l, x => if pathCmp a x < 0 then a :: putL l x else if pathCmp a x = 0 then a :: l else x :: a :: l
theorem putL_mem : ∀ {l : List (List Int)} {x y : List Int}, y ∈ putL l x ↔ y = x ∨ y ∈ l
  | [], x, y => by simp [putL]
  | a :: l, x, y => by
    unfold putL
    split
    · rw [List.mem_cons, putL_mem (l := l), List.mem_cons]
      constructor
      · rintro (h | h | h)
        · exact .inr (.inl h)
        · exact .inl h
        · exact .inr (.inr h)
      · rintro (h | h | h)
        · exact .inr (.inl h)
        · exact .inl h
        · exact .inr (.inr h)
    · split
      · rename_i h0
        obtain rfl := pathCmp_zero.1 h0
        simp
      · simp
theorem putL_ss : ∀ {l : List (List Int)} {x : List Int}, SS l → SS (putL l x)
  | [], x, _ => by simp [putL, SS]
  | a :: l, x, h => by
    have h' := List.pairwise_cons.1 h
    unfold putL
    split
    · rename_i hlt
      refine List.pairwise_cons.2 ⟨fun y hy => ?_, putL_ss h'.2⟩
      rcases putL_mem.1 hy with rfl | hy
      · exact hlt
      · exact h'.1 y hy
    · split
      · exact h
      · rename_i h1 h2
        have ha := pathCmp_anti a x
        refine List.pairwise_cons.2 ⟨fun y hy => ?_, h⟩
        rcases List.mem_cons.1 hy with rfl | hy
        · omega
        · exact pathCmp_trans (by omega) (h'.1 y hy)
theorem putL_len (l : List (List Int)) (x : List Int) : (putL l x).length ≤ l.length + 1 := by
  induction l with
  | nil => simp [putL]
  | cons a l ih =>
    unfold putL
    split
    · simp; omega
    · split <;> simp
def sortL (l : List (List Int)) : List (List Int) := l.foldl putL []
theorem foldl_put : ∀ (l acc : List (List Int)), SS acc → SS (l.foldl putL acc) ∧ ∀ x, x ∈ l.foldl putL acc ↔ x ∈ acc ∨ x ∈ l
  | [], acc, h => ⟨h, by simp⟩
  | a :: l, acc, h => by
    have ih := foldl_put l (putL acc a) (putL_ss h)
    refine ⟨ih.1, fun x => ?_⟩
    rw [List.foldl_cons, ih.2, putL_mem, List.mem_cons]
    constructor
    · rintro ((h | h) | h)
      · exact .inr (.inl h)
      · exact .inl h
      · exact .inr (.inr h)
    · rintro (h | h | h)
      · exact .inl (.inr h)
      · exact .inl (.inl h)
      · exact .inr h
theorem sortL_ss (l : List (List Int)) : SS (sortL l) := (foldl_put l [] List.Pairwise.nil).1
theorem sortL_mem (l : List (List Int)) (x : List Int) : x ∈ sortL l ↔ x ∈ l := by
  have := (foldl_put l [] List.Pairwise.nil).2 x
  simpa [sortL] using this

/-- Equal neighbors but once. -/
def ddp (l : List (List Int)) : List (List Int) := l.foldl (fun acc x => if acc.getLast? = some x then acc else acc ++ [x]) []
theorem ddp_snoc (l : List (List Int)) (x : List Int) : ddp (l ++ [x]) = if (ddp l).getLast? = some x then ddp l else ddp l ++ [x] := by
  unfold ddp
  rw [List.foldl_append]
  rfl
theorem ddp_last (l : List (List Int)) (x : List Int) : (ddp (l ++ [x])).getLast? = some x := by
  rw [ddp_snoc]
  split
  · assumption
  · simp
theorem ddp_step (l : List (List Int)) (x y : List Int) : ddp (l ++ [x] ++ [y]) = if x = y then ddp (l ++ [x]) else ddp (l ++ [x]) ++ [y] := by
  rw [ddp_snoc, ddp_last]
  simp
theorem ddp_ind {p : List (List Int) → Prop} (h0 : p []) (h1 : ∀ l x, p l → p (l ++ [x])) (l : List (List Int)) : p l := by
  have : ∀ n (l : List (List Int)), l.length = n → p l := by
    intro n
    induction n with
    | zero => intro l hl; rw [List.eq_nil_of_length_eq_zero hl]; exact h0
    | succ n ih =>
      intro l hl
      have hne : l ≠ [] := by intro h; rw [h] at hl; simp at hl
      rw [← List.dropLast_concat_getLast hne]
      exact h1 _ _ (ih _ (by simp [hl]))
  exact this _ l rfl
theorem ddp_len (l : List (List Int)) : (ddp l).length ≤ l.length := by
  refine ddp_ind (p := fun l => (ddp l).length ≤ l.length) (by simp [ddp]) (fun l x ih => ?_) l
  rw [ddp_snoc]
  split <;> simp <;> omega
theorem ddp_mem (l : List (List Int)) : ∀ x, x ∈ ddp l ↔ x ∈ l := by
  refine ddp_ind (p := fun l => ∀ x, x ∈ ddp l ↔ x ∈ l) (by simp [ddp]) (fun l y ih x => ?_) l
  rw [ddp_snoc]
  split
  · rename_i h
    have hy : y ∈ ddp l := List.mem_of_getLast? h
    rw [ih x]
    simp
    rintro rfl
    exact (ih x).1 hy
  · simp [ih x]
theorem ddp_ss (l : List (List Int)) : (l.Pairwise fun a b => ¬ pathCmp b a < 0) → SS (ddp l) := by
  refine ddp_ind (p := fun l => (l.Pairwise fun a b => ¬ pathCmp b a < 0) → SS (ddp l)) (fun _ => by simp [ddp, SS]) (fun l y ih hp => ?_) l
  have hp' := List.pairwise_append.1 hp
  rw [ddp_snoc]
  split
  · exact ih hp'.1
  · rename_i hne
    refine List.pairwise_append.2 ⟨ih hp'.1, by simp, fun a ha b hb => ?_⟩
    obtain rfl : b = y := by simpa using hb
    have h1 := hp'.2.2 a ((ddp_mem l a).1 ha) b (by simp)
    have hanti := pathCmp_anti a b
    have h0 : pathCmp a b ≠ 0 := by
      intro h0
      obtain rfl := pathCmp_zero.1 h0
      -- a is in the list, not its last; then the last is greater than a
      obtain ⟨z, hz⟩ : ∃ z, (ddp l).getLast? = some z := by
        cases hd : (ddp l).getLast? with
        | none => rw [List.getLast?_eq_none_iff] at hd; rw [hd] at ha; simp at ha
        | some z => exact ⟨z, rfl⟩
      have hzne : z ≠ a := by rintro rfl; exact hne hz
      have hss := ih hp'.1
      obtain ⟨ys, hys⟩ := List.getLast?_eq_some_iff.1 hz
      rw [hys] at ha hss
      have ha2 : a ∈ ys := by
        rcases List.mem_append.1 ha with h | h
        · exact h
        · simp at h; exact absurd h.symm hzne
      have h3 := (List.pairwise_append.1 hss).2.2 a ha2 z (by simp)
      have hzl : z ∈ l := (ddp_mem l z).1 (by rw [hys]; simp)
      exact (hp'.2.2 z hzl a (by simp)) h3
    omega
/-- Sorted, then each once: the list that sortL names. -/
theorem ddp_sorted {l d : List (List Int)} (hp : d.Perm l) (hs : d.Pairwise fun a b => ¬ pathCmp b a < 0) : ddp d = sortL l :=
  ss_unique (ddp_ss d hs) (sortL_ss l) fun x => by rw [ddp_mem, sortL_mem, hp.mem_iff]
theorem sorted_of {d : Array (List Int)} (h : Go.Sort.SortedIn ltP 0 d.size d) : d.toList.Pairwise fun a b => ¬ pathCmp b a < 0 := by
  rw [List.pairwise_iff_getElem]
  intro i j hi hj hij
  have := h i j (Nat.zero_le _) hij (by simpa using hj)
  simp at hi hj
  rw [getElem!_pos d j hj, getElem!_pos d i hi, ltP_iff'] at this
  simpa using this
theorem perm_of {d d' : Array (List Int)} (h : Go.Sort.PermIn 0 d.size d d') : d'.toList.Perm d.toList := by
  have h1 := h.2.2
  have hs := h.1
  have e1 : d'.extract 0 d.size = d' := by rw [← hs]; exact Array.extract_size
  rw [e1, Array.extract_size] at h1
  exact h1
end Go.Proofs.YtilacabmbjephaaGreatDoor
