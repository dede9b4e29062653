/- The versions that are open, rising: put in one by one. No program in sight. -/
import Derived.Test.YtmhmhpdpiikjiaaGreatChunkModel
import Derived.Lib.SlKeysI
namespace Go.Proofs.YtmhmhpdpiikjiaaGreat
open Go.RowKit

/-- How many numbers at the head lie below v. -/
def posV (v : Int) : List Int → Nat
  | [] => 0
  | x :: r => if x < v then posV v r + 1 else 0
def insV (v : Int) (xs : List Int) : List Int := if xs[posV v xs]? = some v then xs else xs.take (posV v xs) ++ v :: xs.drop (posV v xs)
/-- The versions of a board, rising. -/
def openL (l : List Come) : List Int := l.foldl (fun xs c => insV c.ver xs) []

theorem posV_le (v : Int) (xs : List Int) : posV v xs ≤ xs.length := by
  induction xs with
  | nil => simp [posV]
  | cons x r ih => simp only [posV]; split <;> simp <;> omega
theorem posV_lt (v : Int) (xs : List Int) (i : Nat) (h : i < posV v xs) (h2 : i < xs.length) : xs[i] < v := by
  induction xs generalizing i with
  | nil => simp at h2
  | cons x r ih =>
    simp only [posV] at h
    split at h
    · rename_i hx
      cases i with
      | zero => exact hx
      | succ i => exact ih i (by omega) (by simpa using h2)
    · omega
theorem posV_at (v : Int) (xs : List Int) (h : posV v xs < xs.length) : v ≤ xs[posV v xs] := by
  induction xs with
  | nil => simp at h
  | cons x r ih =>
    by_cases hx : x < v
    · have e : posV v (x :: r) = posV v r + 1 := by simp [posV, hx]
      simp only [e, List.getElem_cons_succ]
      exact ih (by rw [e] at h; simpa using h)
    · have e : posV v (x :: r) = 0 := by simp [posV, hx]
      simp only [e, List.getElem_cons_zero]; omega
/-- How the place is found, step by step. -/
theorem posV_step (v : Int) (xs : List Int) (a : Nat) (h : ∀ i (_ : i < a) (h2 : i < xs.length), xs[i] < v) (_ha : a ≤ xs.length) : (a = xs.length → posV v xs = a) ∧ (∀ h2 : a < xs.length, v ≤ xs[a] → posV v xs = a) := by
  have h1 := posV_le v xs
  constructor
  · intro e
    rcases Nat.lt_or_ge (posV v xs) a with hlt | hge
    · have := posV_at v xs (by omega); have := h _ hlt (by omega); omega
    · omega
  · intro h2 hv
    rcases Nat.lt_trichotomy (posV v xs) a with hlt | he | hgt
    · have := posV_at v xs (by omega); have := h _ hlt (by omega); omega
    · exact he
    · have := posV_lt v xs a hgt h2; omega
theorem mem_insV (v : Int) (xs : List Int) (x : Int) : x ∈ insV v xs ↔ x = v ∨ x ∈ xs := by
  unfold insV
  split
  · rename_i h
    have := List.mem_of_getElem? h
    constructor
    · exact Or.inr
    · rintro (rfl | h); exact this; exact h
  · conv => rhs; rw [← List.take_append_drop (posV v xs) xs]
    simp only [List.mem_append, List.mem_cons]
    constructor
    · rintro (h | h | h)
      · exact Or.inr (Or.inl h)
      · exact Or.inl h
      · exact Or.inr (Or.inr h)
    · rintro (h | h | h)
      · exact Or.inr (Or.inl h)
      · exact Or.inl h
      · exact Or.inr (Or.inr h)
theorem insV_sorted (v : Int) (xs : List Int) (h : xs.Pairwise (· < ·)) : (insV v xs).Pairwise (· < ·) := by
  unfold insV
  split
  · exact h
  · rename_i hne
    have h0 := h
    rw [← List.take_append_drop (posV v xs) xs, List.pairwise_append] at h
    obtain ⟨h1, h2, h3⟩ := h
    have hd : ∀ y ∈ xs.drop (posV v xs), v < y := by
      intro y hy
      rcases Nat.lt_or_ge (posV v xs) xs.length with hl | hl
      · have e := List.drop_eq_getElem_cons hl
        have hv := posV_at v xs hl
        have hne' : xs[posV v xs] ≠ v := fun e => hne (by rw [List.getElem?_eq_getElem hl, e])
        rw [e] at hy h2
        rcases List.mem_cons.1 hy with rfl | hy
        · omega
        · have := (List.pairwise_cons.1 h2).1 y hy; omega
      · rw [List.drop_of_length_le hl] at hy; simp at hy
    rw [List.pairwise_append]
    refine ⟨h1, List.pairwise_cons.2 ⟨hd, h2⟩, fun x hx y hy => ?_⟩
    obtain ⟨i, hi, rfl⟩ := List.mem_iff_getElem.1 hx
    have hxv : (xs.take (posV v xs))[i] < v := by
      rw [List.getElem_take]
      exact posV_lt v xs i (by simp at hi; omega) (by simp at hi; omega)
    rcases List.mem_cons.1 hy with rfl | hy
    · exact hxv
    · have := hd y hy; omega
theorem insV_length (v : Int) (xs : List Int) : (insV v xs).length ≤ xs.length + 1 := by
  unfold insV
  have := posV_le v xs
  split <;> simp <;> omega

theorem openL_snoc (l : List Come) (c : Come) : openL (l ++ [c]) = insV c.ver (openL l) := by simp [openL]
theorem openL_take (l : List Come) (k : Nat) (hk : k < l.length) : openL (l.take (k + 1)) = insV l[k].ver (openL (l.take k)) := by
  rw [List.take_succ_eq_append_getElem hk, openL_snoc]
theorem openL_go (l : List Come) (xs : List Int) : ∀ x, x ∈ l.foldl (fun xs c => insV c.ver xs) xs ↔ x ∈ xs ∨ ∃ c ∈ l, c.ver = x := by
  induction l generalizing xs with
  | nil => intro x; simp
  | cons c r ih =>
    intro x
    rw [List.foldl_cons, ih, mem_insV]
    simp only [List.mem_cons, exists_eq_or_imp]
    constructor
    · rintro ((rfl | h) | h)
      · exact Or.inr (Or.inl rfl)
      · exact Or.inl h
      · exact Or.inr (Or.inr h)
    · rintro (h | rfl | h)
      · exact Or.inl (Or.inr h)
      · exact Or.inl (Or.inl rfl)
      · exact Or.inr h
theorem mem_openL (l : List Come) (x : Int) : x ∈ openL l ↔ findV l x ≠ none := by
  unfold openL
  rw [openL_go]
  simp only [List.not_mem_nil, false_or]
  constructor
  · rintro ⟨c, hc, rfl⟩ h
    exact findV_none h c hc rfl
  · intro h
    obtain ⟨c, hc⟩ := Option.ne_none_iff_exists'.1 h
    have := findV_mem hc
    exact ⟨c, this.1, this.2⟩
theorem openL_sorted (l : List Come) : (openL l).Pairwise (· < ·) := by
  unfold openL
  suffices h : ∀ xs : List Int, xs.Pairwise (· < ·) → (l.foldl (fun xs c => insV c.ver xs) xs).Pairwise (· < ·) from h [] List.Pairwise.nil
  induction l with
  | nil => intro xs h; exact h
  | cons c r ih => intro xs h; exact ih _ (insV_sorted _ _ h)
theorem openL_length (l : List Come) : (openL l).length ≤ l.length := by
  unfold openL
  suffices h : ∀ xs : List Int, (l.foldl (fun xs c => insV c.ver xs) xs).length ≤ xs.length + l.length from by simpa using h []
  induction l with
  | nil => intro xs; simp
  | cons c r ih => intro xs; have := ih (insV c.ver xs); have := insV_length c.ver xs; simp; omega
theorem openL_nodup (l : List Come) : (openL l).Nodup := (openL_sorted l).imp fun h => by omega
/-- What a map's keys come to when they are sorted. -/
theorem openL_of_perm {H : Type} (l : List Come) {es : List (Lit × DataW H)} (hp : es.Pairwise (fun p q => p.1 ≠ q.1)) (hk : ∀ p ∈ es, ∃ x, p.1 = .int .i64 x) (hm : ∀ x, Maps.has (.map es) (.int .i64 x) = true ↔ findV l x ≠ none) {ss : List Int} (hs : ss.Perm (intKeys (.map es))) :
    ss.mergeSort leI = openL l := by
  have h1 := perm_intKeys hp hk (openL_nodup l) (fun x => by rw [mem_openL, hm])
  rw [mergeSort_of_perm_i (hs.trans h1.symm)]
  exact List.mergeSort_of_pairwise ((openL_sorted l).imp fun h => by simp; omega)

/-- What is told of the versions that are open. -/
def OpenTold (w w' : World) (l : List Come) (e : Ending) : Prop :=
  ∃ v, e = .returned v ∧ w'.ownsRow 0 3 1 v (openL l).length (ints .i64 (openL l)) ∧ (∀ b, v.ownBlock = some b → w.heap.size ≤ b) ∧ Below w.heap.size w w'

end Go.Proofs.YtmhmhpdpiikjiaaGreat
