/- Boards as the document has them: all that came, in a row. No program in sight. -/
import Derived.Test.YtmhmhpdpiikjiaaGreatLib
namespace Go.Proofs.YtmhmhpdpiikjiaaGreat
open Go.RowKit

/-- What may be put. -/
def okArgs (v a n : Int) (len : Nat) : Bool := decide (1 ≤ v ∧ v ≤ 1073741824 ∧ 1 ≤ n ∧ n ≤ 40 ∧ 0 ≤ a ∧ a < n ∧ 1 ≤ len ∧ len ≤ 1024 ∧ (len = 1024 ∨ a = n - 1))
/-- Numbers that are bytes. -/
def Bytes8 (xs : List Int) : Prop := ∀ x ∈ xs, 0 ≤ x ∧ x ≤ 255

/-- A piece that came. -/
structure Come where
  ver : Int
  pos : Int
  whole : Int
  pc : List Int

def findC (l : List Come) (v a : Int) : Option Come := l.find? fun c => c.ver == v && c.pos == a
def findP (l : List Come) (v a : Int) : Option (List Int) := (findC l v a).map Come.pc
def findV (l : List Come) (v : Int) : Option Come := l.find? fun c => c.ver == v
def findW (l : List Come) (v : Int) : Int := ((findV l v).map Come.whole).getD 0
def dropC (l : List Come) (v : Int) : List Come := l.filter fun c => c.ver != v
def clash (l : List Come) (v a n : Int) (p : List Int) : Bool := (decide (0 < findW l v) && decide (findW l v ≠ n)) || (match findP l v a with | none => false | some q => decide (q ≠ p))
def addC (l : List Come) (v a n : Int) (p : List Int) : List Come := match findP l v a with | none => l ++ [⟨v, a, n, p⟩] | some _ => l
/-- The first k pieces of a version, one behind the other; none, if one is missing. -/
def allOf (l : List Come) (v : Int) : Nat → Option (List Int)
  | 0 => some []
  | k + 1 => match allOf l v k, findP l v (k : Int) with | some r, some p => some (r ++ p) | _, _ => none
/-- Put: what is left, what is told, the error. -/
def putC (l : List Come) (v a n : Int) (p : List Int) : List Come × List Int × Int :=
  if okArgs v a n p.length = false then (l, [], 2)
  else if clash l v a n p = true then (l, [], 7)
  else match allOf (addC l v a n p) v n.toNat with
    | none => (addC l v a n p, [], 0)
    | some out => (dropC (addC l v a n p) v, out, 0)
def dropE (l : List Come) (v : Int) : List Come × Int := if findW l v = 0 then (l, 6) else (dropC l v, 0)

/-- What holds of every board. -/
structure GoodC (l : List Come) : Prop where
  ok : ∀ c ∈ l, okArgs c.ver c.pos c.whole c.pc.length = true
  by8 : ∀ c ∈ l, Bytes8 c.pc
  one : ∀ c ∈ l, c.whole = findW l c.ver

theorem findV_mem {l : List Come} {v : Int} {c : Come} (h : findV l v = some c) : c ∈ l ∧ c.ver = v := by
  refine ⟨List.mem_of_find?_eq_some h, ?_⟩
  have := List.find?_some h
  simpa using this
theorem findC_mem {l : List Come} {v a : Int} {c : Come} (h : findC l v a = some c) : c ∈ l ∧ c.ver = v ∧ c.pos = a := by
  refine ⟨List.mem_of_find?_eq_some h, ?_⟩
  have := List.find?_some h
  simpa using this
theorem findV_none {l : List Come} {v : Int} (h : findV l v = none) : ∀ c ∈ l, c.ver ≠ v := by
  intro c hc e
  have := List.find?_eq_none.1 h c hc
  simp [e] at this
theorem findP_none_of {l : List Come} {v : Int} (h : findV l v = none) (a : Int) : findP l v a = none := by
  unfold findP findC
  rw [List.find?_eq_none.2]
  · rfl
  · intro c hc
    have := findV_none h c hc
    simp [this]
theorem findW_pos {l : List Come} (g : GoodC l) {v : Int} {c : Come} (h : findV l v = some c) : findW l v = c.whole ∧ 1 ≤ findW l v ∧ findW l v ≤ 40 ∧ 1 ≤ v ∧ v ≤ 1073741824 := by
  obtain ⟨h1, h2⟩ := findV_mem h
  have h3 := g.ok c h1
  have h4 : findW l v = c.whole := by unfold findW; rw [h]; rfl
  unfold okArgs at h3
  rw [decide_eq_true_eq] at h3
  rw [h4]
  refine ⟨rfl, ?_, ?_, ?_, ?_⟩ <;> omega
theorem findW_zero {l : List Come} (g : GoodC l) {v : Int} : findW l v = 0 ↔ findV l v = none := by
  constructor
  · intro h
    cases hv : findV l v with
    | none => rfl
    | some c => have := findW_pos g hv; omega
  · intro h; unfold findW; rw [h]; rfl
theorem findP_ok {l : List Come} (g : GoodC l) {v a : Int} {p : List Int} (h : findP l v a = some p) : okArgs v a (findW l v) p.length = true ∧ Bytes8 p ∧ ∃ c, findV l v = some c := by
  unfold findP at h
  obtain ⟨c, hc, rfl⟩ := Option.map_eq_some_iff.1 h
  obtain ⟨h1, rfl, rfl⟩ := findC_mem hc
  refine ⟨by rw [← g.one c h1]; exact g.ok c h1, g.by8 c h1, ?_⟩
  cases hv : findV l c.ver with
  | none => exact absurd rfl (findV_none hv c h1)
  | some d => exact ⟨d, rfl⟩

theorem GoodC.nil : GoodC [] := ⟨by simp, by simp, by simp⟩
theorem findV_add {l : List Come} {v a n : Int} {p : List Int} (x : Int) : findV (l ++ [⟨v, a, n, p⟩]) x = (findV l x).or (if v = x then some ⟨v, a, n, p⟩ else none) := by
  unfold findV
  rw [List.find?_append]
  congr 1
  by_cases h : v = x <;> simp [h]
theorem findC_add {l : List Come} {v a n : Int} {p : List Int} (x y : Int) : findC (l ++ [⟨v, a, n, p⟩]) x y = (findC l x y).or (if v = x ∧ a = y then some ⟨v, a, n, p⟩ else none) := by
  unfold findC
  rw [List.find?_append]
  congr 1
  by_cases h : v = x ∧ a = y
  · simp [h.1, h.2]
  · rw [if_neg h]
    have : (v == x && a == y) = false := by rw [Bool.and_eq_false_iff]; by_cases hx : v = x; right; simp; exact fun hy => h ⟨hx, hy⟩; left; simp [hx]
    simp [this]
theorem findV_drop {l : List Come} {v : Int} (x : Int) : findV (dropC l v) x = if x = v then none else findV l x := by
  unfold findV dropC
  split
  · rename_i h; subst h
    rw [List.find?_eq_none]
    intro c hc
    have := (List.mem_filter.1 hc).2
    simpa using this
  · rename_i h
    induction l with
    | nil => rfl
    | cons c r ih =>
      by_cases hc : c.ver = v
      · have h1 : (c.ver != v) = false := by simp [hc]
        have h2 : (c.ver == x) = false := by simp [hc]; exact fun e => h e.symm
        rw [List.filter_cons_of_neg (by simp [h1]), List.find?_cons, h2]
        exact ih
      · have h1 : (c.ver != v) = true := by simp [hc]
        rw [List.filter_cons_of_pos (p := fun c : Come => c.ver != v) h1, List.find?_cons, List.find?_cons]
        split
        · rfl
        · exact ih
theorem findC_drop {l : List Come} {v : Int} (x y : Int) : findC (dropC l v) x y = if x = v then none else findC l x y := by
  unfold findC dropC
  split
  · rename_i h; subst h
    rw [List.find?_eq_none]
    intro c hc
    have := (List.mem_filter.1 hc).2
    simp at this
    simp [this]
  · rename_i h
    induction l with
    | nil => rfl
    | cons c r ih =>
      by_cases hc : c.ver = v
      · have h1 : (c.ver != v) = false := by simp [hc]
        have h2 : (c.ver == x && c.pos == y) = false := by simp [hc]; exact fun e => absurd e.symm h
        rw [List.filter_cons_of_neg (by simp [h1]), List.find?_cons, h2]
        exact ih
      · have h1 : (c.ver != v) = true := by simp [hc]
        rw [List.filter_cons_of_pos (p := fun c : Come => c.ver != v) h1, List.find?_cons, List.find?_cons]
        split
        · rfl
        · exact ih
theorem findP_drop {l : List Come} {v : Int} (x y : Int) : findP (dropC l v) x y = if x = v then none else findP l x y := by
  unfold findP; rw [findC_drop]; split <;> rfl
theorem findW_drop {l : List Come} {v : Int} (x : Int) : findW (dropC l v) x = if x = v then 0 else findW l x := by
  unfold findW; rw [findV_drop]; split <;> rfl
theorem GoodC.drop {l : List Come} (g : GoodC l) (v : Int) : GoodC (dropC l v) := by
  refine ⟨fun c hc => g.ok c (List.mem_filter.1 hc).1, fun c hc => g.by8 c (List.mem_filter.1 hc).1, fun c hc => ?_⟩
  obtain ⟨h1, h2⟩ := List.mem_filter.1 hc
  rw [findW_drop, if_neg (by simpa using h2)]
  exact g.one c h1
theorem findP_addC {l : List Come} {v a n : Int} {p : List Int} (h : ∀ q, findP l v a = some q → q = p) (x y : Int) : findP (addC l v a n p) x y = if x = v ∧ y = a then some p else findP l x y := by
  unfold addC
  cases hp : findP l v a with
  | none =>
    simp only
    unfold findP
    rw [findC_add]
    by_cases hxy : x = v ∧ y = a
    · obtain ⟨rfl, rfl⟩ := hxy
      unfold findP at hp
      rw [Option.map_eq_none_iff] at hp
      simp [hp]
    · rw [if_neg hxy, if_neg (fun h => hxy ⟨h.1.symm, h.2.symm⟩)]; simp
  | some q =>
    simp only
    by_cases hxy : x = v ∧ y = a
    · obtain ⟨rfl, rfl⟩ := hxy
      rw [if_pos ⟨rfl, rfl⟩, hp, h q hp]
    · rw [if_neg hxy]
theorem findW_addC {l : List Come} (g : GoodC l) {v a n : Int} {p : List Int} (hn : findW l v = 0 ∨ findW l v = n) (x : Int) : findW (addC l v a n p) x = if x = v then n else findW l x := by
  unfold addC
  cases hp : findP l v a with
  | none =>
    simp only
    unfold findW at hn ⊢
    rw [findV_add]
    by_cases hx : x = v
    · subst hx
      cases hv : findV l x with
      | none => simp
      | some c =>
        rw [hv] at hn
        have := findW_pos g hv
        unfold findW at this
        rw [hv] at this
        simp at this hn ⊢
        omega
    · rw [if_neg hx, if_neg (fun h => hx h.symm)]; simp
  | some q =>
    simp only
    by_cases hx : x = v
    · subst hx
      rw [if_pos rfl]
      obtain ⟨_, _, c, hc⟩ := findP_ok g hp
      have := findW_pos g hc
      omega
    · rw [if_neg hx]
theorem GoodC.add {l : List Come} (g : GoodC l) {v a n : Int} {p : List Int} (hok : okArgs v a n p.length = true) (h8 : Bytes8 p) (hn : findW l v = 0 ∨ findW l v = n) : GoodC (addC l v a n p) := by
  have hW := fun x => findW_addC (a := a) (p := p) g hn x
  have hmem : ∀ c ∈ addC l v a n p, c ∈ l ∨ c = ⟨v, a, n, p⟩ := by
    intro c hc
    unfold addC at hc
    cases hp : findP l v a with
    | none => rw [hp] at hc; simpa using hc
    | some q => rw [hp] at hc; exact Or.inl hc
  refine ⟨fun c hc => ?_, fun c hc => ?_, fun c hc => ?_⟩
  · rcases hmem c hc with h | rfl
    · exact g.ok c h
    · exact hok
  · rcases hmem c hc with h | rfl
    · exact g.by8 c h
    · exact h8
  · rcases hmem c hc with h | rfl
    · rw [hW, g.one c h]
      split
      · rename_i e
        have h1 := g.one c h
        have h2 := g.ok c h
        unfold okArgs at h2
        rw [decide_eq_true_eq] at h2
        rw [e] at h1 ⊢
        omega
      · rfl
    · rw [hW]; simp

theorem allOf_none {l : List Come} {v : Int} {k n : Nat} {r : List Int} (h : findP l v (k : Int) = none) (_h2 : allOf l v k = some r) (hk : k < n) : allOf l v n = none := by
  induction n with
  | zero => omega
  | succ n ih =>
    by_cases hkn : k = n
    · subst hkn
      simp only [allOf]
      rw [h]
      cases allOf l v k <;> rfl
    · simp only [allOf]
      rw [ih (by omega)]

end Go.Proofs.YtmhmhpdpiikjiaaGreat
