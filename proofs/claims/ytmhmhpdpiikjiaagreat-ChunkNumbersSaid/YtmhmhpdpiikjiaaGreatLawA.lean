/- The boards' functions as the law calls them. -/
import Derived.Test.YtmhmhpdpiikjiaaGreatBdPutB
import Derived.Test.YtmhmhpdpiikjiaaGreatBdOpen
import Derived.Test.YtmhmhpdpiikjiaaGreatRefF
import Derived.Test.YtmhmhpdpiikjiaaGreatRefD
namespace Go.Proofs.YtmhmhpdpiikjiaaGreat
open Go.RowKit

set_option maxHeartbeats 400000 in
theorem progOpen_any (w : World) (O : Nat → Prop) (A m : Nat) (l : List Come) (h : BoardA w O A m l) (hm : m ≤ 1099511627776) :
    Calls Tryz.prog 19 #[.pointer (some ⟨A, 0, none⟩)] w fun e w' => OpenTold w w' l e := by
  obtain ⟨-, -, M, D, f, hb, -, hown, hmo⟩ := h
  have hA0 := cell_of_one hb
  have HB := Lib.hid hb; have HOWN := Lib.hid hown; have HM := Lib.hid hmo.has; clear hb hown hmo
  go_enter Tryz.func19, Tryz.ntmps19
  go_wp2_with fail
  refine (known_yes w A M hA0).mono ?_
  rintro e w1 ⟨rfl, rfl⟩
  go_wp2_with fail
  refine (versions_any w M m D l _ HOWN.out HM.out hm).mono ?_
  rintro e w1 ⟨v, rfl, h1, h2, h3⟩
  have H1 := Lib.hid h1; have H2 := Lib.hid h2; have H3 := Lib.hid h3; clear h1 h2 h3
  go_wp2_with fail
  go_ret
  exact ⟨v, rfl, H1.out, H2.out, H3.out⟩

theorem putC_bad {l : List Come} {v a n : Int} {p : List Int} (h : okArgs v a n p.length = false) : putC l v a n p = (l, [], 2) := by unfold putC; rw [if_pos h]
theorem progPut_any (w : World) (O : Nat → Prop) (A m : Nat) (l : List Come) (v a n : Int) (pv : Value) (p : List Int) (h : BoardA w O A m l) (g : GoodC l) (hp : Row w pv p.length (ints .u8 p)) (hpO : ∀ b, pv.ownBlock = some b → ¬ O b) (h8 : Bytes8 p) (hm : m ≤ 1099511627776) :
    Calls Tryz.prog 14 #[.pointer (some ⟨A, 0, none⟩), .int .i64 v, .int .i64 a, .int .i64 n, pv] w (ProgPut w O A (m + 1) (putC l v a n p).1 (putC l v a n p).2.1 (putC l v a n p).2.2) := by
  cases hok : okArgs v a n p.length with
  | true => exact progPut_ok w O A m l v a n pv p h g hp hpO h8 hm hok
  | false =>
    rw [putC_bad hok]
    have hle := hp.le
    obtain ⟨ad, c, rfl, -⟩ := hp
    exact progPut_args w O A (m + 1) l v a n ad p.length c h.mono hle hok
theorem refPut_any (w : World) (O : Nat → Prop) (B : Nat) (l : List Come) (v a n : Int) (pv : Value) (p : List Int) (h : RefB w O B l) (g : GoodC l) (hp : Row w pv p.length (ints .u8 p)) (hpB : 0 < p.length → pv.ownBlock ≠ some B) (h8 : Bytes8 p) (hln : l.length ≤ 1073741824) :
    Calls Tryz.prog 15 #[.pointer (some ⟨B, 0, none⟩), .int .i64 v, .int .i64 a, .int .i64 n, pv] w (RefPut w O B (putC l v a n p).1 (putC l v a n p).2.1 (putC l v a n p).2.2) := by
  cases hok : okArgs v a n p.length with
  | true => exact refPut_ok w O B l v a n pv p h g hp (hpB (by have := okArgs_iff hok; omega)) h8 hln hok
  | false =>
    rw [putC_bad hok]
    have hle := hp.le
    obtain ⟨ad, c, rfl, -⟩ := hp
    exact refPut_args w O B l v a n _ p.length h ⟨ad, c, rfl⟩ hle hok

theorem GoodC.put {l : List Come} (g : GoodC l) {v a n : Int} {p : List Int} (h8 : Bytes8 p) : GoodC (putC l v a n p).1 := by
  unfold putC
  split
  · exact g
  · split
    · exact g
    · rename_i h1 h2
      have h3 := g.add (a := a) (n := n) (p := p) (v := v) (by simpa using h1) h8 (clash_no g (by simpa using h2)).2.1
      split
      · exact h3
      · exact h3.drop v
theorem GoodC.dropE {l : List Come} (g : GoodC l) (v : Int) : GoodC (dropE l v).1 := by
  unfold Proofs.YtmhmhpdpiikjiaaGreat.dropE
  split
  · exact g
  · exact g.drop v
theorem dropC_length (l : List Come) (v : Int) : (dropC l v).length ≤ l.length := List.length_filter_le _ _
theorem dropE_length (l : List Come) (v : Int) : (dropE l v).1.length ≤ l.length := by
  unfold dropE
  split
  · exact Nat.le_refl _
  · exact dropC_length l v
theorem addC_length (l : List Come) (v a n : Int) (p : List Int) : (addC l v a n p).length ≤ l.length + 1 := by
  unfold addC
  split <;> simp
theorem putC_length (l : List Come) (v a n : Int) (p : List Int) : (putC l v a n p).1.length ≤ l.length + 1 := by
  unfold putC
  have h1 := addC_length l v a n p
  have h2 := dropC_length (addC l v a n p) v
  split
  · simp
  · split
    · simp
    · split
      · exact h1
      · simp only; omega
theorem allOf_length {l : List Come} (g : GoodC l) {v : Int} {k : Nat} {r : List Int} (h : allOf l v k = some r) : r.length ≤ k * 1024 := by
  induction k generalizing r with
  | zero => simp only [allOf, Option.some.injEq] at h; subst h; simp
  | succ k ih =>
    simp only [allOf] at h
    cases hr : allOf l v k with
    | none => rw [hr] at h; cases h
    | some r0 =>
      cases hp : findP l v (k : Int) with
      | none => rw [hr, hp] at h; cases h
      | some p =>
        rw [hr, hp] at h
        cases h
        have h1 := okArgs_iff (findP_ok g hp).1
        have h2 := ih hr
        simp; omega
theorem putC_out {l : List Come} (g : GoodC l) {v a n : Int} {p : List Int} (h8 : Bytes8 p) : (putC l v a n p).2.1.length ≤ 40960 := by
  unfold putC
  split
  · simp
  · rename_i h1
    split
    · simp
    · rename_i h2
      have h3 := g.add (a := a) (n := n) (p := p) (v := v) (by simpa using h1) h8 (clash_no g (by simpa using h2)).2.1
      have h4 := okArgs_iff (show okArgs v a n p.length = true by simpa using h1)
      split
      · simp
      · rename_i out h
        have := allOf_length h3 h
        simp only
        omega

end Go.Proofs.YtmhmhpdpiikjiaaGreat
