/- (*bag).apart: each kind in its turn, by the contract of its flat function. -/
import Derived.Test.YtmhmhpdpiikjiaaGreatFlatNil
namespace Go.Proofs.YtmhmhpdpiikjiaaGreat
open Go.RowKit

/-- flat says yes of v, in whatever world of I, and leaves one of I. -/
def FlatYes (I : World → Prop) (f : Nat) (v : Value) : Prop := ∀ W, I W → Calls Tryz.prog f #[v] W fun e w' => e = .returned (.bool true) ∧ I w'
theorem FlatYes.ofNil {I : World → Prop} {f : Nat} {v : Value} (h : ∀ W, Calls Tryz.prog f #[v] W fun e w' => e = .returned (.bool true) ∧ Below W.heap.size W w') (hI : ∀ W W', I W → Below W.heap.size W W' → I W') : FlatYes I f v :=
  fun W hW => (h W).mono fun _ w' ⟨h1, h2⟩ => ⟨h1, hI W w' hW h2⟩
theorem bagCell {I : World → Prop} {B : Nat} {cs : Array Value} {t : TypeId} (h : ∀ W, I W → W.heap[B]? = some (.cells cs t (0, 0))) (W : World) (k : I W) (j : Nat) : W.cell? ⟨B, j, none⟩ = cs[j]? := by
  rw [cell_of_row W B j cs t (0, 0) (h W k)]

set_option maxHeartbeats 1000000 in
set_option maxRecDepth 100000 in
theorem apart_any (I : World → Prop) (w : World) (hw : I w) (B : Nat) (T : TypeId) (v0 v1 v2 v3 v4 v5 v6 v7 v8 v9 v10 v11 v12 v13 v14 v15 v16 v17 v18 v19 v20 : Value)
    (hB : ∀ W, I W → W.heap[B]? = some (.cells #[v0, v1, v2, v3, v4, v5, v6, v7, v8, v9, v10, v11, v12, v13, v14, v15, v16, v17, v18, v19, v20] T (0, 0)))
    (h0 : FlatYes I 46 v0) (h1 : FlatYes I 47 v1) (h2 : FlatYes I 48 v2) (h3 : FlatYes I 49 v3) (h4 : FlatYes I 50 v4) (h5 : FlatYes I 51 v5) (h6 : FlatYes I 52 v6) (h7 : FlatYes I 53 v7) (h8 : FlatYes I 54 v8) (h9 : FlatYes I 55 v9) (h10 : FlatYes I 56 v10) (h11 : FlatYes I 57 v11) (h12 : FlatYes I 58 v12) (h13 : FlatYes I 59 v13) (h14 : FlatYes I 60 v14) (h15 : FlatYes I 61 v15) (h16 : FlatYes I 62 v16) (h17 : FlatYes I 63 v17) (h18 : FlatYes I 64 v18) (h19 : FlatYes I 65 v19) (h20 : FlatYes I 66 v20) :
    Calls Tryz.prog 38 #[.pointer (some ⟨B, 0, none⟩)] w fun e w' => e = .returned (.bool true) ∧ I w' := by
  have HC := Lib.hid (bagCell hB); clear hB
  have H0 := Lib.hid h0; clear h0; have H1 := Lib.hid h1; clear h1; have H2 := Lib.hid h2; clear h2; have H3 := Lib.hid h3; clear h3; have H4 := Lib.hid h4; clear h4; have H5 := Lib.hid h5; clear h5; have H6 := Lib.hid h6; clear h6; have H7 := Lib.hid h7; clear h7; have H8 := Lib.hid h8; clear h8; have H9 := Lib.hid h9; clear h9; have H10 := Lib.hid h10; clear h10; have H11 := Lib.hid h11; clear h11; have H12 := Lib.hid h12; clear h12; have H13 := Lib.hid h13; clear h13; have H14 := Lib.hid h14; clear h14; have H15 := Lib.hid h15; clear h15; have H16 := Lib.hid h16; clear h16; have H17 := Lib.hid h17; clear h17; have H18 := Lib.hid h18; clear h18; have H19 := Lib.hid h19; clear h19; have H20 := Lib.hid h20; clear h20
  have k0 := Lib.hid hw; clear hw
  have c0 := HC.out w k0.out 0
  simp only [List.getElem?_toArray, List.getElem?_cons_zero] at c0
  go_enter Tryz.func38, Tryz.ntmps38
  go_wp2_with fail
  refine (H0.out _ k0.out).mono ?_
  rintro e w1 ⟨rfl, q0⟩
  have k1 := Lib.hid q0
  have c1 := HC.out w1 k1.out 1
  simp only [List.getElem?_toArray, List.getElem?_cons_succ, List.getElem?_cons_zero] at c1
  clear c0 q0 k0
  go_wp2_with fail
  refine (H1.out _ k1.out).mono ?_
  rintro e w2 ⟨rfl, q1⟩
  have k2 := Lib.hid q1
  have c2 := HC.out w2 k2.out 2
  simp only [List.getElem?_toArray, List.getElem?_cons_succ, List.getElem?_cons_zero] at c2
  clear c1 q1 k1
  go_wp2_with fail
  refine (H2.out _ k2.out).mono ?_
  rintro e w3 ⟨rfl, q2⟩
  have k3 := Lib.hid q2
  have c3 := HC.out w3 k3.out 3
  simp only [List.getElem?_toArray, List.getElem?_cons_succ, List.getElem?_cons_zero] at c3
  clear c2 q2 k2
  go_wp2_with fail
  refine (H3.out _ k3.out).mono ?_
  rintro e w4 ⟨rfl, q3⟩
  have k4 := Lib.hid q3
  have c4 := HC.out w4 k4.out 4
  simp only [List.getElem?_toArray, List.getElem?_cons_succ, List.getElem?_cons_zero] at c4
  clear c3 q3 k3
  go_wp2_with fail
  refine (H4.out _ k4.out).mono ?_
  rintro e w5 ⟨rfl, q4⟩
  have k5 := Lib.hid q4
  have c5 := HC.out w5 k5.out 5
  simp only [List.getElem?_toArray, List.getElem?_cons_succ, List.getElem?_cons_zero] at c5
  clear c4 q4 k4
  go_wp2_with fail
  refine (H5.out _ k5.out).mono ?_
  rintro e w6 ⟨rfl, q5⟩
  have k6 := Lib.hid q5
  have c6 := HC.out w6 k6.out 6
  simp only [List.getElem?_toArray, List.getElem?_cons_succ, List.getElem?_cons_zero] at c6
  clear c5 q5 k5
  go_wp2_with fail
  refine (H6.out _ k6.out).mono ?_
  rintro e w7 ⟨rfl, q6⟩
  have k7 := Lib.hid q6
  have c7 := HC.out w7 k7.out 7
  simp only [List.getElem?_toArray, List.getElem?_cons_succ, List.getElem?_cons_zero] at c7
  clear c6 q6 k6
  go_wp2_with fail
  refine (H7.out _ k7.out).mono ?_
  rintro e w8 ⟨rfl, q7⟩
  have k8 := Lib.hid q7
  have c8 := HC.out w8 k8.out 8
  simp only [List.getElem?_toArray, List.getElem?_cons_succ, List.getElem?_cons_zero] at c8
  clear c7 q7 k7
  go_wp2_with fail
  refine (H8.out _ k8.out).mono ?_
  rintro e w9 ⟨rfl, q8⟩
  have k9 := Lib.hid q8
  have c9 := HC.out w9 k9.out 9
  simp only [List.getElem?_toArray, List.getElem?_cons_succ, List.getElem?_cons_zero] at c9
  clear c8 q8 k8
  go_wp2_with fail
  refine (H9.out _ k9.out).mono ?_
  rintro e w10 ⟨rfl, q9⟩
  have k10 := Lib.hid q9
  have c10 := HC.out w10 k10.out 10
  simp only [List.getElem?_toArray, List.getElem?_cons_succ, List.getElem?_cons_zero] at c10
  clear c9 q9 k9
  go_wp2_with fail
  refine (H10.out _ k10.out).mono ?_
  rintro e w11 ⟨rfl, q10⟩
  have k11 := Lib.hid q10
  have c11 := HC.out w11 k11.out 11
  simp only [List.getElem?_toArray, List.getElem?_cons_succ, List.getElem?_cons_zero] at c11
  clear c10 q10 k10
  go_wp2_with fail
  refine (H11.out _ k11.out).mono ?_
  rintro e w12 ⟨rfl, q11⟩
  have k12 := Lib.hid q11
  have c12 := HC.out w12 k12.out 12
  simp only [List.getElem?_toArray, List.getElem?_cons_succ, List.getElem?_cons_zero] at c12
  clear c11 q11 k11
  go_wp2_with fail
  refine (H12.out _ k12.out).mono ?_
  rintro e w13 ⟨rfl, q12⟩
  have k13 := Lib.hid q12
  have c13 := HC.out w13 k13.out 13
  simp only [List.getElem?_toArray, List.getElem?_cons_succ, List.getElem?_cons_zero] at c13
  clear c12 q12 k12
  go_wp2_with fail
  refine (H13.out _ k13.out).mono ?_
  rintro e w14 ⟨rfl, q13⟩
  have k14 := Lib.hid q13
  have c14 := HC.out w14 k14.out 14
  simp only [List.getElem?_toArray, List.getElem?_cons_succ, List.getElem?_cons_zero] at c14
  clear c13 q13 k13
  go_wp2_with fail
  refine (H14.out _ k14.out).mono ?_
  rintro e w15 ⟨rfl, q14⟩
  have k15 := Lib.hid q14
  have c15 := HC.out w15 k15.out 15
  simp only [List.getElem?_toArray, List.getElem?_cons_succ, List.getElem?_cons_zero] at c15
  clear c14 q14 k14
  go_wp2_with fail
  refine (H15.out _ k15.out).mono ?_
  rintro e w16 ⟨rfl, q15⟩
  have k16 := Lib.hid q15
  have c16 := HC.out w16 k16.out 16
  simp only [List.getElem?_toArray, List.getElem?_cons_succ, List.getElem?_cons_zero] at c16
  clear c15 q15 k15
  go_wp2_with fail
  refine (H16.out _ k16.out).mono ?_
  rintro e w17 ⟨rfl, q16⟩
  have k17 := Lib.hid q16
  have c17 := HC.out w17 k17.out 17
  simp only [List.getElem?_toArray, List.getElem?_cons_succ, List.getElem?_cons_zero] at c17
  clear c16 q16 k16
  go_wp2_with fail
  refine (H17.out _ k17.out).mono ?_
  rintro e w18 ⟨rfl, q17⟩
  have k18 := Lib.hid q17
  have c18 := HC.out w18 k18.out 18
  simp only [List.getElem?_toArray, List.getElem?_cons_succ, List.getElem?_cons_zero] at c18
  clear c17 q17 k17
  go_wp2_with fail
  refine (H18.out _ k18.out).mono ?_
  rintro e w19 ⟨rfl, q18⟩
  have k19 := Lib.hid q18
  have c19 := HC.out w19 k19.out 19
  simp only [List.getElem?_toArray, List.getElem?_cons_succ, List.getElem?_cons_zero] at c19
  clear c18 q18 k18
  go_wp2_with fail
  refine (H19.out _ k19.out).mono ?_
  rintro e w20 ⟨rfl, q19⟩
  have k20 := Lib.hid q19
  have c20 := HC.out w20 k20.out 20
  simp only [List.getElem?_toArray, List.getElem?_cons_succ, List.getElem?_cons_zero] at c20
  clear c19 q19 k19
  go_wp2_with fail
  refine (H20.out _ k20.out).mono ?_
  rintro e w21 ⟨rfl, q20⟩
  have k21 := Lib.hid q20
  go_wp2_with fail
  go_ret
  exact ⟨rfl, k21.out⟩

end Go.Proofs.YtmhmhpdpiikjiaaGreat
