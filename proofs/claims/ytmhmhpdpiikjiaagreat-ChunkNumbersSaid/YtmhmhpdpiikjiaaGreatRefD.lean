/- The document's boards and pieces: New, Drop, Cut. -/
import Derived.Test.YtmhmhpdpiikjiaaGreatRefC
namespace Go.Proofs.YtmhmhpdpiikjiaaGreat
open Go.RowKit

theorem refNew_any (w : World) :
    Calls Tryz.prog 7 #[] w fun e w' => ∃ B, e = .returned (.pointer (some ⟨B, 0, none⟩)) ∧ w.heap.size ≤ B ∧ RefB w' (fun b => b = B) B [] ∧ Below w.heap.size w w' := by
  go_enter Tryz.func7, Tryz.ntmps7
  go_wp2_with fail
  go_ret
  refine ⟨w.heap.size, rfl, Nat.le_refl _, ⟨rfl, by rintro b rfl; simp, .slice none 0 0, [], rfl, heap_alloc_new _ _, World.ownsRow_nil _ _ _ _, by simp [Value.ownBlock], by simp⟩, (Below.refl _ w).alloc (Nat.le_refl _) _⟩

set_option maxHeartbeats 400000 in
theorem refDrop_any (w : World) (O : Nat → Prop) (B : Nat) (l : List Come) (v : Int) (h : RefB w O B l) (hn : l.length ≤ 1099511627776) :
    Calls Tryz.prog 11 #[.pointer (some ⟨B, 0, none⟩), .int .i64 v] w fun e w' => e = .returned (.int .i64 (dropE l v).2) ∧ ∃ O', RefB w' O' B (dropE l v).1 ∧ (∀ b, O' b → O b ∨ w.heap.size ≤ b) ∧ Kept (fun b => b = B) w w' := by
  have H := Lib.hid h; clear h
  go_enter Tryz.func11, Tryz.ntmps11
  go_wp2_with fail
  refine (refWhole_any w O B l v H.out hn).mono ?_
  rintro e w1 ⟨rfl, rfl⟩
  by_cases hz : findW l v = 0
  · have e1 : (findW l v == 0) = true := by simp [hz]
    have hd : dropE l v = (l, 6) := by unfold dropE; rw [if_pos hz]
    have HD := Lib.hid hd; clear hd hz
    go_wp2_with fail
    go_ret
    exact ⟨by rw [HD.out]; rfl, O, by rw [HD.out]; exact H.out, fun b hb => Or.inl hb, Kept.refl _ _⟩
  · have e1 : (findW l v == 0) = false := by simp [hz]
    have hd : dropE l v = (dropC l v, 0) := by unfold dropE; rw [if_neg hz]
    have HD := Lib.hid hd; clear hd hz
    go_wp2_with fail
    refine (refDropAll_any w O B l v H.out hn).mono ?_
    rintro e w1 ⟨rfl, O', q1, q2, q3⟩
    have Q1 := Lib.hid q1; have Q2 := Lib.hid q2; have Q3 := Lib.hid q3; clear q1 q2 q3
    go_wp2_with fail
    go_ret
    exact ⟨by rw [HD.out]; rfl, O', by rw [HD.out]; exact Q1.out, Q2.out, Q3.out⟩

end Go.Proofs.YtmhmhpdpiikjiaaGreat
