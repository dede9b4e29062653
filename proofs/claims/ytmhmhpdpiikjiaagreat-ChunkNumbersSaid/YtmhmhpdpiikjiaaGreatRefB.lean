/- The document's boards in memory: what is put. -/
import Derived.Test.YtmhmhpdpiikjiaaGreatRefA
import Derived.Deep.RegionLaw
import Derived.Deep.CutRange
namespace Go.Proofs.YtmhmhpdpiikjiaaGreat
open Go.RowKit

/-- Behind a Put on the document's board. -/
def RefPut (w : World) (O : Nat → Prop) (B : Nat) (l' : List Come) (out : List Int) (err : Int) (e : Ending) (w' : World) : Prop :=
  ∃ x, e = .returned (.tuple #[x, .int .i64 err]) ∧ w'.ownsRow 0 5 1 x out.length (ints .u8 out) ∧ (∀ b, x.ownBlock = some b → w.heap.size ≤ b) ∧
    ∃ O', RefB w' O' B l' ∧ (∀ b, O' b → O b ∨ w.heap.size ≤ b) ∧ Kept O w w'

set_option maxHeartbeats 2000000 in
set_option maxRecDepth 100000 in
theorem refPut_args (w : World) (O : Nat → Prop) (B : Nat) (l : List Come) (v a n : Int) (pv : Value) (len : Nat) (h : RefB w O B l) (hp : ∃ ad c, pv = .slice ad len c) (hle : len ≤ 9223372036854775807) (hok : okArgs v a n len = false) :
    Calls Tryz.prog 15 #[.pointer (some ⟨B, 0, none⟩), .int .i64 v, .int .i64 a, .int .i64 n, pv] w (RefPut w O B l [] 2) := by
  obtain ⟨ad, c, rfl⟩ := hp
  have hno : ¬ (1 ≤ v ∧ v ≤ 1073741824 ∧ 1 ≤ n ∧ n ≤ 40 ∧ 0 ≤ a ∧ a < n ∧ 1 ≤ len ∧ len ≤ 1024 ∧ (len = 1024 ∨ a = n - 1)) := of_decide_eq_false hok
  have HN := Lib.hid hno; have H := Lib.hid h; clear hno hok h
  go_enter Tryz.func15, Tryz.ntmps15
  go_wp2_with fail
  all_goals first
    | (exfalso; have := HN.out; omega)
    | (go_ret2; exact ⟨_, rfl, World.ownsRow_nil _ _ _ _, by simp [Value.ownBlock], O, H.out, fun b hb => Or.inl hb, Kept.refl _ _⟩)

theorem okArgs_iff {v a n : Int} {len : Nat} (h : okArgs v a n len = true) : 1 ≤ v ∧ v ≤ 1073741824 ∧ 1 ≤ n ∧ n ≤ 40 ∧ 0 ≤ a ∧ a < n ∧ 1 ≤ len ∧ len ≤ 1024 ∧ (len = 1024 ∨ a = n - 1) := of_decide_eq_true h


end Go.Proofs.YtmhmhpdpiikjiaaGreat
