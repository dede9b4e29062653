/- The program's uploads: the places of the pieces that have not come. -/
import Derived.RangeFuncNested
import Derived.RangeFuncBound
import Derived.RangeFuncCalls
import Derived.RangeFuncLeaves
import Derived.RangeFuncWrites
import Derived.Shelf.Abstract
import Derived.Shelf.RegionOpen
import Derived.WalkKit
import Derived.OwnWalkIn
import Derived.TacticsInMore
import Derived.LoopNIn
import Derived.LoopIn
import Derived.RegionIn
import Derived.Stop.RegionWithIn
import Derived.Sort.QuietIn
import Derived.Test.YtmhmhpdpiikjiaaGreatBdA
namespace Go.Proofs.YtmhmhpdpiikjiaaGreat
open Go.RowKit Go.Shelf

attribute [local go_sem] Oper.semAt_some

/-- The places at which no piece stands. -/
abbrev MissNo (ps : List Value) (n : Nat) := { k : Nat // k < n ∧ ps[k]? = some (.slice none 0 0) }
/-- Pieces: nil, or of an address. -/
def Pieces (ps : List Value) : Prop := ∀ i, i < ps.length → ps[i]? = some (.slice none 0 0) ∨ ∃ a n c, ps[i]? = some (.slice (some a) n c)
/-- An upload in memory. -/
def UpBlock (w : World) (b : Nat) (ps : List Value) (n : Nat) : Prop := w.heap[b]? = some (.cells (ps ++ [Value.int .i64 (n : Int)]).toArray 66 (0, 0))
theorem UpBlock.lt {w : World} {b n : Nat} {ps : List Value} (h : UpBlock w b ps n) : b < w.heap.size := (Array.getElem?_eq_some_iff.1 h).1
theorem UpBlock.piece {w : World} {b n : Nat} {ps : List Value} (h : UpBlock w b ps n) (i : Nat) (hi : i < ps.length) : w.cell? ⟨b, i, none⟩ = ps[i]? := by
  rw [cell_of_row w b i _ _ _ h]
  simp only [List.getElem?_toArray]
  rw [List.getElem?_append_left hi]
theorem UpBlock.whole {w : World} {b n : Nat} {ps : List Value} (h : UpBlock w b ps n) (hl : ps.length = 40) : w.cell? ⟨b, 40, none⟩ = some (.int .i64 (n : Int)) := by
  rw [cell_of_row w b 40 _ _ _ h]
  simp only [List.getElem?_toArray]
  rw [List.getElem?_append_right (by omega), hl]; rfl

set_option maxHeartbeats 400000 in
theorem missing_in (F : Fence) (m : Nat) (h : F.fn 42) (hro : F.round = none) (b : Nat) (w : World) :
    CallsIn F m Tryz.prog 42 #[.pointer (some ⟨b, 0, none⟩)] w fun e w' => e = .returned (.func (.func 68) #[] #[.pointer (some ⟨w.heap.size, 0, none⟩)]) ∧
      w' = w.alloc (.cells #[.pointer (some ⟨b, 0, none⟩)] 59) := by
  refine callsIn_of_wp Tryz.func42 rfl h ?_ hro
  simp only [Tryz.ntmps42, List.size_toArray, List.length_cons, List.length_nil, Nat.reduceAdd, Nat.reduceSub, Array.replicate_succ, Array.replicate_zero, List.push_toArray, List.append_toArray, List.nil_append, List.cons_append]
  gi_wp2
  go_ret
  simp

set_option maxRecDepth 100000 in
set_option maxHeartbeats 2000000 in
theorem missIt_in (m : Nat) (hn : 1 ≤ m) (l B b n : Nat) (ps : List Value) (S : Nat → Prop) (hSb : ¬ S b) (hl : ps.length = 40) (hn40 : n ≤ 40) (hps : Pieces ps) (J Jx : List (MissNo ps n) → World → Prop) (hJd : ∀ s W k, J s W → J s (W.drewN k))
    (hY : ∀ pre x W, J pre W → pre.length < 41 → YieldAt Fence.wide (m - 1) Tryz.prog l #[.int .i64 (x.1 : Nat)] W fun e W' =>
      (e = .returned (.bool true) ∧ J (pre ++ [x]) W' ∧ Kept S W W') ∨ (e = .returned (.bool false) ∧ Jx (pre ++ [x]) W'))
    (W : World) (hB : W.cell? ⟨B, 0, none⟩ = some (.pointer (some ⟨b, 0, none⟩))) (hb : UpBlock W b ps n) (h0 : J [] W) :
    CallsIn Fence.wide m Tryz.prog 68 #[.func (.yield l) #[] #[], .pointer (some ⟨B, 0, none⟩)] W fun e W' => (∃ v, e = .returned v) ∧
      ((∃ ys : List (MissNo ps n), (ys = [] → ∀ j, j < n → ps[j]? ≠ some (.slice none 0 0)) ∧ J ys W') ∨ (∃ pre : List (MissNo ps n), True ∧ Jx pre W')) := by
  have hltB : B < W.heap.size := World.block_lt_of_cell? _ _ hB
  have hltb := hb.lt
  have hw40 := hb.whole hl
  have HP := Lib.hid hps; have HB := Lib.hid hb; clear hps hb
  have heq := fun (a : Option Addr) (n c : Nat) (w : World) => Lib.run_eql_slice_nil (P := Tryz.prog) w 28 5 a n c 0 0 Tryz.underlying28
  refine callsIn_of_wp Tryz.func68 rfl trivial ?_ rfl
  simp only [Tryz.ntmps68, List.size_toArray, List.length_cons, List.length_nil, Nat.reduceAdd, Nat.reduceSub, Array.replicate_succ, Array.replicate_zero, List.push_toArray, List.append_toArray, List.nil_append, List.cons_append]
  have g1 : (0 : Int) ≤ (n : Int) := by omega
  have g2 : (n : Int) ≤ 40 := by omega
  gi_wp2
  gi_quiet (fail)
  gi_wp2
  gi_loopw [14] (fun iv wr => ∃ i : Nat, i ≤ n ∧ iv = .int .i64 i ∧ (∃ pre : List (MissNo ps n), pre.length ≤ i ∧ (pre = [] → ∀ j, j < i → ps[j]? ≠ some (.slice none 0 0)) ∧ J pre wr) ∧ Kept S W wr)
    (fun iv _ => n - (intOf iv).toNat)
  case atStart => exact ⟨0, by omega, rfl, ⟨[], by simp, fun _ j hj => absurd hj (Nat.not_lt_zero _), hJd _ _ _ h0⟩, (Kept.refl S W).drewN _⟩
  case round =>
    obtain ⟨i, hi, rfl, ⟨pre, hlen, hpre, hJs⟩, hk⟩ := hrel
    have HPre := Lib.hid hpre; have HK := Lib.hid hk; clear hpre hk
    by_cases hlt : i < n
    · have hc := ((HK.out.cell (p := ⟨b, i, none⟩) hltb hSb).trans (HB.out.piece i (by omega)))
      rcases HP.out i (by omega) with hnil | ⟨a, n', c', hsome⟩
      · rw [hnil] at hc
        have HN := Lib.hid hnil; clear hnil
        obtain ⟨fn, tmps, assign, body, hy, hR⟩ := hY pre ⟨i, hlt, HN.out⟩ wr hJs (by omega)
        dsimp only at hy
        gi_wp2
        refine hR.mono ?_
        rintro e W3 (⟨rfl, hJ3, hk3⟩ | ⟨rfl, hJx3⟩)
        · gi_wp2
          go_roundw
          case rel => exact ⟨i + 1, by omega, by go_num, ⟨pre ++ [⟨i, hlt, HN.out⟩], by simp; omega, by simp, hJ3⟩, HK.out.trans hk3⟩
          case measure => simp [intOf]; omega
        · gi_wp2
          refine bodyPost_ret (results_none rfl _ _ _) rfl ?_
          exact ⟨⟨_, rfl⟩, .inr ⟨_, trivial, hJx3⟩⟩
      · rw [hsome] at hc
        have HN := Lib.hid hsome; clear hsome
        gi_wp2
        refine ⟨fun _ h => (by cases h), ?_⟩
        gi_wp2
        go_roundw
        case rel => exact ⟨i + 1, by omega, by go_num, ⟨pre, by omega, fun h j hj => by
          by_cases hji : j = i
          · subst hji; rw [HN.out]; simp
          · exact HPre.out h j (by omega), hJs⟩, HK.out⟩
        case measure => simp [intOf]; omega
    · obtain rfl : n = i := by omega
      gi_wp2
      go_end0
      exact ⟨⟨_, rfl⟩, .inl ⟨pre, HPre.out, hJs⟩⟩

end Go.Proofs.YtmhmhpdpiikjiaaGreat
