/- The program's pieces: slices.Chunk's iterator. -/
import Derived.RangeFuncNested
import Derived.RangeFuncBound
import Derived.RangeFuncCalls
import Derived.RangeFuncLeaves
import Derived.RangeFuncWrites
import Derived.Shelf.Abstract
import Derived.Shelf.RegionOpen
import Derived.WalkKit
import Derived.OwnWalkIn
import Derived.TacticsInMore
import Derived.LoopNIn
import Derived.LoopIn
import Derived.RegionIn
import Derived.Test.YtmhmhpdpiikjiaaGreatRefE
import Derived.Test.YtmhmhpdpiikjiaaGreatChunkA
namespace Go.Proofs.YtmhmhpdpiikjiaaGreat
open Go.RowKit Go.Shelf

attribute [local go_sem] Oper.semAt_some

/-- The pieces' numbers. -/
abbrev PieceNo (n : Nat) := { k : Nat // k * 1024 < n }
/-- Piece k, as yield is handed it. -/
def pieceV (b off n k : Nat) : Value := .slice (some ⟨b, off + k * 1024, none⟩) (min 1024 (n - k * 1024)) (min 1024 (n - k * 1024))

set_option maxRecDepth 100000 in
set_option maxHeartbeats 2000000 in
theorem chunkIt_in (F : Fence) (m : Nat) (h7 : F.fn 67) (hro : F.round = none) (hn : 1 ≤ m) (l Bs Bn b off n c : Nat) (S : Nat → Prop) (hSs : ¬ S Bs) (hSn : ¬ S Bn) (hlen : n ≤ 1099511627776) (hnc : n ≤ c) (a : Option Addr) (ha : 0 < n → a = some ⟨b, off, none⟩) (J Jx : List (PieceNo n) → World → Prop) (hJd : ∀ s W, J s W → J s W.drew)
    (hY : ∀ pre x W, J pre W → pre.length < cutN n → YieldAt F (m - 1) Tryz.prog l #[pieceV b off n x.1] W fun e W' =>
      (e = .returned (.bool true) ∧ J (pre ++ [x]) W' ∧ Kept S W W') ∨ (e = .returned (.bool false) ∧ Jx (pre ++ [x]) W'))
    (W : World) (hBs : W.cell? ⟨Bs, 0, none⟩ = some (.slice a n c)) (hBn : W.cell? ⟨Bn, 0, none⟩ = some (.int .i64 1024)) (h0 : J [] W) :
    CallsIn F m Tryz.prog 67 #[.func (.yield l) #[] #[], .pointer (some ⟨Bs, 0, none⟩), .pointer (some ⟨Bn, 0, none⟩)] W fun e W' => (∃ v, e = .returned v) ∧
      ((∃ ys : List (PieceNo n), ys.map Subtype.val = List.range (cutN n) ∧ J ys W') ∨ (∃ pre : List (PieceNo n), True ∧ Jx pre W')) := by
  have HA := Lib.hid ha; clear ha
  have hlts : Bs < W.heap.size := World.block_lt_of_cell? _ _ hBs
  have hltn : Bn < W.heap.size := World.block_lt_of_cell? _ _ hBn
  have HBS := Lib.hid hBs; have HBN := Lib.hid hBn; clear hBs hBn
  refine callsIn_of_wp Tryz.func67 rfl h7 ?_ hro
  simp only [Tryz.ntmps67, List.size_toArray, List.length_cons, List.length_nil, Nat.reduceAdd, Nat.reduceSub, Array.replicate_succ, Array.replicate_zero, List.push_toArray, List.append_toArray, List.nil_append, List.cons_append]
  gi_wp2
  gi_loopw [4] (fun i wr => ∃ k K : Nat, k ≤ cutN n ∧ Hid (K = k * 1024) ∧ i = .int .i64 K ∧ (∃ pre : List (PieceNo n), pre.map Subtype.val = List.range k ∧ J pre wr) ∧ Kept S W wr)
    (fun i _ => n + 1024 - (intOf i).toNat)
  case atStart => exact ⟨0, 0, Nat.zero_le _, Lib.hid rfl, rfl, ⟨[], rfl, h0⟩, Kept.refl _ _⟩
  case round =>
    obtain ⟨k, K, hk, HK, rfl, ⟨pre, hpre, hJs⟩, hnx⟩ := hrel
    have hb1 : wr.cell? ⟨Bs, 0, none⟩ = some (.slice a n c) := (hnx.cell (p := ⟨Bs, 0, none⟩) hlts hSs).trans HBS.out
    have hb2 : wr.cell? ⟨Bn, 0, none⟩ = some (.int .i64 1024) := (hnx.cell (p := ⟨Bn, 0, none⟩) hltn hSn).trans HBN.out
    have hplen : pre.length = k := by rw [← List.length_map (f := Subtype.val), hpre]; simp
    have HKK : K + 1024 ≤ n + 1024 + 1024 := by have := HK.out; unfold cutN at hk; omega
    by_cases hlt : K < n
    · have haa := HA.out (by omega)
      subst haa
      obtain ⟨M, hM⟩ : ∃ M : Nat, M = min 1024 (n - K) := ⟨_, rfl⟩
      have hM1 : (if ((n - K : Nat) : Int) < 1024 then ((n - K : Nat) : Int) else 1024) = (M : Int) := by split <;> omega
      have HM := Lib.hid hM
      have hM2 : M ≤ n - K := by omega
      have hM4 : 0 < M := by omega
      have hM3 : K + M ≤ c := by omega
      have HM1 := Lib.hid hM1
      clear hM1 hM
      gi_wp2
      gi_region
      all_goals
        rw [HM1.out]
        obtain ⟨fn, tmps, assign, body, hy, hR⟩ := hY pre ⟨k, by rw [← HK.out]; exact hlt⟩ wr.drew (hJd _ _ hJs) (by rw [hplen]; have := HK.out; unfold cutN; omega)
        unfold pieceV at hy
        rw [← HK.out, ← HM.out] at hy
        gi_wp2
        refine hR.mono ?_
        rintro e W3 (⟨rfl, hJ3, hk3⟩ | ⟨rfl, hJx3⟩)
        · have hnx3 := hnx.drew.trans hk3
          have hb2' : W3.cell? ⟨Bn, 0, none⟩ = some (.int .i64 1024) := (hnx3.cell (p := ⟨Bn, 0, none⟩) hltn hSn).trans HBN.out
          gi_wp2
          go_roundw
          case rel => exact ⟨k + 1, K + 1024, by have := HK.out; unfold cutN; omega, Lib.hid (by rw [HK.out]; omega), by go_num, ⟨pre ++ [⟨k, by rw [← HK.out]; exact hlt⟩], by rw [List.map_append, hpre, List.range_succ]; rfl, hJ3⟩, hnx3⟩
          case measure => simp [intOf]; omega
        · gi_wp2
          refine bodyPost_ret (results_none rfl _ _ _) rfl ?_
          exact ⟨⟨_, rfl⟩, .inr ⟨_, trivial, hJx3⟩⟩
    · have hkc : k = cutN n := by have := HK.out; unfold cutN at hk ⊢; omega
      gi_wp2
      go_end0
      exact ⟨⟨_, rfl⟩, .inl ⟨pre, by rw [hpre, hkc], hJs⟩⟩

end Go.Proofs.YtmhmhpdpiikjiaaGreat
