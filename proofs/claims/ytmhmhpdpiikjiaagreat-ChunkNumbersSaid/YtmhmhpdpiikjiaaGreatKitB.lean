/- The statements' own helpers, second part: SameBytes, SameInts, KeptBytes, LentBytes, OverBytes. -/
import Derived.Test.YtmhmhpdpiikjiaaGreatKitA
namespace Go.Proofs.YtmhmhpdpiikjiaaGreat
open Go.RowKit

theorem take_snoc {α : Type} (xs : List α) (k : Nat) (h : k < xs.length) : xs.take (k + 1) = xs.take k ++ [xs[k]] := List.take_succ_eq_append_getElem h
theorem ne_of_get {α : Type} {xs ys : List α} {k : Nat} (h1 : k < xs.length) (h2 : k < ys.length) (h : xs[k] ≠ ys[k]) : ¬ xs = ys := by
  rintro rfl; exact h rfl
theorem eq_of_takes {α : Type} {xs ys : List α} {k : Nat} (h : xs.take k = ys.take k) (h1 : xs.length ≤ k) (h2 : ys.length ≤ k) : xs = ys := by
  rwa [List.take_of_length_le h1, List.take_of_length_le h2] at h
theorem ret_bool {a b : Bool} (h : a = b) : Ending.returned (.bool a) = .returned (.bool b) := by rw [h]

set_option maxHeartbeats 400000 in
theorem sameBytes_any (w : World) (v1 v2 : Value) (n1 n2 : Nat) (xs ys : List Int) (e1 : xs.length = n1) (e2 : ys.length = n2) (r1 : Row w v1 n1 (ints .u8 xs)) (r2 : Row w v2 n2 (ints .u8 ys)) :
    Calls Tryz.prog 16 #[v1, v2] w fun e w' => e = .returned (.bool (decide (xs = ys))) ∧ Quiet w w' := by
  have m1 := r1.le; have m2 := r2.le
  obtain ⟨a1, c1, rfl, -, -, -, h1⟩ := r1
  obtain ⟨a2, c2, rfl, -, -, -, h2⟩ := r2
  have H1 := Lib.hid (Row.atQ h1); have H2 := Lib.hid (Row.atQ h2); clear h1 h2
  subst e1 e2
  by_cases hl : xs.length = ys.length
  · have hl1 : xs.length ≤ ys.length := by omega
    have hl2 : ys.length ≤ xs.length := by omega
    have e1 : ((xs.length : Int) != (ys.length : Int)) = false := by simp [hl]
    have Hl := Lib.hid hl; clear hl
    go_enter Tryz.func16, Tryz.ntmps16
    go_wp2
    clear e1
    go_loopw [5] (fun i wr => ∃ k : Nat, k ≤ xs.length ∧ i = .int .i64 k ∧ xs.take k = ys.take k ∧ Quiet w wr) (fun i _ => xs.length - (intOf i).toNat)
    case atStart => exact ⟨0, by omega, rfl, rfl, Quiet.refl w⟩
    case round =>
      obtain ⟨k, hk, rfl, ht, hq⟩ := hrel
      have Ht := Lib.hid ht; clear ht
      by_cases hlt : k < xs.length
      · have hlt2 : k < ys.length := by omega
        obtain ⟨b1, o1, rfl, g1⟩ := H1.out wr hq k hlt
        obtain ⟨b2, o2, rfl, g2⟩ := H2.out wr hq k hlt2
        by_cases he : xs[k] = ys[k]
        · have hne : (xs[k] != ys[k]) = false := by simp [he]
          have He := Lib.hid he; clear he
          go_wp2
          go_quiet (fail)
          go_wp2
          go_roundw
          case rel => exact ⟨k + 1, by omega, by go_num, by rw [take_snoc _ _ hlt, take_snoc _ _ hlt2, Ht.out, He.out], hq.drewN _⟩
          case measure => simp [intOf]; omega
        · have hne : (xs[k] != ys[k]) = true := by simpa using he
          have He := Lib.hid he; clear he
          go_wp2
          go_quiet (fail)
          go_wp2
          go_ret
          exact ⟨ret_bool (by simp [ne_of_get hlt hlt2 He.out]), hq.drewN _⟩
      · go_wp2
        go_ret
        exact ⟨ret_bool (by simp [eq_of_takes Ht.out (by omega) (by omega)]), hq⟩
  · have e1 : ((xs.length : Int) != (ys.length : Int)) = true := by rw [bne_iff_ne]; omega
    have hne : ¬ xs = ys := fun h => hl (by rw [h])
    have Hn := Lib.hid hne; clear hne hl
    go_enter Tryz.func16, Tryz.ntmps16
    go_wp2
    go_ret
    exact ⟨ret_bool (by simp [Hn.out]), Quiet.refl w⟩

set_option maxHeartbeats 400000 in
theorem sameInts_any (w : World) (v1 v2 : Value) (n1 n2 : Nat) (xs ys : List Int) (e1 : xs.length = n1) (e2 : ys.length = n2) (r1 : Row w v1 n1 (ints .i64 xs)) (r2 : Row w v2 n2 (ints .i64 ys)) :
    Calls Tryz.prog 20 #[v1, v2] w fun e w' => e = .returned (.bool (decide (xs = ys))) ∧ Quiet w w' := by
  have m1 := r1.le; have m2 := r2.le
  obtain ⟨a1, c1, rfl, -, -, -, h1⟩ := r1
  obtain ⟨a2, c2, rfl, -, -, -, h2⟩ := r2
  have H1 := Lib.hid (Row.atQ h1); have H2 := Lib.hid (Row.atQ h2); clear h1 h2
  subst e1 e2
  by_cases hl : xs.length = ys.length
  · have hl1 : xs.length ≤ ys.length := by omega
    have hl2 : ys.length ≤ xs.length := by omega
    have e1 : ((xs.length : Int) != (ys.length : Int)) = false := by simp [hl]
    have Hl := Lib.hid hl; clear hl
    go_enter Tryz.func20, Tryz.ntmps20
    go_wp2
    clear e1
    go_loopw [5] (fun i wr => ∃ k : Nat, k ≤ xs.length ∧ i = .int .i64 k ∧ xs.take k = ys.take k ∧ Quiet w wr) (fun i _ => xs.length - (intOf i).toNat)
    case atStart => exact ⟨0, by omega, rfl, rfl, Quiet.refl w⟩
    case round =>
      obtain ⟨k, hk, rfl, ht, hq⟩ := hrel
      have Ht := Lib.hid ht; clear ht
      by_cases hlt : k < xs.length
      · have hlt2 : k < ys.length := by omega
        obtain ⟨b1, o1, rfl, g1⟩ := H1.out wr hq k hlt
        obtain ⟨b2, o2, rfl, g2⟩ := H2.out wr hq k hlt2
        by_cases he : xs[k] = ys[k]
        · have hne : (xs[k] != ys[k]) = false := by simp [he]
          have He := Lib.hid he; clear he
          go_wp2
          go_quiet (fail)
          go_wp2
          go_roundw
          case rel => exact ⟨k + 1, by omega, by go_num, by rw [take_snoc _ _ hlt, take_snoc _ _ hlt2, Ht.out, He.out], hq.drewN _⟩
          case measure => simp [intOf]; omega
        · have hne : (xs[k] != ys[k]) = true := by simpa using he
          have He := Lib.hid he; clear he
          go_wp2
          go_quiet (fail)
          go_wp2
          go_ret
          exact ⟨ret_bool (by simp [ne_of_get hlt hlt2 He.out]), hq.drewN _⟩
      · go_wp2
        go_ret
        exact ⟨ret_bool (by simp [eq_of_takes Ht.out (by omega) (by omega)]), hq⟩
  · have e1 : ((xs.length : Int) != (ys.length : Int)) = true := by rw [bne_iff_ne]; omega
    have hne : ¬ xs = ys := fun h => hl (by rw [h])
    have Hn := Lib.hid hne; clear hne hl
    go_enter Tryz.func20, Tryz.ntmps20
    go_wp2
    go_ret
    exact ⟨ret_bool (by simp [Hn.out]), Quiet.refl w⟩

theorem sameBytes_yes (w : World) (v1 v2 : Value) (n1 n2 : Nat) (xs ys : List Int) (e1 : xs.length = n1) (e2 : ys.length = n2) (r1 : Row w v1 n1 (ints .u8 xs)) (r2 : Row w v2 n2 (ints .u8 ys)) (h : xs = ys) :
    Calls Tryz.prog 16 #[v1, v2] w fun e w' => e = .returned (.bool true) ∧ Quiet w w' := by
  have hd : decide (xs = ys) = true := by simp [h]
  rw [← hd]; exact sameBytes_any w v1 v2 n1 n2 xs ys e1 e2 r1 r2
theorem sameBytes_no (w : World) (v1 v2 : Value) (n1 n2 : Nat) (xs ys : List Int) (e1 : xs.length = n1) (e2 : ys.length = n2) (r1 : Row w v1 n1 (ints .u8 xs)) (r2 : Row w v2 n2 (ints .u8 ys)) (h : ¬ xs = ys) :
    Calls Tryz.prog 16 #[v1, v2] w fun e w' => e = .returned (.bool false) ∧ Quiet w w' := by
  have hd : decide (xs = ys) = false := by simp [h]
  rw [← hd]; exact sameBytes_any w v1 v2 n1 n2 xs ys e1 e2 r1 r2

theorem sameInts_yes (w : World) (v1 v2 : Value) (n1 n2 : Nat) (xs ys : List Int) (e1 : xs.length = n1) (e2 : ys.length = n2) (r1 : Row w v1 n1 (ints .i64 xs)) (r2 : Row w v2 n2 (ints .i64 ys)) (h : xs = ys) :
    Calls Tryz.prog 20 #[v1, v2] w fun e w' => e = .returned (.bool true) ∧ Quiet w w' := by
  have hd : decide (xs = ys) = true := by simp [h]
  rw [← hd]; exact sameInts_any w v1 v2 n1 n2 xs ys e1 e2 r1 r2
theorem sameInts_no (w : World) (v1 v2 : Value) (n1 n2 : Nat) (xs ys : List Int) (e1 : xs.length = n1) (e2 : ys.length = n2) (r1 : Row w v1 n1 (ints .i64 xs)) (r2 : Row w v2 n2 (ints .i64 ys)) (h : ¬ xs = ys) :
    Calls Tryz.prog 20 #[v1, v2] w fun e w' => e = .returned (.bool false) ∧ Quiet w w' := by
  have hd : decide (xs = ys) = false := by simp [h]
  rw [← hd]; exact sameInts_any w v1 v2 n1 n2 xs ys e1 e2 r1 r2

/-- v is a list of lists of bytes. -/
def RowsU8 (w : World) (v : Value) (xss : List (List Int)) : Prop :=
  ∃ us : List Value, us.length = xss.length ∧ Row w v xss.length us ∧ ∀ k (h : k < us.length) (h' : k < xss.length), Row w us[k] xss[k].length (ints .u8 xss[k])
theorem RowsU8.drewN {w : World} {v : Value} {xss : List (List Int)} (h : RowsU8 w v xss) (n : Nat) : RowsU8 (w.drewN n) v xss := h

set_option maxHeartbeats 400000 in
theorem sameRows_any (w : World) (v1 v2 : Value) (xss yss : List (List Int)) (r1 : RowsU8 w v1 xss) (r2 : RowsU8 w v2 yss) :
    Calls Tryz.prog 25 #[v1, v2] w fun e w' => e = .returned (.bool (decide (xss = yss))) ∧ Quiet w w' := by
  obtain ⟨us1, l1, r1, q1⟩ := r1
  obtain ⟨us2, l2, r2, q2⟩ := r2
  have m1 := r1.le; have m2 := r2.le
  obtain ⟨a1, c1, rfl, -, -, -, h1⟩ := r1
  obtain ⟨a2, c2, rfl, -, -, -, h2⟩ := r2
  have H1 := Lib.hid (Row.atQ' h1); have H2 := Lib.hid (Row.atQ' h2); clear h1 h2
  have Q1 := Lib.hid q1; have Q2 := Lib.hid q2; have L1 := Lib.hid l1; have L2 := Lib.hid l2; clear q1 q2 l1 l2
  by_cases hl : xss.length = yss.length
  · have hl1 : xss.length ≤ yss.length := by omega
    have hl2 : yss.length ≤ xss.length := by omega
    have e1 : ((xss.length : Int) != (yss.length : Int)) = false := by simp [hl]
    have Hl := Lib.hid hl; clear hl
    go_enter Tryz.func25, Tryz.ntmps25
    go_wp2
    clear e1
    go_loopw [5] (fun i wr => ∃ k : Nat, k ≤ xss.length ∧ i = .int .i64 k ∧ xss.take k = yss.take k ∧ Quiet w wr) (fun i _ => xss.length - (intOf i).toNat)
    case atStart => exact ⟨0, by omega, rfl, rfl, Quiet.refl w⟩
    case round =>
      obtain ⟨k, hk, rfl, ht, hq⟩ := hrel
      have Ht := Lib.hid ht; clear ht
      by_cases hlt : k < xss.length
      · have hlt2 : k < yss.length := by omega
        have hu1 : k < us1.length := by rw [L1.out]; exact hlt
        have hu2 : k < us2.length := by rw [L2.out]; exact hlt2
        obtain ⟨b1, o1, rfl, g1⟩ := H1.out wr hq k hu1
        obtain ⟨b2, o2, rfl, g2⟩ := H2.out wr hq k hu2
        have q1 := hq.row (Q1.out k hu1 hlt)
        have q2 := hq.row (Q2.out k hu2 hlt2)
        have Hc1 := Lib.hid (fun nq (he : xss[k] = yss[k]) => Calls.quietAt (sameBytes_yes (wr.drewN nq) us1[k] us2[k] _ _ xss[k] yss[k] rfl rfl (q1.drewN _) (q2.drewN _) he))
        have Hc2 := Lib.hid (fun nq (he : ¬ xss[k] = yss[k]) => Calls.quietAt (sameBytes_no (wr.drewN nq) us1[k] us2[k] _ _ xss[k] yss[k] rfl rfl (q1.drewN _) (q2.drewN _) he))
        clear q1 q2
        go_wp2
        by_cases he : xss[k] = yss[k]
        · have He := Lib.hid he; clear he
          go_quiet ((go_at_call 16; exact Hc1.out _ He.out))
          go_wp2
          go_roundw
          case rel => exact ⟨k + 1, by omega, by go_num, by rw [take_snoc _ _ hlt, take_snoc _ _ hlt2, Ht.out, He.out], hq.drewN _⟩
          case measure => simp [intOf]; omega
        · have He := Lib.hid he; clear he
          go_quiet ((go_at_call 16; exact Hc2.out _ He.out))
          go_wp2
          go_ret
          exact ⟨ret_bool (by simp [ne_of_get hlt hlt2 He.out]), hq.drewN _⟩
      · go_wp2
        go_ret
        exact ⟨ret_bool (by simp [eq_of_takes Ht.out (by omega) (by omega)]), hq⟩
  · have e1 : ((xss.length : Int) != (yss.length : Int)) = true := by rw [bne_iff_ne]; omega
    have hne : ¬ xss = yss := fun h => hl (by rw [h])
    have Hn := Lib.hid hne; clear hne hl
    go_enter Tryz.func25, Tryz.ntmps25
    go_wp2
    go_ret
    exact ⟨ret_bool (by simp [Hn.out]), Quiet.refl w⟩

end Go.Proofs.YtmhmhpdpiikjiaaGreat
