/- The chunk's small functions: clones, boards that are new, what may be. -/
import Derived.Test.YtmhmhpdpiikjiaaGreatKitC
import Derived.Test.YtmhmhpdpiikjiaaGreatChunkModel
namespace Go.Proofs.YtmhmhpdpiikjiaaGreat
open Go.RowKit

theorem Row.some_of {w : World} {v : Value} {n : Nat} {ys : List Value} (h : Row w v n ys) (h0 : 0 < ys.length) : ∃ b off c, v = .slice (some ⟨b, off, none⟩) n c := by
  obtain ⟨a, c, rfl, h1, h2, h3, h4⟩ := h
  obtain ⟨b, off, rfl, -⟩ := h4 0 h0
  exact ⟨b, off, c, rfl⟩

set_option maxHeartbeats 400000 in
theorem bytesClone_any (w : World) (v : Value) (n : Nat) (xs : List Int) (hx : xs.length = n) (h0 : 0 < n) (hn : n ≤ 140737488351232) (hv : Row w v n (ints .u8 xs)) :
    Calls Tryz.prog 33 #[v] w fun e w' => ∃ v' g, e = .returned v' ∧ v'.ownBlock = some g ∧ w.heap.size ≤ g ∧ w'.ownsRow 0 5 1 v' n (ints .u8 xs) ∧ Below w.heap.size w w' := by
  obtain ⟨b, off, c, rfl⟩ := hv.some_of (by simpa [hx] using h0)
  have HV := Lib.hid hv; have HX := Lib.hid hx; clear hv hx
  have heq := fun w => Lib.run_eql_slice_nil (P := Tryz.prog) w
  go_enter Tryz.func33, Tryz.ntmps33
  go_wp2_with (at_builtin; refine wpList_append_row rfl _ _ 28 rfl 5 Tryz.infoU8 Tryz.underlying28 rfl (by decide) _ 0 [] rfl (World.ownsRow_made w #[] 0 (Nat.zero_le _) (Nat.zero_le _) rfl) (.slice (some ⟨b, off, none⟩) n c) n (ints .u8 xs) rfl (HV.out.below ((Below.refl _ w).alloc (Nat.le_refl _) _)) ?a0 (ints_one _ _) ?a1 ?a2 ?aK)
  case a0 => simp [HX.out]
  case a1 => unfold maxLen; omega
  case a2 => omega
  intro v' w1 hown hc _
  have hg : ∃ g, v'.ownBlock = some g ∧ w.heap.size ≤ g := by
    rcases hc with ⟨c1, -⟩ | ⟨c1, -⟩
    · exact ⟨_, c1, Nat.le_refl _⟩
    · exact ⟨_, c1, by simp⟩
  have hb : Below w.heap.size w w1 := ((Below.refl _ w).alloc (Nat.le_refl _) (.cells #[] 5)).grown hc.grown (by simp) (by rintro k hk; cases hk; exact Nat.le_refl _)
  have HO := Lib.hid hown; have HG := Lib.hid hg; have HB := Lib.hid hb; clear hown hg hb hc heq
  go_wp2_with fail
  go_ret
  obtain ⟨g, g1, g2⟩ := HG.out
  exact ⟨v', g, rfl, g1, g2, HO.out, HB.out⟩

theorem strOfNums_inj {xs ys : List Int} (hx : Bytes8 xs) (hy : Bytes8 ys) : ((strOfNums xs).toList == (strOfNums ys).toList) = decide (xs = ys) := by
  rw [Bool.eq_iff_iff, beq_iff_eq, decide_eq_true_eq]
  refine ⟨fun h => ?_, fun h => by rw [h]⟩
  have h2 : xs.map (fun n => UInt8.ofNat n.toNat) = ys.map (fun n => UInt8.ofNat n.toNat) := by
    rw [← strOfNums_data, ← strOfNums_data, ← ByteArray.toList_eq, ← ByteArray.toList_eq, h]
  have key : ∀ (l : List Int), Bytes8 l → (l.map (fun n => UInt8.ofNat n.toNat)).map (fun (u : UInt8) => (u.toNat : Int)) = l := by
    intro l hl
    rw [List.map_map]
    conv => rhs; rw [← List.map_id l]
    refine List.map_congr_left fun x hx => ?_
    have := hl x hx
    simp only [Function.comp, id, UInt8.toNat_ofNat']
    omega
  rw [← key xs hx, ← key ys hy, h2]

theorem Row.getD {w : World} {b off c n : Nat} {xs : List Int} {k : IntKind} (hx : xs.length = n) (h : Row w (.slice (some ⟨b, off, none⟩) n c) n (ints k xs)) : ∀ i, i < n → w.cell? ⟨b, off + i, none⟩ = some (.int k (xs.getD i 0)) := by
  intro i hi
  obtain ⟨a, c', h0, h1, h2, h3, h4⟩ := h
  simp only [Value.slice.injEq, true_and] at h0
  obtain ⟨rfl, rfl⟩ := h0
  obtain ⟨b', off', e, hc⟩ := h4 i (by simpa [hx] using hi)
  simp only [Option.some.injEq, Addr.mk.injEq, and_true] at e
  obtain ⟨rfl, rfl⟩ := e
  rw [hc]; simp [hx, hi]

set_option maxHeartbeats 400000 in
theorem bytesEqual_any (w : World) (v1 v2 : Value) (n1 n2 : Nat) (xs ys : List Int) (hx : xs.length = n1) (hy : ys.length = n2) (h1 : 0 < n1) (h2 : 0 < n2) (r1 : Row w v1 n1 (ints .u8 xs)) (r2 : Row w v2 n2 (ints .u8 ys)) (b1 : Bytes8 xs) (b2 : Bytes8 ys) :
    Calls Tryz.prog 32 #[v1, v2] w fun e w' => e = .returned (.bool (decide (xs = ys))) ∧ w = w' := by
  have hs := strOfNums_inj b1 b2
  obtain ⟨p1, o1, c1, rfl⟩ := r1.some_of (by simpa [hx] using h1)
  obtain ⟨p2, o2, c2, rfl⟩ := r2.some_of (by simpa [hy] using h2)
  have e1 := run_convert_bytes_arg (P := Tryz.prog) w 28 5 Tryz.underlying28 Tryz.underlying5 p1 o1 n1 c1 xs hx (Row.getD hx r1) 9 Tryz.underlying9
  have e2 := run_convert_bytes_arg (P := Tryz.prog) w 28 5 Tryz.underlying28 Tryz.underlying5 p2 o2 n2 c2 ys hy (Row.getD hy r2) 9 Tryz.underlying9
  clear r1 r2 b1 b2 hx hy
  go_enter Tryz.func32, Tryz.ntmps32
  go_wp2_with fail
  go_ret
  exact ⟨rfl, rfl⟩

set_option maxRecDepth 10000 in
theorem known_yes (w : World) (A M : Nat) (hA : w.cell? ⟨A, 0, none⟩ = some (.map (some M))) :
    Calls Tryz.prog 27 #[.pointer (some ⟨A, 0, none⟩)] w fun e w' => e = .returned (.bool true) ∧ w = w' := by
  have hne : ∀ w, (binOp .neq 51 (.map (some M)) (.map none)).run Tryz.prog w = .ok (.bool true) w := fun _ => by kernel_rfl
  go_enter Tryz.func27, Tryz.ntmps27
  go_wp2_with fail
  go_ret
  exact ⟨rfl, rfl⟩

set_option maxHeartbeats 1000000 in
theorem right_any (w : World) (v a n : Int) (p : Option Addr) (len c : Nat) (hl : len ≤ 9223372036854775807) :
    Calls Tryz.prog 31 #[.int .i64 v, .int .i64 a, .int .i64 n, .slice p len c] w fun e w' => e = .returned (.bool (okArgs v a n len)) ∧ w = w' := by
  go_enter Tryz.func31, Tryz.ntmps31
  go_wp2_with fail
  all_goals (go_ret; refine ⟨ret_bool ?_, rfl⟩)
  all_goals first | exact (decide_eq_true (by omega)).symm | exact (decide_eq_false (by omega)).symm | (unfold okArgs; rw [Bool.eq_iff_iff]; simp; omega)

end Go.Proofs.YtmhmhpdpiikjiaaGreat
