/- The statements' own helpers, third part: lists of bytes that are lent, kept, written over. -/
import Derived.Test.YtmhmhpdpiikjiaaGreatKitB
namespace Go.Proofs.YtmhmhpdpiikjiaaGreat
open Go.RowKit

theorem mkB_bound (k i : Int) : 0 ≤ mkB k i ∧ mkB k i ≤ 255 := by unfold mkB; omega
/-- The marks behind a list's end. -/
def marksB (k : Int) (n : Nat) : List Int := (List.range n).map fun (i : Nat) => mkB k (i : Int)
theorem marksB_len (k : Int) (n : Nat) : (marksB k n).length = n := by simp [marksB]
theorem marksB_succ (k : Int) (n : Nat) : marksB k (n + 1) = marksB k n ++ [mkB k (n : Int)] := by simp [marksB, List.range_succ]
theorem marksB_get (k : Int) (n i : Nat) (h : i < (marksB k n).length) : (marksB k n)[i] = mkB k (i : Int) := by simp [marksB]

/-- A list of bytes that was lent: twelve marks stand behind its end. -/
structure LentB (w : World) (v : Value) (n : Nat) (xs : List Int) : Prop where
  len : xs.length = n
  le : n ≤ 140737488351232
  at_ : ∃ g, v = .slice (some ⟨g, 0, none⟩) n (n + 12) ∧ w.heap[g]? = some (.cells (ints .u8 (xs ++ marksB 1 12)).toArray 5 (0, 0))
theorem LentB.row {w : World} {v : Value} {n : Nat} {xs : List Int} (h : LentB w v n xs) : Row w v n (ints .u8 xs) := by
  obtain ⟨h1, h2, g, rfl, h3⟩ := h
  refine ⟨_, n + 12, rfl, by omega, by unfold maxLen; omega, by simp, fun j hj => ⟨g, 0, rfl, ?_⟩⟩
  rw [cell_of_row w g _ _ _ _ h3]
  simp only [List.getElem?_toArray, List.map_append, Nat.zero_add]
  exact List.getElem?_append_left (by simpa using hj)
theorem LentB.kept {w w' : World} {v : Value} {n : Nat} {xs : List Int} (h : LentB w v n xs) {S : Nat → Prop} (k : Kept S w w') (hs : ∀ b, v.ownBlock = some b → ¬ S b) : LentB w' v n xs := by
  obtain ⟨h1, h2, g, rfl, h3⟩ := h
  exact ⟨h1, h2, g, rfl, k.heap h3 (hs g rfl)⟩

theorem markByte_q (k i : Int) (w : World) :
    Calls Tryz.prog 30 #[.int .i64 k, .int .i64 i] w fun e w' => e = .returned (.int .u8 (mkB k i)) ∧ Quiet w w' :=
  (markByte_any k i w).mono fun _ _ ⟨h, hw⟩ => ⟨h, hw ▸ Quiet.refl w⟩

theorem markByte_s (k i : Int) (w : World) :
    Calls Tryz.prog 30 #[.int .i64 k, .int .i64 i] w fun e w' => e = .returned (.int .u8 (mkB k i)) ∧ w' = w :=
  (markByte_any k i w).mono fun _ _ ⟨h, hw⟩ => ⟨h, hw.symm⟩

theorem Tryz.infoU8 : (Tryz.prog.info? 5).map (fun i => (i.zero, i.size, i.bytes)) = some (some (.int .u8 0), 1, 1) := by kernel_rfl

set_option maxHeartbeats 400000 in
theorem keptBytes_yes (w : World) (v l : Value) (n : Nat) (xs : List Int) (hv : LentB w v n xs) (hl : Row w l n (ints .u8 xs)) :
    Calls Tryz.prog 17 #[v, l] w fun e w' => e = .returned (.bool true) ∧ Quiet w w' := by
  have hle := hv.le
  have hlen := hv.len
  obtain ⟨-, -, g, rfl, hg⟩ := hv
  obtain ⟨a, c, rfl, -, -, -, h2⟩ := hl
  have H2 := Lib.hid (Row.atQ h2); clear h2
  have HL := Lib.hid hlen; clear hlen
  have H1 : Hid (∀ wr, Quiet w wr → ∀ k (hk : k < xs.length), wr.cell? ⟨g, k, none⟩ = some (.int .u8 xs[k])) := Lib.hid (fun wr q k hk => by
    rw [q.cell, cell_of_row w g _ _ _ _ hg, List.getElem?_toArray, List.getElem?_map, List.getElem?_append_left hk]; simp [hk])
  have H3 : Hid (∀ wr, Quiet w wr → ∀ k (_ : n ≤ k) (_ : k < n + 12), wr.cell? ⟨g, k, none⟩ = some (.int .u8 (mkB 1 ((k : Int) - (n : Int))))) := Lib.hid (fun wr q k hk1 hk2 => by
    rw [q.cell, cell_of_row w g _ _ _ _ hg]
    have e := HL.out
    simp only [List.getElem?_toArray, List.getElem?_map, List.getElem?_append_right (show xs.length ≤ k by omega)]
    rw [List.getElem?_eq_getElem (by rw [marksB_len]; omega), marksB_get]
    simp only [Option.map_some]
    congr 3; omega)
  clear hg
  go_enter Tryz.func17, Tryz.ntmps17
  go_wp2
  go_loopw [6] (fun i wr => ∃ k : Nat, k ≤ n + 12 ∧ i = .int .i64 k ∧ Quiet w wr) (fun i _ => n + 12 - (intOf i).toNat)
  case atStart => exact ⟨0, by omega, rfl, Quiet.refl w⟩
  case round =>
    obtain ⟨k, hk, rfl, hq⟩ := hrel
    by_cases hlt : k < n + 12
    · have g1 : 0 ≤ (k : Int) := by omega
      by_cases hn : k < n
      · have hx : k < xs.length := by rw [HL.out]; exact hn
        obtain ⟨b2, o2, rfl, c2⟩ := H2.out wr hq k hx
        have c1 := H1.out wr hq k hx
        have d1 : decide (k < n) = true := by simp [hn]
        have d2 : decide (n ≤ k) = false := by simp; omega
        go_wp2
        go_quiet ((go_at_call 30; exact Calls.quietAt (markByte_q _ _ _)))
        go_wp2
        go_roundw
        case rel => exact ⟨k + 1, by omega, by go_num, hq.drewN _⟩
        case measure => simp [intOf]; omega
      · have c1 := H3.out wr hq k (by omega) hlt
        have d1 : decide (k < n) = false := by simp; omega
        have d2 : decide (n ≤ k) = true := by simp; omega
        go_wp2
        go_quiet ((go_at_call 30; exact Calls.quietAt (markByte_q _ _ _)))
        go_wp2
        go_roundw
        case rel => exact ⟨k + 1, by omega, by go_num, hq.drewN _⟩
        case measure => simp [intOf]; omega
    · go_wp2
      go_ret
      exact ⟨rfl, hq⟩

set_option maxHeartbeats 400000 in
theorem lentBytes_any (w : World) (l : Value) (n : Nat) (xs : List Int) (hx : xs.length = n) (hn : n ≤ 140737488351232) (hl : Row w l n (ints .u8 xs)) :
    Calls Tryz.prog 13 #[l] w fun e w' => ∃ v g, e = .returned v ∧ v.ownBlock = some g ∧ w.heap.size ≤ g ∧ LentB w' v n xs ∧ Below w.heap.size w w' := by
  have HR := Lib.hid hl
  obtain ⟨a, c, rfl, -, -, -, -⟩ := hl
  have HX := Lib.hid hx; clear hx
  go_enter Tryz.func13, Tryz.ntmps13
  go_wp2_with (at_make; refine wpList_make_cap rfl _ _ 28 rfl 5 Tryz.infoU8 Tryz.underlying28 .i64 .i64 _ (n + 12) rfl rfl ?hc ?b2 ?b3 ?hK)
  case hc => push_cast; rfl
  case b2 => omega
  case b3 => unfold maxLen; omega
  intro w1 hown hgr
  have HO := Lib.hid hown; have HG := Lib.hid hgr; clear hown hgr
  go_wp2_with (at_builtin; refine wpList_append_fits_row rfl _ _ 28 rfl 5 Tryz.infoU8 Tryz.underlying28 w.heap.size 0 (n + 12) [] rfl HO.out _ n (ints .u8 xs) rfl ?r1 ?r2 (ints_one _ _) ?r3 ?hK2)
  case r1 => exact HR.out.kept fun b _ hb => HG.out.block b hb (by simp)
  case r2 => simp [HX.out]
  case r3 => omega
  intro w2 hown2 hgr2
  have hb2 : Below w.heap.size w w2 := ((Below.refl _ w).grown HG.out (Nat.le_refl _) (by simp)).grown hgr2 HG.out.size (by rintro k ⟨⟩; exact Nat.le_refl _)
  have HB2 := Lib.hid hb2; have HO2 := Lib.hid hown2; clear hb2 hown2 hgr2 HO HG HR
  go_wp2
  go_loopw [3, 4] (fun v i wr => ∃ k : Nat, k ≤ 12 ∧ i = .int .i64 k ∧ v = .slice (some ⟨w.heap.size, 0, none⟩) (n + k) (n + 12) ∧ wr.ownsRow 0 5 1 v (n + k) (ints .u8 (xs ++ marksB 1 k)) ∧ Below w.heap.size w wr) (fun _ i _ => 12 - (intOf i).toNat)
  case atStart => exact ⟨0, by omega, rfl, rfl, by simpa [marksB] using HO2.out, HB2.out⟩
  case round =>
    obtain ⟨k, hk, rfl, rfl, hown, hb⟩ := hrel
    have HO := Lib.hid hown; have HB := Lib.hid hb; clear hown hb
    have hsz := HB.out.size
    by_cases hlt : k < 12
    · go_wp2_with (first | (go_at_call 30; refine (markByte_any _ _ _).mono ?_; rintro e w' ⟨rfl, rfl⟩) | (at_builtin; refine wpList_append_fits_row rfl _ _ 28 rfl 5 Tryz.infoU8 Tryz.underlying28 w.heap.size (n + k) (n + 12) (ints .u8 (xs ++ marksB 1 k)) rfl (HO.out.alloc _) _ 1 [.int .u8 (mkB 1 k)] rfl (Row.lit _ #[.int .u8 (mkB 1 k)] 5 1 (by unfold maxLen; omega)) rfl (by simp [Value.oneCell']) ?r4 ?hK3))
      case r4 => omega
      intro w3 hown3 hgr3
      have hb3 : Below w.heap.size w w3 := (HB.out.alloc hsz _).grown hgr3 (by simp; omega) (by rintro j ⟨⟩; exact Nat.le_refl _)
      have HO3 := Lib.hid hown3; have HB3 := Lib.hid hb3; clear hown3 hgr3 hb3 HO HB
      go_wp2
      go_roundw
      case rel => exact ⟨k + 1, by omega, by go_num, rfl, by rw [marksB_succ, ← List.append_assoc]; simpa [Nat.add_assoc] using HO3.out, HB3.out⟩
      case measure => simp [intOf]; omega
    · go_wp2
      go_ret
      obtain rfl : k = 12 := by omega
      refine ⟨_, w.heap.size, rfl, rfl, Nat.le_refl _, ⟨HX.out, hn, w.heap.size, rfl, ?_⟩, HB.out⟩
      obtain ⟨h1, ⟨h2, -⟩ | ⟨g, cap, cur, h2, -, h3, h4, h5, h6, h7⟩⟩ := HO.out
      · simp at h2
      · simp only [Value.slice.injEq, Option.some.injEq, Addr.mk.injEq, and_true, true_and] at h2
        obtain ⟨rfl, rfl⟩ := h2
        rw [h3, ← h7, List.take_of_length_le (by simp [h6]), Array.toArray_toList]

theorem heap_setCell_at {w : World} {g j : Nat} {cs : Array Value} {t : TypeId} (v : Value) (hg : w.heap[g]? = some (.cells cs t (0, 0))) : (w.setCell ⟨g, j, none⟩ v).heap[g]? = some (.cells (cs.setIfInBounds j v) t (0, 0)) := heap_setCell_same w g j cs t v hg

set_option maxHeartbeats 400000 in
theorem overBytes_any (w : World) (v : Value) (n : Nat) (xs : List Int) (hv : LentB w v n xs) :
    Calls Tryz.prog 18 #[v] w fun e w' => e = .returned (.tuple #[]) ∧ Kept (fun b => v.ownBlock = some b) w w' := by
  have hle := hv.le
  have hlen := hv.len
  obtain ⟨-, -, g, rfl, hg⟩ := hv
  have hz : (ints .u8 (xs ++ marksB 1 12)).toArray.size = n + 12 := by simp [marksB_len, hlen]
  have HZ := Lib.hid hz; have HG := Lib.hid hg; clear hg hz hlen
  go_enter Tryz.func18, Tryz.ntmps18
  go_wp2
  go_loopw [3] (fun i wr => ∃ k : Nat, k ≤ n + 12 ∧ i = .int .i64 k ∧ (∃ cs : Array Value, cs.size = n + 12 ∧ wr.heap[g]? = some (.cells cs 5 (0, 0))) ∧ Kept (fun b => some g = some b) w wr) (fun i _ => n + 12 - (intOf i).toNat)
  case atStart => exact ⟨0, by omega, rfl, ⟨_, HZ.out, HG.out⟩, Kept.refl _ _⟩
  case round =>
    obtain ⟨k, hk, rfl, ⟨cs, hs, hc⟩, hkp⟩ := hrel
    have HC := Lib.hid hc; have HS := Lib.hid hs; have HK := Lib.hid hkp; clear hc hs hkp
    by_cases hlt : k < n + 12
    · have hcell : ∃ u, wr.cell? ⟨g, k, none⟩ = some u := ⟨cs[k]'(by rw [HS.out]; exact hlt), by rw [cell_of_row wr g k cs _ _ HC.out]; simp [HS.out, hlt]⟩
      obtain ⟨u, hu⟩ := hcell
      have hf : wr.frozen? ⟨g, k, none⟩ = false := frozen_of_row wr g k cs _ HC.out
      go_wp2_with (go_at_call 30; refine (markByte_any _ _ _).mono ?_; rintro e w' ⟨rfl, rfl⟩)
      go_roundw
      case rel => exact ⟨k + 1, by omega, by go_num, ⟨_, by simpa using HS.out, heap_setCell_at _ HC.out⟩, HK.out.setCell (Or.inl rfl) _⟩
      case measure => simp [intOf]; omega
    · go_wp2
      go_end0
      exact ⟨rfl, HK.out⟩

end Go.Proofs.YtmhmhpdpiikjiaaGreat
