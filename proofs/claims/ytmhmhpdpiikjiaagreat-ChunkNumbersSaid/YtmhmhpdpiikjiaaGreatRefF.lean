/- The document's boards in memory: the versions that are open. -/
import Derived.Test.YtmhmhpdpiikjiaaGreatRefC
import Derived.Test.YtmhmhpdpiikjiaaGreatOpenModel
import Derived.Deep.CutBlock
import Derived.Deep.CutRange
namespace Go.Proofs.YtmhmhpdpiikjiaaGreat
open Go.RowKit

/-- The end of a row, as a slice expression gives it. -/
theorem Row.tail {w : World} {a : Option Addr} {n c : Nat} {ys : List Value} (hl : ys.length = n) (h : Row w (.slice a n c) n ys) (k : Nat) (hk0 : k < n) : ∃ b off, a = some ⟨b, off, none⟩ ∧ Row w (.slice (some ⟨b, off + k, none⟩) (n - k) (c - k)) (n - k) (ys.drop k) := by
  obtain ⟨a', c', he, h1, h2, h3, h4⟩ := h
  simp only [Value.slice.injEq, true_and] at he
  obtain ⟨rfl, rfl⟩ := he
  obtain ⟨b, off, rfl, -⟩ := h4 0 (by omega)
  refine ⟨b, off, rfl, _, _, rfl, by omega, by omega, by simp, fun j hj => ⟨b, off + k, rfl, ?_⟩⟩
  rw [List.length_drop] at hj
  obtain ⟨b', off', e, hc⟩ := h4 (k + j) (by omega)
  simp only [Option.some.injEq, Addr.mk.injEq, and_true] at e
  obtain ⟨rfl, rfl⟩ := e
  rw [List.getElem?_drop, ← hc, Nat.add_assoc]
theorem Row.none_ (w : World) (a : Option Addr) (c : Nat) (hc : c ≤ maxLen) (ha : a = none → c = 0) : Row w (.slice a 0 c) 0 [] :=
  ⟨a, c, rfl, Nat.zero_le _, hc, ha, fun _ hj => absurd hj (Nat.not_lt_zero _)⟩
/-- The head of a row that is one's own. -/
theorem ownsRow.head {w : World} {e : TypeId} {a : Option Addr} {n c : Nat} {xs : List Value} (h : w.ownsRow 0 e 1 (.slice a n c) n xs) (k : Nat) (hk : k ≤ n) : w.ownsRow 0 e 1 (.slice a k c) k (xs.take k) := by
  obtain ⟨hl, ⟨h1, rfl⟩ | ⟨g, cap, cur, h1, h2, h3, h4, h5, h6, h7⟩⟩ := h
  · cases h1
    obtain rfl : k = 0 := by omega
    simpa using World.ownsRow_nil w 0 e 1
  · cases h1
    refine ⟨by simp at hl ⊢; omega, .inr ⟨g, _, cur, rfl, h2, h3, by omega, h5, h6, ?_⟩⟩
    rw [← h7, List.take_take]; congr 1; omega

theorem Tryz.infoI64 : (Tryz.prog.info? 3).map (fun i => (i.zero, i.size, i.bytes)) = some (some (.int .i64 0), 1, 8) := by kernel_rfl

/-- Slices of a row of one's own. -/
theorem ownsRow.tailV {w : World} {a : Option Addr} {n c : Nat} {xs : List Value} (h : w.ownsRow 0 3 1 (.slice a n c) n xs) (k : Nat) (hk : k ≤ n) :
    ∃ ta, (∀ w', (Instr.sliceAt 41 (.slice a n c) (some (.int .i64 k)) none none).run Tryz.prog w' = .ok (.slice ta (n - k) (c - k)) w') ∧ Row w (.slice ta (n - k) (c - k)) (n - k) (xs.drop k) := by
  have h0 := World.ownsRow.row h
  have hl : xs.length = n := by have := h.1; omega
  have hr := h0
  obtain ⟨a', c', he, h1, h2, h3, h4⟩ := hr
  cases he
  refine ⟨if c = k then a else a.map (·.add (k * 1)), fun w' => ?_, ?_⟩
  · have hs : (Go.sizeOf (Tryz.prog.elem 41)).run Tryz.prog w' = .ok 1 w' := by kernel_rfl
    rw [run_sliceAt_slice w' _ _ _ _ _ (by kernel_rfl), run_slice_l w' _ a n c (by kernel_rfl) .i64 (k : Int) (by omega) (by omega), hs]
    simp [Result.andThen, sliced]
  · by_cases hkn : k < n
    · obtain ⟨b, off, rfl, hR⟩ := h0.tail hl k hkn
      rw [if_neg (by omega)]
      by_cases hk0 : k = 0
      · subst hk0; simpa [Addr.add] using hR
      · simpa [Addr.add, hk0] using hR
    · obtain rfl : k = n := by omega
      rw [List.drop_of_length_le (by omega), Nat.sub_self]
      refine Row.none_ w _ _ (by omega) (fun e => ?_)
      split at e
      · omega
      · have : a = none := by simpa using e
        have := h3 this; omega
theorem ownsRow.headV {w : World} {a : Option Addr} {n c : Nat} {xs : List Value} (h : w.ownsRow 0 3 1 (.slice a n c) n xs) (k : Nat) (hk : k ≤ n) :
    ∀ w', (Instr.sliceAt 41 (.slice a n c) none (some (.int .i64 k)) none).run Tryz.prog w' = .ok (.slice a k c) w' := by
  intro w'
  have hs : (Go.sizeOf (Tryz.prog.elem 41)).run Tryz.prog w' = .ok 1 w' := by kernel_rfl
  have hc : n ≤ c := by obtain ⟨a', c', he, h1, -⟩ := World.ownsRow.row h; cases he; exact h1
  rw [run_sliceAt_slice w' _ _ _ _ _ (by kernel_rfl), run_slice_h w' _ a n c (by kernel_rfl) .i64 (k : Int) (by omega) (by omega), hs]
  obtain ⟨-, ⟨h1, rfl⟩ | ⟨g, cap, cur, h1, -⟩⟩ := h
  · cases h1; simp [Result.andThen, sliced]
  · cases h1; simp [Result.andThen, sliced, Addr.add]

set_option maxRecDepth 100000 in
set_option maxHeartbeats 2000000 in
theorem refOpen_any (w : World) (O : Nat → Prop) (B : Nat) (l : List Come) (h : RefB w O B l) (hn : l.length ≤ 1099511627776) :
    Calls Tryz.prog 21 #[.pointer (some ⟨B, 0, none⟩)] w fun e w' => OpenTold w w' l e := by
  obtain ⟨-, -, rv, rs, hl, hB, hr, -, -⟩ := h
  have hBlt := lt_of_block hB
  have hlen : rs.length = l.length := by rw [← hl]; simp
  have HB := Lib.hid hB; have HR := Lib.hid hr; have HL := Lib.hid hl; have HLen := Lib.hid hlen; clear hB hr hl hlen
  go_enter Tryz.func21, Tryz.ntmps21
  go_wp2_with fail
  go_loopw [3, 4] (fun ov iv wr => ∃ k n : Nat, k ≤ l.length ∧ iv = .int .i64 k ∧ Hid (n = (openL (l.take k)).length) ∧ wr.ownsRow 0 3 1 ov n (ints .i64 (openL (l.take k))) ∧ (∀ b, ov.ownBlock = some b → w.heap.size ≤ b) ∧ Below w.heap.size w wr) (fun _ iv _ => l.length - (RowKit.intOf iv).toNat)
  case atStart => exact ⟨0, 0, by omega, rfl, Lib.hid rfl, World.ownsRow_nil _ _ _ _, by simp [Value.ownBlock], Below.refl _ _⟩
  case round =>
    obtain ⟨k, n, hk, rfl, HN, h1, h2, h3⟩ := hrel
    have hBr : wr.heap[B]? = some (.cells #[rv] 58 (0, 0)) := (h3.block B hBlt).trans HB.out
    have hrr := ownsRow.keptBy HR.out (Kept.ofFresh h3 (fun _ => False)) (fun _ _ h => h)
    have hB0 := cell_of_one hBr
    obtain ⟨a, c, rfl, hcell⟩ := ownsRow.shape hrr
    have H1 := Lib.hid h1; have H2 := Lib.hid h2; have H3 := Lib.hid h3; have HC := Lib.hid hcell; clear h1 h2 h3 hBr hrr hcell
    have hnl : n ≤ l.length := by have := HN.out; have h := openL_length (l.take k); simp at h; omega
    by_cases hkn : k < l.length
    · obtain ⟨g, rfl, g0⟩ := HC.out (k * 4 + 0) (by omega)
      have hkr : k < rs.length := by rw [HLen.out]; exact hkn
      rw [flatR_get cellsC_len rs k 0 hkr (by omega)] at g0
      simp only [cellsC, List.getElem?_cons_zero, Nat.add_zero, fst_get HL.out k hkr hkn] at g0
      generalize hv : l[k].ver = v at g0
      have HV := Lib.hid hv; clear hv
      generalize hxs : openL (l.take k) = xs at HN H1
      have HXS := Lib.hid hxs; clear hxs
      obtain ⟨ba, bc, rfl⟩ := ownsRow.form_ H1.out
      obtain ⟨_, _, hqe, q1, q2, q3, q4⟩ : Row wr (.slice ba n bc) n (ints .i64 xs) := World.ownsRow.row H1.out
      cases hqe
      have Q4 := Lib.hid q4; clear q4
      go_upto_block 2 with (fail)
      go_cut [6] from 25 to 38 (fun s wc => s = .int .i64 (posV v xs : Nat) ∧ wr = wc)
      case first =>
        go_wp2_with fail
        go_loop [6] (fun s => ∃ a : Nat, a ≤ n ∧ s = .int .i64 a ∧ Hid (∀ i (_ : i < a) (h2 : i < xs.length), xs[i] < v)) (fun s => n - (RowKit.intOf s).toNat)
        case atStart => exact ⟨0, by omega, rfl, Lib.hid (fun i h => absurd h (Nat.not_lt_zero i))⟩
        case round =>
          obtain ⟨a, ha, rfl, HI⟩ := hrel
          have HS := Lib.hid (posV_step v xs a HI.out (by have := HN.out; omega))
          have hnx := HN.out
          by_cases han : a < n
          · obtain ⟨g2, off, rfl, hc⟩ := Q4.out a (by simp; omega)
            have hax : a < xs.length := by omega
            rw [List.getElem?_map, List.getElem?_eq_getElem hax, Option.map_some] at hc
            generalize hy : xs[a] = y at hc
            have HY := Lib.hid hy; clear hy
            have hanz : (a : Int) < (n : Int) := by omega
            by_cases hyv : y < v
            · clear hnx
              go_wp2_with fail
              go_round
              case rel => exact ⟨a + 1, by omega, by go_num, Lib.hid (fun i hi h2 => by
                by_cases hia : i = a
                · subst hia; rw [HY.out]; exact hyv
                · exact HI.out i (by omega) h2)⟩
              case measure => simp [RowKit.intOf]; omega
            · have hp := HS.out.2 hax (by rw [HY.out]; omega)
              have HP := Lib.hid hp; clear hp hnx
              have hyv2 : v ≤ y := by omega
              go_wp2_with fail
              go_meet
              case rel => exact ⟨by rw [HP.out], rfl⟩
          · have hp := HS.out.1 (by omega)
            have HP := Lib.hid hp; clear hp hnx
            obtain rfl : a = n := by omega
            go_wp2_with fail
            go_meet
            case rel => exact ⟨by rw [HP.out], rfl⟩
      case rest =>
      obtain ⟨rfl, rfl⟩ := hcut
      have hple0 := posV_le v xs
      have hnx := HN.out
      obtain ⟨P, hP⟩ : ∃ P, P = posV v xs := ⟨_, rfl⟩
      rw [← hP] at hple0 ⊢
      have hple : P ≤ n := by omega
      clear hple0
      have HP := Lib.hid hP; clear hP
      have hfin : openL (l.take (k + 1)) = insV v xs := by rw [openL_take l k hkn, HXS.out, HV.out]
      have HF := Lib.hid hfin; clear hfin
      obtain ⟨ta, hsl, hT⟩ := ownsRow.tailV H1.out P hple
      have hsh := ownsRow.headV H1.out P hple
      have HT := Lib.hid hT; have HHead := Lib.hid (ownsRow.head H1.out P hple); clear hT
      have hxl : xs.length = n := by omega
      have hob : (Value.slice ba P bc).ownBlock = (Value.slice ba n bc).ownBlock := by cases ba <;> rfl
      have HOut : Hid (∀ b, (Value.slice ba P bc).ownBlock = some b → w.heap.size ≤ b ∧ b < wr.heap.size) := Lib.hid (fun b hb => ⟨H2.out b (hob.symm.trans hb), (H1.out.lt b (hob.symm.trans hb)).2⟩)
      clear hob
      have hins : xs[P]? ≠ some v → insV v xs = xs.take P ++ v :: xs.drop P := fun h => by unfold insV; rw [← HP.out, if_neg h]
      have HIns := Lib.hid hins; clear hins
      have HXL := Lib.hid hxl; clear hnx hxl
      by_cases hpn : P < n
      · obtain ⟨g2, off, rfl, hc⟩ := Q4.out P (by have := HXL.out; simp; omega)
        have hpx : P < xs.length := by have := HXL.out; omega
        rw [List.getElem?_map, List.getElem?_eq_getElem hpx, Option.map_some] at hc
        have hxp : xs[P]? = some xs[P] := List.getElem?_eq_getElem hpx
        generalize xs[P] = y at hc hxp
        have hpnz : ((P : Int) == (n : Int)) = false := by simp; omega
        by_cases hyv : y = v
        · have e1 : (y != v) = false := by simp [hyv]
          have hins : insV v xs = xs := by unfold insV; rw [← HP.out, hxp, hyv, if_pos rfl]
          have HIns := Lib.hid hins; have HYV := Lib.hid hyv; clear hins hyv hxp
          go_wp2_with fail
          go_roundw
          case rel => exact ⟨k + 1, n, by omega, by go_num, by rw [HF.out, HIns.out]; exact HN, by rw [HF.out, HIns.out]; exact H1.out, H2.out, H3.out⟩
          case measure => simp [RowKit.intOf]; omega
        · have e1 : (y != v) = true := by simp [hyv]
          have HI2 := Lib.hid (HIns.out (by rw [hxp]; simpa using hyv))
          clear hyv hxp
          go_upto_region 11 with (at_builtin; refine wpList_append_row rfl (.tmp 51) (.tmp 54) 41 rfl 3 Tryz.infoI64 Tryz.underlying41 rfl (by decide) _ 0 [] rfl (World.ownsRow_made wr #[] 0 (Nat.zero_le _) (Nat.zero_le _) rfl) _ (n - P) ((ints .i64 xs).drop P) rfl (HT.out.below ((Below.refl _ wr).alloc (Nat.le_refl _) _)) (by have := HXL.out; simp; omega) (fun u hu => ints_one _ _ u (List.mem_of_mem_drop hu)) (by unfold maxLen; omega) (by omega) ?_; intro rv2 w1 hr1 hc1 _; rw [Nat.zero_add, List.nil_append] at hr1; obtain ⟨ra, rc, rfl⟩ := ownsRow.form_ hr1; obtain ⟨hb1, hf1⟩ := AppCase.fresh (w := wr) ((Below.refl _ wr).alloc (Nat.le_refl _) _) hc1 (fun b hb => by cases hb; exact Nat.le_refl _); have HR1 := Lib.hid hr1; have HB1 := Lib.hid hb1; have HF1 := Lib.hid hf1; clear hr1 hc1 hb1 hf1)
          have HB1w := Lib.hid (H3.out.trans (HB1.out.mono H3.out.size))
          go_wp2_with (first
            | (at_builtin; refine wpList_append_row rfl (.tmp 58) (.tmp 60) 41 rfl 3 Tryz.infoI64 Tryz.underlying41 rfl (by decide) _ P ((ints .i64 xs).take P) rfl (ownsRow.keptBy HHead.out ((Kept.ofFresh HB1.out (fun _ => False)).alloc _) (fun _ _ h => h)) _ 1 [.int .i64 v] rfl (Row.lit w1 #[.int .i64 v] 3 1 (by unfold maxLen; omega)) rfl (by simp [Value.oneCell']) (by unfold maxLen; omega) (by omega) ?_; intro v2 w2 hr2 hc2 _; obtain ⟨ba2, bc2, rfl⟩ := ownsRow.form_ hr2; have hr1b := ownsRow.keptBy HR1.out (((Kept.refl (fun b => (Value.slice (some ⟨g2, off, none⟩) P bc).ownBlock = some b) w1).alloc _).trans ((Kept.ofGrown hc2.grown).mono (fun _ h => h))) (fun b hb e => by have := HF1.out b hb; have := (HOut.out b e).2; omega); obtain ⟨hb2, hf2⟩ := AppCase.fresh (w := w) (HB1w.out.alloc HB1w.out.size _) hc2 (fun b hb => (HOut.out b hb).1); have HR2 := Lib.hid hr2; have HR1b := Lib.hid hr1b; have HB2 := Lib.hid hb2; have HF2 := Lib.hid hf2; clear hr2 hc2 hr1b hb2 hf2)
            | (at_builtin; refine wpList_append_row rfl (.tmp 61) (.tmp 62) 41 rfl 3 Tryz.infoI64 Tryz.underlying41 rfl (by decide) (.slice ba2 (P + 1) bc2) (P + 1) ((ints .i64 xs).take P ++ [.int .i64 v]) rfl HR2.out (.slice ra (n - P) rc) (n - P) ((ints .i64 xs).drop P) rfl (World.ownsRow.row HR1b.out) (by have := HXL.out; simp; omega) (fun u hu => ints_one _ _ u (List.mem_of_mem_drop hu)) (by unfold maxLen; omega) (by omega) ?_; intro v3 w3 hr3 hc3 _; obtain ⟨hb3, hf3⟩ := AppCase.fresh (w := w) HB2.out hc3 HF2.out; have HR3 := Lib.hid hr3; have HB3 := Lib.hid hb3; have HF3 := Lib.hid hf3; clear hr3 hc3 hb3 hf3))
          go_roundw
          case rel => exact ⟨k + 1, P + 1 + (n - P), by omega, by go_num, Lib.hid (by rw [HF.out, HI2.out]; have := HXL.out; simp; omega), by rw [HF.out, HI2.out]; simpa [ints, List.map_take, List.map_drop] using HR3.out, HF3.out, HB3.out⟩
          case measure => simp [RowKit.intOf]; omega
      · have hpnz : ((P : Int) == (n : Int)) = true := by simp; omega
        have HI2 := Lib.hid (HIns.out (by rw [List.getElem?_eq_none (by have := HXL.out; omega)]; simp))
        go_upto_region 11 with (at_builtin; refine wpList_append_row rfl (.tmp 51) (.tmp 54) 41 rfl 3 Tryz.infoI64 Tryz.underlying41 rfl (by decide) _ 0 [] rfl (World.ownsRow_made wr #[] 0 (Nat.zero_le _) (Nat.zero_le _) rfl) _ (n - P) ((ints .i64 xs).drop P) rfl (HT.out.below ((Below.refl _ wr).alloc (Nat.le_refl _) _)) (by have := HXL.out; simp; omega) (fun u hu => ints_one _ _ u (List.mem_of_mem_drop hu)) (by unfold maxLen; omega) (by omega) ?_; intro rv2 w1 hr1 hc1 _; rw [Nat.zero_add, List.nil_append] at hr1; obtain ⟨ra, rc, rfl⟩ := ownsRow.form_ hr1; obtain ⟨hb1, hf1⟩ := AppCase.fresh (w := wr) ((Below.refl _ wr).alloc (Nat.le_refl _) _) hc1 (fun b hb => by cases hb; exact Nat.le_refl _); have HR1 := Lib.hid hr1; have HB1 := Lib.hid hb1; have HF1 := Lib.hid hf1; clear hr1 hc1 hb1 hf1)
        have HB1w := Lib.hid (H3.out.trans (HB1.out.mono H3.out.size))
        go_wp2_with (first
          | (at_builtin; refine wpList_append_row rfl (.tmp 58) (.tmp 60) 41 rfl 3 Tryz.infoI64 Tryz.underlying41 rfl (by decide) _ P ((ints .i64 xs).take P) rfl (ownsRow.keptBy HHead.out ((Kept.ofFresh HB1.out (fun _ => False)).alloc _) (fun _ _ h => h)) _ 1 [.int .i64 v] rfl (Row.lit w1 #[.int .i64 v] 3 1 (by unfold maxLen; omega)) rfl (by simp [Value.oneCell']) (by unfold maxLen; omega) (by omega) ?_; intro v2 w2 hr2 hc2 _; obtain ⟨ba2, bc2, rfl⟩ := ownsRow.form_ hr2; have hr1b := ownsRow.keptBy HR1.out (((Kept.refl (fun b => (Value.slice ba P bc).ownBlock = some b) w1).alloc _).trans ((Kept.ofGrown hc2.grown).mono (fun _ h => h))) (fun b hb e => by have := HF1.out b hb; have := (HOut.out b e).2; omega); obtain ⟨hb2, hf2⟩ := AppCase.fresh (w := w) (HB1w.out.alloc HB1w.out.size _) hc2 (fun b hb => (HOut.out b hb).1); have HR2 := Lib.hid hr2; have HR1b := Lib.hid hr1b; have HB2 := Lib.hid hb2; have HF2 := Lib.hid hf2; clear hr2 hc2 hr1b hb2 hf2)
          | (at_builtin; refine wpList_append_row rfl (.tmp 61) (.tmp 62) 41 rfl 3 Tryz.infoI64 Tryz.underlying41 rfl (by decide) (.slice ba2 (P + 1) bc2) (P + 1) ((ints .i64 xs).take P ++ [.int .i64 v]) rfl HR2.out (.slice ra (n - P) rc) (n - P) ((ints .i64 xs).drop P) rfl (World.ownsRow.row HR1b.out) (by have := HXL.out; simp; omega) (fun u hu => ints_one _ _ u (List.mem_of_mem_drop hu)) (by unfold maxLen; omega) (by omega) ?_; intro v3 w3 hr3 hc3 _; obtain ⟨hb3, hf3⟩ := AppCase.fresh (w := w) HB2.out hc3 HF2.out; have HR3 := Lib.hid hr3; have HB3 := Lib.hid hb3; have HF3 := Lib.hid hf3; clear hr3 hc3 hb3 hf3))
        go_roundw
        case rel => exact ⟨k + 1, P + 1 + (n - P), by omega, by go_num, Lib.hid (by rw [HF.out, HI2.out]; have := HXL.out; simp; omega), by rw [HF.out, HI2.out]; simpa [ints, List.map_take, List.map_drop] using HR3.out, HF3.out, HB3.out⟩
        case measure => simp [RowKit.intOf]; omega
    · obtain rfl : k = l.length := by omega
      have H1' := H1.out
      rw [List.take_length] at H1'
      have HN' := HN.out
      rw [List.take_length] at HN'
      have H1'' := Lib.hid H1'; have HN'' := Lib.hid HN'; clear H1' HN'
      go_wp2_with fail
      go_ret
      exact ⟨_, rfl, by rw [← HN''.out]; exact H1''.out, H2.out, H3.out⟩

end Go.Proofs.YtmhmhpdpiikjiaaGreat
