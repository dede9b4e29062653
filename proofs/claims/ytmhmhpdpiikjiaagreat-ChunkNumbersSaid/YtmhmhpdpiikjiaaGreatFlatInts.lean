/- flatInts: lists of int that lie apart are told to lie apart. -/
import Derived.Test.YtmhmhpdpiikjiaaGreatKitC
import Derived.Test.YtmhmhpdpiikjiaaGreatFlatLaw
namespace Go.Proofs.YtmhmhpdpiikjiaaGreat
open Go.RowKit

theorem Tryz.infoI64 : (Tryz.prog.info? 3).map (fun i => (i.zero, i.size, i.bytes)) = some (some (.int .i64 0), 1, 8) := by kernel_rfl
theorem Tryz.infoSlI64 : (Tryz.prog.info? 41).map (fun i => (i.zero, i.size, i.bytes)) = some (some (.slice none 0 0), 1, 24) := by kernel_rfl
def encI64 (k i : Nat) : Value := .int .i64 (mk (k : Int) (i : Int))

set_option maxHeartbeats 4000000 in
set_option maxRecDepth 100000 in
theorem flatInts_any (w : World) (ls : Value) (n : Nat) (u : Nat → Value) (ln : Nat → Nat) (L : Nat → Option Nat) (hR : Row w ls n ((List.range n).map u)) (hRL : ∀ b, ls.ownBlock = some b → L b = none)
    (hF : ∀ j, j < n → ∃ ys, Fam w 3 L j (u j) (ln j) ys) (hn : n ≤ 1099511627776) (hln : ∀ j, j < n → ln j ≤ 1099511627776) (hlt : ∀ b, L b ≠ none → b < w.heap.size) :
    Calls Tryz.prog 48 #[ls] w fun e w' => e = .returned (.bool true) ∧ Kept (fun b => L b ≠ none) w w' ∧ ∀ j, j < n → ∃ ys, Fam w' 3 L j (u j) (ln j) ys := by
  obtain ⟨a, c, rfl, -, -, -, h⟩ := hR
  have HA := Lib.hid (Row.atK (L := L) (by cases a with | none => (intro b hb; cases hb) | some a => exact hRL) h); clear h hRL
  have HP : Hid (P1 3 encI64 L n u ln w w 0) := ⟨fun j hj => by obtain ⟨ys, h⟩ := hF j hj; exact ⟨ys, h, fun h => absurd h (Nat.not_lt_zero j)⟩, Kept.refl _ _⟩
  have HLB : Hid (∀ j, j < n → lab L j (u j)) := fun j hj => by obtain ⟨ys, h⟩ := hF j hj; exact h.2
  have HLN := Lib.hid hln; have HLT := Lib.hid hlt; clear hF hln hlt
  go_enter Tryz.func48, Tryz.ntmps48
  go_wp2_with fail
  go_loopw [3] (fun kv wr => ∃ k : Nat, k ≤ n ∧ kv = .int .i64 k ∧ P1 3 encI64 L n u ln w wr k) (fun kv _ => n - (intOf kv).toNat)
  case atStart => exact ⟨0, by omega, rfl, HP.out⟩
  case round =>
    obtain ⟨k, hk, rfl, hp⟩ := hrel
    have HP1 := Lib.hid hp; clear hp
    by_cases hkn : k < n
    · go_wp2_with fail
      go_loopw [4] (fun iv wr => ∃ i : Nat, i ≤ ln k ∧ iv = .int .i64 i ∧ P1i 3 encI64 L n u ln w wr k i) (fun iv _ => ln k - (intOf iv).toNat)
      case atStart => exact ⟨0, by omega, rfl, HP1.out.start hkn⟩
      case round =>
        obtain ⟨i, hi, rfl, hp⟩ := hrel
        have HPI := Lib.hid hp; clear hp
        obtain ⟨bR, oR, rfl, hcell⟩ := HA.out _ HPI.out.kept k hkn
        have hlnk := HLN.out k hkn
        by_cases hin : i < ln k
        · obtain ⟨g, c, old, hu, hg, hold, hfz, hp'⟩ := HPI.out.store hin
          rw [hu] at hcell
          have HU := Lib.hid hu; have HP' := Lib.hid hp'; have HG := Lib.hid hg; clear hu hp' hg
          go_wp2_with fail
          refine wp_region_still_tail 9 (by kernel_rfl) (by kernel_rfl) ?_
          simp only [List.take_succ_cons, List.take_zero, List.drop_succ_cons, List.drop_zero]
          repeat still_step
          still_call (mark_s _ _ _)
          repeat still_step
          refine wpStill_nil ?_
          change wpList _ _ _ _ _ wr.drew
          go_wp2
          go_roundw
          case rel => exact ⟨i + 1, by omega, by go_num, HP'.out.quiet ⟨1, rfl⟩⟩
          case measure => simp [intOf]; omega
        · obtain ⟨ys, hf, -⟩ := HPI.out.2.1
          obtain ⟨ua, uc, hu⟩ := hf.form
          rw [hu] at hcell
          have HU := Lib.hid hu; clear hu hf
          go_wp2_with fail
          go_roundw
          case rel => exact ⟨k + 1, by omega, by go_num, HPI.out.done (by omega)⟩
          case measure => simp [intOf]; omega
    · obtain rfl : n = k := by omega
      go_wp2_with (at_make; refine wpList_make_len rfl _ _ 45 rfl 41 Tryz.infoSlI64 Tryz.underlying45 .i64 .i64 _ _ n rfl rfl rfl rfl ?mb2 ?mb3 ?mK)
      case mb2 => omega
      case mb3 => unfold maxLen; omega
      intro w2 hown2 hgr2
      have HP2 := Lib.hid (P2.start (Grew encI64 ln) HLT.out HP1.out hown2 hgr2); clear hown2 hgr2
      generalize hG : wr.heap.size = G at HP2 ⊢
      clear hG HP1 HP
      go_wp2_with fail
      go_loopw [6] (fun kv wr => ∃ k : Nat, k ≤ n ∧ kv = .int .i64 k ∧ ∃ L' gs, P2 3 41 encI64 L n u ln (Grew encI64 ln) G w wr k L' gs) (fun kv _ => n - (intOf kv).toNat)
      case atStart => exact ⟨0, by omega, rfl, _, _, HP2.out⟩
      case round =>
        obtain ⟨k, hk, rfl, L', gs, hp⟩ := hrel
        have HP := Lib.hid hp; clear hp HP2
        by_cases hkn : k < n
        · obtain ⟨ua, uc, hu⟩ := (HP.out.all k hkn).form
          obtain ⟨bR, oR, rfl, hcell⟩ := HA.out _ HP.out.kept k hkn
          have hcell0 := Lib.hid hcell
          rw [hu] at hcell
          have HU := Lib.hid hu; clear hu
          have hlnk := HLN.out k hkn
          go_wp2_with fail
          clear hcell
          go_loopw [7, 8] (fun v iv wr => ∃ i : Nat, i ≤ 64 ∧ iv = .int .i64 i ∧ ∃ L', P2 3 41 encI64 L n u ln (Grew encI64 ln) G w wr k L' gs ∧ Fam wr 3 L' k v (ln k + i) (mks encI64 k (ln k + i))) (fun _ iv _ => 64 - (intOf iv).toNat)
          case atStart => exact ⟨0, by omega, rfl, L', HP.out, by rw [← HU.out]; exact HP.out.all k hkn⟩
          case round =>
            obtain ⟨i, hi, rfl, L2, hp, hf⟩ := hrel
            have HP2 := Lib.hid hp; have HF := Lib.hid hf; clear hp hf HP hcell0
            by_cases hin : i < 64
            · obtain ⟨bR', oR', hRR, hcell⟩ := HA.out _ HP2.out.kept k hkn
              obtain ⟨rfl, rfl⟩ : bR = bR' ∧ oR = oR' := by simpa using hRR
              clear hRR
              rw [HU.out] at hcell
              obtain ⟨va, vc, hv⟩ := HF.out.form
              have HV := Lib.hid hv; clear hv
              go_wp2_with (first | (go_at_call 41; refine (mark_any _ _ _).mono ?_; rintro e w' ⟨rfl, rfl⟩) | (at_builtin; refine wpList_append_wrow rfl _ _ 41 rfl 3 Tryz.infoI64 Tryz.underlying41 rfl _ (ln k + i) (mks encI64 k (ln k + i)) rfl (HF.out.1.alloc _) _ 1 [encI64 k (ln k + i)] rfl (Row.lit _ #[encI64 k (ln k + i)] 3 1 (by unfold maxLen; omega)) rfl (by simp [encI64, Value.oneCell']) ?a1 ?a2 ?aK))
              case a1 => unfold maxLen; omega
              case a2 => omega
              intro v' w1 hown' hc hz
              obtain ⟨L3, hp3, hf3⟩ := (HP2.out.alloc _).append hkn ⟨HF.out.1.alloc _, HF.out.2⟩ (by omega) (by omega) hown' hc hz
              have HP3 := Lib.hid hp3; have HF3 := Lib.hid hf3; clear hp3 hf3 hown' hc hz
              go_wp2_with fail
              go_roundw
              case rel => exact ⟨i + 1, by omega, by go_num, L3, HP3.out, by rw [show ln k + (i + 1) = ln k + i + 1 by omega, mks_succ]; exact HF3.out⟩
              case measure => simp [intOf]; omega
            · obtain rfl : i = 64 := by omega
              obtain ⟨⟨old, hold⟩, hfz, hp3⟩ := HP2.out.stored hkn HF.out ⟨rfl, rfl⟩
              have HP3 := Lib.hid hp3; clear hp3
              obtain ⟨va, vc, hv⟩ := HF.out.form
              subst hv
              go_wp2_with fail
              go_roundw
              case rel => exact ⟨k + 1, by omega, by go_num, L2, _, HP3.out⟩
              case measure => simp [intOf]; omega
        · obtain rfl : n = k := by omega
          go_wp2_with fail
          go_loopw [9] (fun kv wr => ∃ k : Nat, k ≤ n ∧ kv = .int .i64 k ∧ P2 3 41 encI64 L n u ln (Grew encI64 ln) G w wr n L' gs) (fun kv _ => n - (intOf kv).toNat)
          case atStart => exact ⟨0, by omega, rfl, HP.out⟩
          case round =>
            obtain ⟨k, hk, rfl, hp⟩ := hrel
            have HP3 := Lib.hid hp; clear hp HP
            by_cases hkn : k < n
            · go_wp2_with fail
              go_loopw [10] (fun iv wr => ∃ i : Nat, i ≤ ln k + 64 ∧ iv = .int .i64 i ∧ P2 3 41 encI64 L n u ln (Grew encI64 ln) G w wr n L' gs) (fun iv _ => ln k + 64 - (intOf iv).toNat)
              case atStart => exact ⟨0, by omega, rfl, HP3.out⟩
              case round =>
                obtain ⟨i, hi, rfl, hp⟩ := hrel
                have HP4 := Lib.hid hp; clear hp HP3
                obtain ⟨bR, oR, rfl, hcell⟩ := HA.out _ HP4.out.kept k hkn
                have hlnk := HLN.out k hkn
                obtain ⟨g, m, ys, hg1, hg2, rfl, rfl⟩ := HP4.out.done k hkn
                have hgc := HP4.out.gown.cellAt k (by omega)
                rw [hg1] at hgc
                obtain ⟨ua, uc, hu⟩ := (HP4.out.all k hkn).form
                by_cases hin : i < ln k + 64
                · obtain ⟨gb, gc, rfl, hgi⟩ := hg2.cell hin
                  rw [mks_get _ _ _ _ hin] at hgi
                  unfold encI64 at hgi
                  by_cases hil : i < ln k
                  · obtain ⟨ub, uc', hu2, hui⟩ := (HP4.out.all k hkn).cell hil
                    rw [mks_get _ _ _ _ hil] at hui
                    unfold encI64 at hui
                    rw [hu2] at hcell
                    have d1 : decide (i < ln k) = true := by simp [hil]
                    clear hu hu2 hg1 hg2
                    go_wp2_with fail
                    go_quiet ((go_at_call 41; exact Calls.quietAt (mark_q _ _ _)))
                    go_wp2_with fail
                    go_roundw
                    case rel => exact ⟨i + 1, by omega, by go_num, HP4.out.quiet ⟨_, rfl⟩⟩
                    case measure => simp [intOf]; omega
                  · rw [hu] at hcell
                    have d1 : decide (i < ln k) = false := by simp; omega
                    clear hu hg1 hg2
                    go_wp2_with fail
                    go_quiet ((go_at_call 41; exact Calls.quietAt (mark_q _ _ _)))
                    go_wp2_with fail
                    go_roundw
                    case rel => exact ⟨i + 1, by omega, by go_num, HP4.out.quiet ⟨_, rfl⟩⟩
                    case measure => simp [intOf]; omega
                · obtain ⟨ga, gc, hgf⟩ := hg2.form
                  rw [hgf] at hgc
                  clear hu hg1 hg2 hgf hcell
                  go_wp2_with fail
                  go_roundw
                  case rel => exact ⟨k + 1, by omega, by go_num, HP4.out⟩
                  case measure => simp [intOf]; omega
            · obtain rfl : n = k := by omega
              go_wp2_with fail
              go_loopw [11] (fun kv wr => ∃ k : Nat, k ≤ n ∧ kv = .int .i64 k ∧ ∃ L' gs, P2 3 41 encI64 L n u ln (Grew2 encI64 ln) G w wr k L' gs) (fun kv _ => n - (intOf kv).toNat)
              case atStart => exact ⟨0, by omega, rfl, _, _, HP3.out.again _⟩
              case round =>
                clear HP3
                obtain ⟨k, hk, rfl, L', gs, hp⟩ := hrel
                have HP := Lib.hid hp; clear hp
                by_cases hkn : k < n
                · have hlnk := HLN.out k hkn
                  have hgsz := (HP.out.gown.lt G rfl).2
                  have hwsz := HP.out.kept.size
                  have hLM : L' wr.heap.size = none := by
                    cases hL : L' wr.heap.size with
                    | none => rfl
                    | some j => have := HP.out.lt wr.heap.size (by rw [hL]; simp); omega
                  have HLM := Lib.hid hLM; clear hLM
                  go_wp2_with (at_make; refine wpList_make_len rfl _ _ 41 rfl 3 Tryz.infoI64 Tryz.underlying41 .i64 .i64 _ _ 64 rfl rfl rfl rfl ?nb2 ?nb3 ?nK)
                  case nb2 => omega
                  case nb3 => unfold maxLen; omega
                  intro w2 hown2 hgr2
                  have hp2 := HP.out.step ((Kept.ofGrown hgr2).mono (T := fun _ => False) (by simp)) (fun _ hb => hb.elim)
                  have HP2 := Lib.hid hp2; have HO2 := Lib.hid hown2; clear hp2 hown2 hgr2 HP
                  generalize hM : wr.heap.size = M at HP2 HO2 HLM hgsz hwsz ⊢
                  clear hM
                  go_wp2_with fail
                  go_loopw [13] (fun iv wr => ∃ i : Nat, i ≤ 64 ∧ iv = .int .i64 i ∧ ∃ zs, wr.ownsRow 0 3 1 (.slice (some ⟨M, 0, none⟩) 64 64) 64 zs ∧ (∀ z ∈ zs, z.oneCell' = true) ∧ P2 3 41 encI64 L n u ln (Grew2 encI64 ln) G w wr k L' gs) (fun iv _ => 64 - (intOf iv).toNat)
                  case atStart => exact ⟨0, by omega, rfl, _, HO2.out, (by intro z hz; rw [toList_madeCells_one] at hz; rw [List.eq_of_mem_replicate hz]; rfl), HP2.out⟩
                  case round =>
                    obtain ⟨i, hi, rfl, zs, ho, hz, hp⟩ := hrel
                    have HP := Lib.hid hp; have HO := Lib.hid ho; have HZ := Lib.hid hz; clear hp ho hz HP2 HO2
                    by_cases hin : i < 64
                    · have hzl : zs.length = 64 := by simpa using HO.out.1
                      have hcell : ∃ old, wr.cell? ⟨M, i, none⟩ = some old := ⟨zs[i]'(by omega), by rw [HO.out.cellAt i (by omega)]; simp [hzl, hin]⟩
                      obtain ⟨old, hold⟩ := hcell
                      have hfz := HO.out.frozenAt i
                      obtain ⟨s1, s2⟩ := HO.out.stored i (.int .i64 (mk ((k : Int) + (n : Int)) (i : Int)))
                      have hp' := HP.out.step ((Kept.ofGrown s2).mono (T := fun b => b = M) (by simp)) (fun b hb _ => by rw [hb]; exact ⟨HLM.out, by omega, hwsz⟩)
                      have HP' := Lib.hid hp'; have HO' := Lib.hid s1; clear hp' s1 s2 hzl
                      go_wp2_with (go_at_call 41; refine (mark_any _ _ _).mono ?_; rintro e w' ⟨rfl, rfl⟩)
                      go_roundw
                      case rel => exact ⟨i + 1, by omega, by go_num, _, HO'.out, (by intro z hz; rcases List.mem_or_eq_of_mem_set hz with h | h; exact HZ.out z h; rw [h]; rfl), HP'.out⟩
                      case measure => simp [intOf]; omega
                    · obtain ⟨bR, oR, rfl, hcell⟩ := HA.out _ HP.out.kept k hkn
                      obtain ⟨ua, uc, hu⟩ := (HP.out.all k hkn).form
                      have hrow := World.ownsRow.row HO.out
                      have HRow := Lib.hid hrow; clear hrow
                      have HU := Lib.hid hu
                      rw [hu] at hcell; clear hu
                      have hzl : zs.length = 64 := by simpa using HO.out.1
                      have HZL := Lib.hid hzl; clear hzl
                      have hok := (HP.out.all k hkn).1
                      rw [HU.out] at hok
                      have HOK := Lib.hid hok; clear hok
                      go_wp2_with (at_builtin; refine wpList_append_wrow rfl _ _ 41 rfl 3 Tryz.infoI64 Tryz.underlying41 rfl _ (ln k) (mks encI64 k (ln k)) rfl HOK.out _ 64 zs rfl HRow.out HZL.out HZ.out ?c1 ?c2 ?cK)
                      case c1 => unfold maxLen; omega
                      case c2 => omega
                      intro v' w1 hown' hc hz
                      rw [← HU.out] at hc hz
                      obtain ⟨L3, hp3, hf3⟩ := HP.out.append hkn (HP.out.all k hkn) (Nat.le_refl _) (by omega) hown' hc hz
                      obtain ⟨⟨old, hold⟩, hfz, hp4⟩ := hp3.stored hkn hf3 ⟨by omega, by rw [List.take_append_of_le_length (by rw [mks_len]; exact Nat.le_refl _), List.take_of_length_le (by rw [mks_len]; exact Nat.le_refl _)]⟩
                      obtain ⟨va, vc, hv⟩ := hf3.form
                      subst hv
                      have HP4 := Lib.hid hp4; clear hp3 hf3 hp4 hown' hc hz
                      go_wp2_with fail
                      go_roundw
                      case rel => exact ⟨k + 1, by omega, by go_num, L3, _, HP4.out⟩
                      case measure => simp [intOf]; omega
                · obtain rfl : n = k := by omega
                  go_wp2_with fail
                  go_loopw [14] (fun kv wr => ∃ k : Nat, k ≤ n ∧ kv = .int .i64 k ∧ P2 3 41 encI64 L n u ln (Grew2 encI64 ln) G w wr n L' gs) (fun kv _ => n - (intOf kv).toNat)
                  case atStart => exact ⟨0, by omega, rfl, HP.out⟩
                  case round =>
                    obtain ⟨k, hk, rfl, hp⟩ := hrel
                    have HP3 := Lib.hid hp; clear hp HP
                    by_cases hkn : k < n
                    · go_wp2_with fail
                      go_loopw [15] (fun iv wr => ∃ i : Nat, i ≤ ln k ∧ iv = .int .i64 i ∧ P2 3 41 encI64 L n u ln (Grew2 encI64 ln) G w wr n L' gs) (fun iv _ => ln k - (intOf iv).toNat)
                      case atStart => exact ⟨0, by omega, rfl, HP3.out⟩
                      case round =>
                        obtain ⟨i, hi, rfl, hp⟩ := hrel
                        have HP4 := Lib.hid hp; clear hp HP3
                        obtain ⟨bR, oR, rfl, hcell⟩ := HA.out _ HP4.out.kept k hkn
                        have hlnk := HLN.out k hkn
                        by_cases hil : i < ln k
                        · obtain ⟨g, m, ys, hg1, hg2, hm, hys⟩ := HP4.out.done k hkn
                          have hgc := HP4.out.gown.cellAt k (by omega)
                          rw [hg1] at hgc
                          obtain ⟨gb, gc, rfl, hgi⟩ := hg2.cell (show i < m by omega)
                          have hyi : ys[i]? = some (encI64 k i) := by rw [← mks_get encI64 k (ln k) i hil, ← hys, List.getElem?_take, if_pos hil]
                          rw [hyi] at hgi
                          obtain ⟨ub, uc', hu2, hui⟩ := (HP4.out.all k hkn).cell hil
                          rw [mks_get _ _ _ _ hil] at hui
                          rw [hu2] at hcell
                          unfold encI64 at hgi hui
                          have hlm : i < m := by omega
                          have hml : (m : Int) ≤ 9223372036854775807 := by have := hg2.row.le; omega
                          clear hu2 hg1 hg2 hys hyi
                          go_wp2_with fail
                          go_quiet ((go_at_call 41; exact Calls.quietAt (mark_q _ _ _)))
                          go_wp2_with fail
                          go_roundw
                          case rel => exact ⟨i + 1, by omega, by go_num, HP4.out.quiet ⟨_, rfl⟩⟩
                          case measure => simp [intOf]; omega
                        · obtain ⟨ua, uc, hu⟩ := (HP4.out.all k hkn).form
                          rw [hu] at hcell
                          clear hu
                          go_wp2_with fail
                          go_roundw
                          case rel => exact ⟨k + 1, by omega, by go_num, HP4.out⟩
                          case measure => simp [intOf]; omega
                    · go_wp2_with fail
                      go_ret
                      exact ⟨rfl, HP3.out.kept, fun j hj => ⟨_, (HP3.out.all j hj).1, HLB.out j hj⟩⟩

end Go.Proofs.YtmhmhpdpiikjiaaGreat
