/- The program's boards: Put, of a piece that may be. -/
import Derived.Test.YtmhmhpdpiikjiaaGreatBdPut
import Derived.Deep.RegionLaw
import Derived.Deep.CutRange
namespace Go.Proofs.YtmhmhpdpiikjiaaGreat
open Go.RowKit

set_option maxHeartbeats 2000000 in
set_option maxRecDepth 100000 in
theorem progPut_ok (w : World) (O : Nat → Prop) (A m : Nat) (l : List Come) (v a n : Int) (pv : Value) (p : List Int) (h : BoardA w O A m l) (g : GoodC l) (hp : Row w pv p.length (ints .u8 p)) (hpO : ∀ b, pv.ownBlock = some b → ¬ O b) (h8 : Bytes8 p) (hm : m ≤ 1099511627776)
    (hok : okArgs v a n p.length = true) :
    Calls Tryz.prog 14 #[.pointer (some ⟨A, 0, none⟩), .int .i64 v, .int .i64 a, .int .i64 n, pv] w (ProgPut w O A (m + 1) (putC l v a n p).1 (putC l v a n p).2.1 (putC l v a n p).2.2) := by
  obtain ⟨k1, k2, k3, k4, k5, k6, k7, k8, k9⟩ := okArgs_iff hok
  obtain ⟨pb, po, pc, rfl⟩ := hp.some_of (by simp; omega)
  have hv : Int64 v := ⟨by omega, by omega⟩
  have H := Lib.hid h
  obtain ⟨hA, hlt, M, D, f, hb, hM, hown, hmo⟩ := h
  have hA0 := cell_of_one hb
  have hlook := lookA hown hmo hv
  generalize hs0 : (match findV l v with | none => Value.pointer none | some _ => .pointer (some ⟨f v, 0, none⟩)) = s0 at hlook
  have HS0 := Lib.hid hs0; clear hs0
  have HLT := Lib.hid hlt; have HB := Lib.hid hb; have HOWN := Lib.hid hown; have HM := Lib.hid hmo; have HV := Lib.hid hv; have G := Lib.hid g; have HP := Lib.hid hp; have HPO := Lib.hid hpO; have H8 := Lib.hid h8; have HOK := Lib.hid hok
  clear hlt hb hown hmo hv g hp hpO h8 hok
  go_enter Tryz.func14, Tryz.ntmps14
  go_wp2_with fail
  refine (known_yes w A M hA0).mono ?_
  rintro e w1 ⟨rfl, rfl⟩
  go_wp2_with fail
  refine (right_any w v a n _ p.length pc (by omega)).mono ?_
  rintro e w1 ⟨rfl, rfl⟩
  rw [HOK.out]
  go_upto_region 6 with (fail)
  go_cut [12, 33] from 14 (fun s12 s wc => (findV l v = none ∧ s12 = .pointer none ∧ s = .bool true ∨ findV l v ≠ none ∧ s12 = .pointer (some ⟨f v, 0, none⟩) ∧ s = .bool false) ∧ w = wc)
  case first =>
    cases hf : findV l v with
    | none =>
      have hs := HS0.out
      rw [hf] at hs
      subst hs
      go_wp2_with fail
      go_meet
      case rel => exact ⟨Or.inl ⟨hf, rfl, rfl⟩, rfl⟩
    | some c =>
      have hs := HS0.out
      rw [hf] at hs
      subst hs
      go_wp2_with fail
      go_meet
      case rel => exact ⟨Or.inr ⟨by rw [hf]; simp, rfl, rfl⟩, rfl⟩
  case rest =>
  obtain ⟨hc, rfl⟩ := hcut
  have HC := Lib.hid hc; clear hc
  go_upto_if 33 with (fail)
  go_cut [12] from 14 (fun s wc => UpReady w wc O l f v n s)
  case first =>
    rcases HC.out with ⟨h1, rfl, rfl⟩ | ⟨h1, rfl, rfl⟩
    · have HF := Lib.hid h1; clear h1
      go_wp2_with fail
      go_meet
      case rel =>
        refine ⟨w.heap.size, fun x => O x ∨ x = w.heap.size, rfl, fun _ h => Or.inl h, ?_, ?_, ⟨Or.inr rfl, List.replicate 40 (.slice none 0 0), by simp, ?_, fun a ha => ?_⟩, (Kept.refl _ w).alloc _, fun h => absurd HF.out h, fun _ => Nat.le_refl _⟩
        · rintro x (h | rfl)
          · exact Or.inl h
          · exact Or.inr (Nat.le_refl _)
        · rintro x (h | rfl)
          · have := HLT.out x h; simp; omega
          · simp
        · unfold upW; rw [HF.out]; exact heap_alloc_new w _
        · rw [List.getElem_replicate]; show PieceAt _ _ _ (findP l v (a : Int)); rw [findP_none_of HF.out]; rfl
    · have HF := Lib.hid h1; clear h1
      go_wp2_with fail
      go_meet
      case rel =>
        refine ⟨f v, O, rfl, fun _ h => h, fun _ h => Or.inl h, HLT.out, ?_, Kept.refl _ _, fun _ => rfl, fun h => absurd h HF.out⟩
        have := (HM.out.up v HF.out).2
        refine this.congr ?_ (fun _ => rfl)
        unfold upW
        cases hf : findV l v with
        | none => exact absurd hf HF.out
        | some c => rfl
  case rest =>
  obtain ⟨b, O1, rfl, hO1, hO2, hO3, hup, hk, hf1, hf2⟩ := hcut
  obtain ⟨k, rfl⟩ : ∃ k : Nat, a = k := ⟨a.toNat, by omega⟩
  obtain ⟨hOb, ps, hpl, hblk, hpc0⟩ := hup
  have hpc : ∀ (c : Nat) (h : c < ps.length), PieceAt wc O1 ps[c] (findP l v (c : Int)) := hpc0
  clear hpc0
  have hkl : k < ps.length := by omega
  have hcell : wc.cell? ⟨b, k, none⟩ = some ps[k] := by
    rw [cell_of_row wc b k _ _ _ hblk]
    simp only [List.getElem?_toArray]
    rw [List.getElem?_append_left hkl, List.getElem?_eq_getElem hkl]
  have hcellW : wc.cell? ⟨b, 40, none⟩ = some (.int .i64 (upW l v n)) := by
    rw [cell_of_row wc b 40 _ _ _ hblk]
    simp only [List.getElem?_toArray]
    rw [List.getElem?_append_right (by omega), hpl]; rfl
  have hpk := hpc k hkl
  generalize ps[k] = old at hcell hpk
  have HPK := Lib.hid hpk; have HBlk := Lib.hid hblk; have HPC := Lib.hid hpc; have HK := Lib.hid hk; have HF1 := Lib.hid hf1; have HF2 := Lib.hid hf2; have HO1 := Lib.hid hO1; have HO2 := Lib.hid hO2; have HO3 := Lib.hid hO3
  clear hpk hblk hpc hk hf1 hf2 hO1 hO2 hO3 HC
  have heq := fun (a : Option Addr) (n c : Nat) (w : World) => run_neq_slice_nil_any (P := Tryz.prog) w 28 5 a n c 0 0 Tryz.underlying28
  go_upto_region 9 with (fail)
  generalize hW : upW l v n = W at hcellW
  have HW := Lib.hid hW; clear hW
  go_cut [58] from 14 (fun s wd => s = .bool (clash l v k n p) ∧ wc = wd)
  case first =>
    by_cases hWn : W = n
    · have e1 : (W != n) = false := by simp [hWn]
      have HWn := Lib.hid hWn
      cases hq : findP l v k with
      | none =>
        have ho := HPK.out
        rw [hq] at ho
        obtain rfl : old = .slice none 0 0 := ho
        have HQ := Lib.hid hq; clear hq hWn
        go_wp2_with fail
        go_meet
        case rel => exact ⟨by rw [clash_upW G.out HW.out (Or.inl ⟨HWn.out, HQ.out, rfl⟩)], rfl⟩
      | some q =>
        have ho := HPK.out
        rw [hq] at ho
        have hql := findP_ok G.out hq
        have hqk := okArgs_iff hql.1
        obtain ⟨qb, qo, qc, rfl⟩ := (World.ownsRow.row ho.1).some_of (by simp; omega)
        have HQ := Lib.hid hq; have HQR := Lib.hid (World.ownsRow.row ho.1); have HQ8 := Lib.hid hql.2.1; have hq1 := hqk.2.2.2.2.2.2.1; clear hq ho hWn hql hqk
        have HPW := Lib.hid (HP.out.keptBy HK.out (fun _ _ h => h))
        go_wp2_with (go_at_call 32; refine (bytesEqual_any wc _ _ q.length p.length q p rfl rfl hq1 k7 HQR.out HPW.out HQ8.out H8.out).mono ?_; rintro e w1 ⟨rfl, rfl⟩)
        go_meet
        case rel => exact ⟨by rw [clash_upW G.out HW.out (Or.inr (Or.inl ⟨HWn.out, q, HQ.out, rfl⟩))], rfl⟩
    · have e1 : (W != n) = true := by simp [hWn]
      have HWn := Lib.hid hWn; clear hWn
      go_wp2_with fail
      go_meet
      case rel => exact ⟨by rw [clash_upW G.out HW.out (Or.inr (Or.inr ⟨HWn.out, rfl⟩))], rfl⟩
  case rest =>
  obtain ⟨rfl, rfl⟩ := hcut
  cases hcl : clash l v k n p with
  | true =>
    have HCL := Lib.hid hcl; clear hcl
    go_wp2_with fail
    go_ret2
    have hput : putC l v k n p = (l, [], 7) := by unfold putC; rw [if_neg (by rw [HOK.out]; simp), if_pos HCL.out]
    rw [hput]
    exact ⟨_, rfl, WRow.nil _ _, O, H.out.mono.kept HK.out (fun _ h => h.elim), fun _ hb => Or.inl hb, by simp [Value.ownBlock], HK.out.mono (fun _ h => h.elim)⟩
  | false =>
    obtain ⟨c1, c2, c3⟩ := clash_no G.out hcl
    have hWn : W = n := HW.out.symm.trans c1
    obtain ⟨N, rfl⟩ : ∃ N : Nat, n = N := ⟨n.toNat, by omega⟩
    subst hWn
    have hblk2 := HBlk.out
    rw [c1] at hblk2
    have HBlk2 := Lib.hid hblk2; clear hblk2
    have HCL := Lib.hid hcl; have HC2 := Lib.hid c2; have HC3 := Lib.hid c3; clear hcl c1 c2 c3 HW HPK
    have hup : UpAt wc O1 b N (fun a => findP l v (a : Int)) := ⟨hOb, ps, hpl, HBlk2.out, HPC.out⟩
    have hblt := lt_of_block HBlk.out
    have hcellF := frozen_of_row wc b k _ _ HBlk.out
    have HUp := Lib.hid hup; clear hup
    have hpw := HP.out.keptBy HK.out (fun _ _ h => h)
    have HPW := Lib.hid hpw; clear hpw
    go_upto_region 11 with (fail)
    obtain ⟨wo, rfl⟩ : ∃ wo : World, wo = wc := ⟨_, rfl⟩
    go_cut [] from 14 (fun wd => ∃ O2 : Nat → Prop, (∀ x, O1 x → O2 x) ∧ (∀ x, O2 x → O1 x ∨ wo.heap.size ≤ x) ∧ (∀ x, O2 x → x < wd.heap.size) ∧ UpAt wd O2 b N (fun c => findP (addC l v k N p) v (c : Int)) ∧ Kept (fun y => y = b) wo wd)
    case first =>
      go_region_with (go_at_call 33; refine (bytesClone_any _ _ p.length p rfl k7 (by omega) (Quiet.row ((Quiet.refl _).drew) HPW.out)).mono ?_; rintro e w1 ⟨x, g0, rfl, hx1, hx2, hx3, hx4⟩; obtain ⟨xa, xc, rfl⟩ := ownsRow.form_ hx3; have HX1 := Lib.hid hx1; have HX2 := Lib.hid hx2; have HX3 := Lib.hid hx3; have HX4 := Lib.hid hx4; have hc1 := (HX4.out.cell (p := ⟨b, k, none⟩) hblt).trans hcell; have hf1 := (HX4.out.frozen (p := ⟨b, k, none⟩) hblt).trans hcellF; clear hx1 hx2 hx3 hx4)
      all_goals
        obtain ⟨hs1, hs2⟩ := UpAt.stored HUp.out (k := k) (by omega) HO3.out (show Below wo.heap.size wo w1 from ⟨HX4.out.os, HX4.out.tape, HX4.out.output, HX4.out.size, fun i hi => HX4.out.block i hi⟩) HX3.out HX1.out HX2.out
        have HS1 := Lib.hid hs1; have HS2 := Lib.hid hs2; clear hs1 hs2
        go_wp2_with fail
        go_meet
        case rel =>
          refine ⟨_, fun _ h => Or.inl h, ?_, ?_, HS1.out.congr rfl (fun c => ?_), HS2.out⟩
          · rintro x (h | rfl)
            · exact Or.inl h
            · exact Or.inr HX2.out
          · rintro x (h | rfl)
            · exact Nat.lt_of_lt_of_le (HO3.out x h) HS2.out.size
            · have := (HX3.out.lt x HX1.out).2; simpa using this
          · show (if c = k then some p else findP l v (c : Int)) = _
            rw [findP_addC HC3.out]
            by_cases hck : c = k
            · rw [if_pos hck, if_pos ⟨rfl, by omega⟩]
            · rw [if_neg hck, if_neg (fun e => hck (by have := e.2; omega))]
    case rest =>
    obtain ⟨O2, q1, q2, q3, q4, q5⟩ := hcut
    have Q1 := Lib.hid q1; have Q2 := Lib.hid q2; have Q3 := Lib.hid q3; have Q4 := Lib.hid q4; have Q5 := Lib.hid q5
    obtain ⟨wd, rfl⟩ : ∃ wd : World, wd = wc := ⟨_, rfl⟩
    have hbt : ∀ cs t z, w.heap[b]? = some (.cells cs t z) → t = 66 := fun cs t z h => by
      have h1 := (HK.out.heap h (fun h => h)).symm.trans HBlk2.out
      simp only [Option.some.injEq, Obj.cells.injEq] at h1
      exact h1.2.1
    have hAb : A ≠ b := fun e => absurd (hbt _ _ _ (by rw [← e]; exact HB.out)) (by decide)
    have hMb : M ≠ b := fun e => ownsMap.noCells (ownsMap.keptBy HOWN.out HK.out (fun h => h)) _ _ _ (by rw [e]; exact HBlk2.out)
    have hAd : wd.heap[A]? = some (.cells #[.map (some M)] 55 (0, 0)) := q5.heap (HK.out.heap HB.out (fun h => h)) hAb
    have HOWNd := Lib.hid (ownsMap.keptBy (ownsMap.keptBy HOWN.out HK.out (fun h => h)) q5 hMb)
    have hA0d := cell_of_one hAd
    have HAB := Lib.hid hAb; have HMB := Lib.hid hMb; have HBT := Lib.hid hbt; clear hAb hMb hbt hAd q1 q2 q3 q4 q5 hcell hcellF hcellW hA0 hlook
    go_wp2_with (at_mapUpdate; refine wpList_mapUpdate_own _ rfl _ _ _ 51 rfl 3 59 (Maps.int_keyed Tryz.underlying3) Tryz.underlying51 _ M m D rfl HOWNd.out (by unfold maxLen; omega) _ _ _ rfl rfl (keyV HV.out) _ [] (ptrR_some b) ?_; intro we hown2 hgrow2)
    have hke : Kept (fun y => M = y) wd we := (Kept.ofGrown hgrow2).mono (fun y hy => by cases hy; rfl)
    have hupe : UpAt we O2 b N (fun c => findP (addC l v k N p) v (c : Int)) := Q4.out.kept hke (fun y hy _ cs t z h => absurd h (by subst hy; exact ownsMap.noCells HOWNd.out _ _ _)) (fun _ h => h)
    have hkw : Kept (fun y => y = b ∨ y = M) w we := ((HK.out.mono (fun _ h => h.elim)).trans (Q5.out.mono (fun _ h => Or.inl h))).trans (hke.mono (fun _ h => Or.inr h.symm))
    have hbd : BoardA we O2 A (m + 1) (addC l v k N p) := boardA_put G.out hA HLT.out HB.out hM HOWN.out HM.out HV.out HC2.out HC3.out hkw (fun y h => Q1.out y (HO1.out y h)) (fun y h => Nat.lt_of_lt_of_le (Q3.out y h) hke.size) HF1.out HF2.out HBT.out hown2 hupe
    have hg2 : GoodC (addC l v k N p) := G.out.add HOK.out H8.out HC2.out
    have hkO : Kept O w we := (Kept.refl O w).thenOwn hkw (fun y hy => by
      rcases hy with rfl | rfl
      · cases hf : findV l v with
        | none => exact Or.inr (HF2.out hf)
        | some c => left; rw [HF1.out (by rw [hf]; simp)]; exact (HM.out.up v (by rw [hf]; simp)).2.1
      · exact Or.inl hM)
    have hO2 : ∀ y, O2 y → O y ∨ w.heap.size ≤ y := fun y hy => by
      rcases Q2.out y hy with h | h
      · exact HO2.out y h
      · right; have := HK.out.size; omega
    have hput : ∀ r, (match allOf (addC l v k N p) v N with | none => (addC l v k N p, [], 0) | some out => (dropC (addC l v k N p) v, out, 0)) = r → putC l v k N p = r := by
      intro r hr
      unfold putC
      rw [if_neg (by rw [HOK.out]; simp), if_neg (by rw [HCL.out]; simp), Int.toNat_natCast]; exact hr
    obtain ⟨hOb2, ps2, hpl2, hblk2, hpc2⟩ := hupe
    have HBD := Lib.hid hbd; have HG2 := Lib.hid hg2; have HKO := Lib.hid hkO; have HO2' := Lib.hid hO2; have HPut := Lib.hid hput; have HBlk3 := Lib.hid hblk2; have HPC2 := Lib.hid hpc2; have HPl2 := Lib.hid hpl2; have HKE := Lib.hid hke
    clear hbd hg2 hkO hO2 hput hblk2 hpc2 hpl2 hke hkw hown2 hgrow2 hA0d
    go_wp2_with fail
    refine (done_any we O2 b N ps2 _ HBlk3.out HPl2.out (by omega) (by omega) HPC2.out (fun c q h => by have := okArgs_iff (findP_ok HG2.out h).1; omega)).mono ?_
    rintro e w3 ⟨x, rfl, hd, hb3⟩
    rw [← allOf_eq] at hd
    have hbd3 := HBD.out.kept (Kept.ofFresh hb3 (fun _ => False)) (fun _ h => h.elim)
    have HB3 := Lib.hid hb3; clear hb3
    have hwe : w.heap.size ≤ we.heap.size := HKO.out.size
    cases hall : allOf (addC l v k N p) v N with
    | none =>
      rw [hall] at hd
      obtain rfl : x = .slice none 0 0 := hd
      have HAll := Lib.hid hall; have HBD3 := Lib.hid hbd3; clear hall hbd3
      go_wp2_with fail
      go_ret2
      have hp := HPut.out _ rfl
      rw [HAll.out] at hp
      rw [hp]
      exact ⟨_, rfl, WRow.nil _ _, O2, HBD3.out, HO2'.out, by simp [Value.ownBlock], HKO.out.trans (Kept.ofFresh HB3.out _)⟩
    | some out =>
      rw [hall] at hd
      obtain ⟨hd1, hd2⟩ := hd
      have hpos := allOf_pos HG2.out hall (by omega)
      obtain ⟨xg, xc, rfl⟩ := hd1.some_ hpos
      obtain ⟨e1, e2, M2, D2, f2, e3, e4, e5, e6⟩ := hbd3
      have hA3 := cell_of_one e3
      have HAll := Lib.hid hall; have HD1 := Lib.hid hd1; have HD2 := Lib.hid hd2; have E2 := Lib.hid e2; have E3 := Lib.hid e3; have E5 := Lib.hid e5; have E6 := Lib.hid e6; clear hall hd1 hd2 e2 e3 e5 e6
      go_wp2_with (at_delete; refine wpList_delete_own _ rfl _ _ 51 3 rfl 59 (Maps.int_keyed Tryz.underlying3) Tryz.underlying51 _ M2 (m + 1) D2 rfl E5.out _ _ rfl (keyV HV.out) ?_; intro w4 hown4 hturn4)
      have HOWN4 := Lib.hid hown4; have HK4 : Hid (Kept (fun y => M2 = y) w3 w4) := Lib.hid ((Kept.ofGrown hturn4.grown).mono (fun y hy => by cases hy; rfl)); clear hown4 hturn4
      go_wp2_with fail
      go_ret2
      have hp := HPut.out _ rfl
      rw [HAll.out] at hp
      rw [hp]
      have hxg : we.heap.size ≤ xg := HD2.out xg rfl
      refine ⟨_, rfl, HD1.out.keptBy HK4.out (fun y hy e => ?_), O2, ⟨e1, fun y hy => Nat.lt_of_lt_of_le (E2.out y hy) HK4.out.size, M2, _, f2, HK4.out.heap E3.out (fun e => ?_), e4, HOWN4.out, (E6.out.kept HK4.out (fun y hy _ cs t z h => ?_) (fun _ h => h)).del v⟩, HO2'.out, fun y hy => ?_, ?_⟩
      · have h1 : M2 < we.heap.size := HBD.out.lt _ e4
        have h2 : xg = y := by simpa [Value.ownBlock] using hy
        omega
      · subst e; exact ownsMap.noCells E5.out _ _ _ E3.out
      · subst hy; exact absurd h (ownsMap.noCells E5.out _ _ _)
      · have h2 : xg = y := by simpa [Value.ownBlock] using hy
        refine ⟨by omega, fun h => ?_⟩
        have h1 : y < we.heap.size := HBD.out.lt _ h
        omega
      · refine HKO.out.thenOwn (T := fun y => M2 = y) ((Kept.ofFresh HB3.out _).trans HK4.out) (fun i hi => ?_)
        rw [← hi]
        exact HO2'.out M2 e4

end Go.Proofs.YtmhmhpdpiikjiaaGreat
