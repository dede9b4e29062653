/- The document's boards in memory: what is put, and may be. -/
import Derived.Test.YtmhmhpdpiikjiaaGreatRefB
namespace Go.Proofs.YtmhmhpdpiikjiaaGreat
open Go.RowKit

theorem ownsRow.form_ {w : World} {e : TypeId} {size : Nat} {v : Value} {n : Nat} {xs : List Value} (h : w.ownsRow 0 e size v n xs) : ∃ a c, v = .slice a n c := by
  obtain ⟨a, c, h, -⟩ := ownsRow.shape h; exact ⟨a, c, h⟩
/-- An append onto a block made since leaves all that was. -/
theorem AppCase.fresh {w w1 w2 : World} {v v' : Value} (h : Below w.heap.size w w1) (hc : AppCase w1 w2 v v') (hv : ∀ b, v.ownBlock = some b → w.heap.size ≤ b) : Below w.heap.size w w2 ∧ ∀ b, v'.ownBlock = some b → w.heap.size ≤ b := by
  refine ⟨h.grown hc.grown h.size hv, fun b hb => ?_⟩
  rcases hc with ⟨c1, -⟩ | ⟨c1, -⟩
  · exact hv b (by rw [← c1]; exact hb)
  · rw [c1] at hb; have := h.size; simp at hb; omega

theorem refB_added {wc w3 w4 : World} {O : Nat → Prop} {B : Nat} {l : List Come} {rs : List (Come × Value)} {rv s rv' : Value} {c : Come} (hOB : O B) (hOlt : ∀ b, O b → b < wc.heap.size) (hrs : rs.map Prod.fst = l)
    (hB : wc.heap[B]? = some (.cells #[rv] 58 (0, 0))) (hrO : ∀ b, rv.ownBlock = some b → O b)
    (hx : ∀ x ∈ rs, wc.ownsRow 0 5 1 x.2 x.1.pc.length (ints .u8 x.1.pc) ∧ ∀ b, x.2.ownBlock = some b → O b) (hr : wc.ownsRow 0 71 4 rv l.length (rs.flatMap cellsC))
    (h3 : w3.ownsRow 0 5 1 s c.pc.length (ints .u8 c.pc)) (k3 : Below wc.heap.size wc w3) (b3 : ∀ b, s.ownBlock = some b → wc.heap.size ≤ b) (o : Obj)
    (h4 : w4.ownsRow 0 71 4 rv' (l.length + 1) (rs.flatMap cellsC ++ cellsC (c, s))) (c4 : AppCase (w3.alloc o) w4 rv rv') (hrB : rv.ownBlock ≠ some B) :
    ∃ O', RefB (w4.setCell ⟨B, 0, none⟩ rv') O' B (l ++ [c]) ∧ (∀ b, O' b → O b ∨ wc.heap.size ≤ b) ∧ Kept O wc (w4.setCell ⟨B, 0, none⟩ rv') := by
  have hBlt := lt_of_block hB
  have s3 := k3.size
  have k34 : Kept (fun b => rv.ownBlock = some b) wc w4 := ((Kept.ofFresh k3 _).alloc o).trans ((Kept.ofGrown c4.grown).mono fun _ h => h) |> fun h => h
  have hB4 : w4.heap[B]? = some (.cells #[rv] 58 (0, 0)) := k34.heap hB hrB
  have hkO : Kept O wc (w4.setCell ⟨B, 0, none⟩ rv') := (k34.mono hrO).setCell (p := ⟨B, 0, none⟩) (Or.inl hOB) _
  have hrv' : ∀ b, rv'.ownBlock = some b → O b ∨ (wc.heap.size ≤ b ∧ b < w4.heap.size) := by
    intro b hb
    rcases c4 with ⟨c1, -⟩ | ⟨c1, c2, -⟩
    · left; exact hrO b (by rw [← c1]; exact hb)
    · right; rw [c1] at hb; simp at hb c2; omega
  have hrv'B : rv'.ownBlock ≠ some B := by
    rcases c4 with ⟨c1, -⟩ | ⟨c1, c2, -⟩
    · rw [c1]; exact hrB
    · rw [c1]; simp; omega
  have hs4 : w4.heap.size = (w4.setCell ⟨B, 0, none⟩ rv').heap.size := by simp
  -- a piece's block is neither B nor the row's
  have hpc : ∀ (W : World) (x : Value) (n : Nat) (ys : List Value), W.ownsRow 0 5 1 x n ys → ∀ b (cs : Array Value) (t : TypeId), W.heap[b]? = some (.cells cs t (0, 0)) → t ≠ 5 → x.ownBlock ≠ some b := by
    intro W x n ys h b cs t hb ht hxb
    obtain ⟨-, -, -, cur, h5, -⟩ := ownsRow.someOf h hxb
    rw [hb] at h5
    simp only [Option.some.injEq, Obj.cells.injEq, and_true] at h5
    exact ht h5.2
  have hpk : ∀ (x : Value) (n : Nat) (ys : List Value), wc.ownsRow 0 5 1 x n ys → (w4.setCell ⟨B, 0, none⟩ rv').ownsRow 0 5 1 x n ys := by
    intro x n ys h
    have kk : Kept (fun b => rv.ownBlock = some b ∨ b = B) wc (w4.setCell ⟨B, 0, none⟩ rv') := (Kept.mono (T := fun b => rv.ownBlock = some b ∨ b = B) k34 fun _ h => Or.inl h).setCell (p := ⟨B, 0, none⟩) (Or.inl (Or.inr rfl)) _
    refine ownsRow.keptBy h kk ?_
    rintro b hb (h1 | h1)
    · obtain ⟨-, -, -, cur, h5, -⟩ := ownsRow.someOf hr h1
      exact hpc wc x n ys h b cur _ h5 (by decide) hb
    · subst h1; exact hpc wc x n ys h _ _ _ hB (by decide) hb
  refine ⟨fun b => O b ∨ (wc.heap.size ≤ b ∧ b < w4.heap.size), ⟨Or.inl hOB, fun b hb => ?_, rv', rs ++ [(c, s)], by simp [hrs], one_setCell hB4, ?_, hrv', fun x hx' => ?_⟩, fun b hb => hb.imp_right (·.1), hkO⟩
  · rcases hb with hb | hb
    · exact Nat.lt_of_lt_of_le (hOlt b hb) hkO.size
    · rw [← hs4]; exact hb.2
  · rw [List.length_append, List.flatMap_append]
    simpa using ownsRow_setCell_other h4 (a := ⟨B, 0, none⟩) hrv'B rv'
  · rcases List.mem_append.1 hx' with h | h
    · obtain ⟨h1, h2⟩ := hx x h
      exact ⟨hpk _ _ _ h1, fun b hb => Or.inl (h2 b hb)⟩
    · rw [List.mem_singleton] at h
      subst h
      refine ⟨?_, fun b hb => Or.inr ⟨b3 b hb, Nat.lt_of_lt_of_le (h3.lt b hb).2 (Nat.le_trans (by simp) c4.grown.size)⟩⟩
      have kk : Kept (fun b => rv.ownBlock = some b ∨ b = B) w3 (w4.setCell ⟨B, 0, none⟩ rv') := (Kept.mono (T := fun b => rv.ownBlock = some b ∨ b = B) (((Kept.refl _ w3).alloc o).trans ((Kept.ofGrown c4.grown).mono fun _ h => h)) fun _ h => Or.inl h).setCell (p := ⟨B, 0, none⟩) (Or.inl (Or.inr rfl)) _
      refine ownsRow.keptBy h3 kk ?_
      rintro b hb (h1 | h1)
      · have := b3 b hb; have := hOlt b (hrO b h1); omega
      · have := b3 b hb; omega

set_option maxRecDepth 100000 in
set_option maxHeartbeats 2000000 in
theorem refPut_ok (w : World) (O : Nat → Prop) (B : Nat) (l : List Come) (v a n : Int) (pv : Value) (p : List Int) (h : RefB w O B l) (g : GoodC l) (hp : Row w pv p.length (ints .u8 p)) (hpB : pv.ownBlock ≠ some B) (h8 : Bytes8 p) (hln : l.length ≤ 1073741824)
    (hok : okArgs v a n p.length = true) :
    Calls Tryz.prog 15 #[.pointer (some ⟨B, 0, none⟩), .int .i64 v, .int .i64 a, .int .i64 n, pv] w (RefPut w O B (putC l v a n p).1 (putC l v a n p).2.1 (putC l v a n p).2.2) := by
  obtain ⟨k1, k2, k3, k4, k5, k6, k7, k8, k9⟩ := okArgs_iff hok
  obtain ⟨pb, po, pc, rfl⟩ := hp.some_of (by simp; omega)
  have H := Lib.hid h; have G := Lib.hid g; have HP := Lib.hid hp; have HPB := Lib.hid hpB; have H8 := Lib.hid h8; have HOK := Lib.hid hok
  clear h g hp hpB h8 hok
  go_enter Tryz.func15, Tryz.ntmps15
  go_upto_region 1 with (fail)
  go_cut [62] from 19 (fun s wc => s = .bool false ∧ w = wc)
  case first =>
    go_wp2_with fail
    all_goals go_meet
    all_goals (case rel => refine ⟨?_, rfl⟩; congr 1; simp only [Bool.or_eq_false_iff, decide_eq_false_iff_not]; omega)
  case rest =>
    obtain ⟨rfl, rfl⟩ := hcut
    go_wp2_with fail
    refine (refWhole_any w O B l v H.out (by omega)).mono ?_
    rintro e w1 ⟨rfl, rfl⟩
    go_wp2_with fail
    refine (refPiece_any w O B l v a H.out (by omega)).mono ?_
    rintro e w1 ⟨⟨s, b, rfl, ht⟩, rfl⟩
    have HT := Lib.hid ht; clear ht
    go_upto_region 5 with (fail)
    generalize hW : findW l v = W
    have HWW := Lib.hid hW; clear hW
    go_cut [88] from 19 (fun s wc => s = .bool (clash l v a n p) ∧ Quiet w wc)
    case first =>
      by_cases c1 : 0 < W
      · by_cases c2 : W = n
        · have e2 : (W != n) = false := by simp [c2]
          have C2 := Lib.hid c2; clear c2
          rcases HT.out with ⟨h1, h2, h3⟩ | ⟨q, h1, h2, h3, h4⟩
          · subst h3
            have H1 := Lib.hid h1; clear h1 h2
            go_wp2_with fail
            go_meet
            case rel => exact ⟨by unfold clash; rw [HWW.out, H1.out]; simp [C2.out], Quiet.refl w⟩
          · subst h2
            have H1 := Lib.hid h1; have H3 := Lib.hid h3; clear h1 h3 h4
            by_cases hq : q = p
            · go_wp2_with (go_at_call 16; refine (sameBytes_yes _ _ _ _ _ q p rfl rfl (World.ownsRow.row H3.out) HP.out hq).mono ?_; rintro e w1 ⟨rfl, hqq⟩)
              go_meet
              case rel => exact ⟨by unfold clash; rw [HWW.out, H1.out]; simp [C2.out, hq], by assumption⟩
            · go_wp2_with (go_at_call 16; refine (sameBytes_no _ _ _ _ _ q p rfl rfl (World.ownsRow.row H3.out) HP.out hq).mono ?_; rintro e w1 ⟨rfl, hqq⟩)
              go_meet
              case rel => exact ⟨by unfold clash; rw [HWW.out, H1.out]; simp [hq], by assumption⟩
        · have e2 : (W != n) = true := by simp [c2]
          have C2 := Lib.hid c2; clear c2
          go_wp2_with fail
          go_meet
          case rel => exact ⟨by unfold clash; rw [HWW.out]; simp [c1, C2.out], Quiet.refl w⟩
      · rcases HT.out with ⟨h1, h2, h3⟩ | ⟨q, h1, h2, h3, h4⟩
        · subst h3
          have H1 := Lib.hid h1; clear h1 h2
          go_wp2_with fail
          go_meet
          case rel => exact ⟨by unfold clash; rw [HWW.out, H1.out, decide_eq_false (show ¬ 0 < W by omega)]; simp, Quiet.refl w⟩
        · subst h2
          have H1 := Lib.hid h1; have H3 := Lib.hid h3; clear h1 h3 h4
          by_cases hq : q = p
          · go_wp2_with (go_at_call 16; refine (sameBytes_yes _ _ _ _ _ q p rfl rfl (World.ownsRow.row H3.out) HP.out hq).mono ?_; rintro e w1 ⟨rfl, hqq⟩)
            go_meet
            case rel => exact ⟨by unfold clash; rw [HWW.out, H1.out, decide_eq_false (show ¬ 0 < W by omega)]; simp [hq], by assumption⟩
          · go_wp2_with (go_at_call 16; refine (sameBytes_no _ _ _ _ _ q p rfl rfl (World.ownsRow.row H3.out) HP.out hq).mono ?_; rintro e w1 ⟨rfl, hqq⟩)
            go_meet
            case rel => exact ⟨by unfold clash; rw [HWW.out, H1.out]; simp [hq], by assumption⟩
    case rest =>
      obtain ⟨rfl, hq⟩ := hcut
      have HQ := Lib.hid hq; clear hq
      cases hcl : clash l v a n p with
      | true =>
        have HCL := Lib.hid hcl; clear hcl
        go_wp2_with fail
        go_ret2
        have hput : putC l v a n p = (l, [], 7) := by unfold putC; rw [if_neg (by rw [HOK.out]; simp), if_pos HCL.out]
        rw [hput]
        exact ⟨_, rfl, World.ownsRow_nil _ _ _ _, by simp [Value.ownBlock], O, H.out.kept (HQ.out.kept (fun _ => False)) (fun _ h => h.elim), fun b hb => Or.inl hb, HQ.out.kept _⟩
      | false =>
        have HCL := Lib.hid hcl; clear hcl
        go_upto_if 90 with (fail)
        have hWn : W = 0 ∨ W = n := by
          have h := HCL.out
          unfold clash at h
          rw [HWW.out, Bool.or_eq_false_iff, Bool.and_eq_false_iff, decide_eq_false_iff_not, decide_eq_false_iff_not] at h
          rcases h.1 with h1 | h1
          · left
            rcases Classical.em (findV l v = none) with h2 | h2
            · rw [← HWW.out]; exact (findW_zero G.out).2 h2
            · obtain ⟨c, hc⟩ := Option.ne_none_iff_exists'.1 h2
              have := findW_pos G.out hc
              rw [HWW.out] at this; omega
          · right; exact Classical.not_not.1 h1
        have hqp : ∀ q, findP l v a = some q → q = p := by
          intro q hq
          have h := HCL.out
          unfold clash at h
          rw [hq, Bool.or_eq_false_iff] at h
          simpa using h.2
        have HWN := Lib.hid hWn; have HQP := Lib.hid hqp; clear hWn hqp
        go_cut [] from 19 (fun wd => ∃ O', RefB wd O' B (addC l v a n p) ∧ (∀ b, O' b → O b ∨ w.heap.size ≤ b) ∧ Kept O w wd)
        case first =>
          rcases HT.out with ⟨h1, h2, h3⟩ | ⟨q, h1, h2, h3, h4⟩
          · subst h3
            have H1 := Lib.hid h1; clear h1 h2
            obtain ⟨hOB, hOlt, rv, rs, hrs, hB, hr, hrO, hx⟩ := H.out.kept (HQ.out.kept (fun _ => False)) (fun _ h => h.elim)
            have hB0 := cell_of_one hB
            have hBf := free_of_one hB
            have hBlt := lt_of_block hB
            have HRs := Lib.hid hrs; have HBb := Lib.hid hB; have HR := Lib.hid hr; have HRO := Lib.hid hrO; have HX := Lib.hid hx; have HOlt := Lib.hid hOlt; clear hrs hB hr hrO hx hOlt
            have HPr := Lib.hid (HQ.out.row HP.out)
            have hrB : rv.ownBlock ≠ some B := by
              intro hb
              obtain ⟨-, -, -, cur, h4, -⟩ := ownsRow.someOf HR.out hb
              rw [HBb.out] at h4; simp at h4
            have HRB := Lib.hid hrB; clear hrB
            go_wp2_with fail
            go_region_law (first
              | (refine step_append_row rfl _ _ 28 rfl 5 Tryz.infoU8 Tryz.underlying28 rfl (by decide) _ 0 [] rfl (World.ownsRow_made _ #[] 0 (Nat.zero_le _) (Nat.zero_le _) rfl) (.slice (some ⟨pb, po, none⟩) p.length pc) p.length (ints .u8 p) rfl (Row.below HPr.out (((Below.refl _ _).alloc (Nat.le_refl _) _).drew)) (by simp) (ints_one _ _) (by unfold maxLen; omega) (by omega) ?_
                 intro sv w3 hs3 hc3 _
                 rw [Nat.zero_add, List.nil_append] at hs3
                 obtain ⟨hk3, hb3⟩ := AppCase.fresh (w := wc) (((Below.refl _ _).alloc (Nat.le_refl _) _).drew) hc3 (fun b hb => by cases hb; exact Nat.le_refl _)
                 obtain ⟨sa, sc, rfl⟩ := ownsRow.form_ hs3
                 have HS3 := Lib.hid hs3; have HK3 := Lib.hid hk3; have HB3 := Lib.hid hb3; clear hs3 hc3 hk3 hb3
                 have hB3 := (HK3.out.cell (p := ⟨B, 0, none⟩) hBlt).trans hB0
                 have hBlt3 : B < w3.heap.size := by have := HK3.out.size; omega)
              | (refine step_append_row rfl _ _ 56 rfl 71 Tryz.infoCome Tryz.underlying56 rfl (by decide) _ l.length _ rfl (ownsRow.keptBy HR.out (Kept.ofFresh (HK3.out.alloc HK3.out.size _) (fun _ => False)) (fun _ _ h => h)) _ 1 (cellsC (⟨v, a, n, p⟩, .slice sa p.length sc)) rfl (Row.lit _ #[.int .i64 v, .int .i64 a, .int .i64 n, .slice sa p.length sc] 71 1 (by unfold maxLen; omega)) rfl (by simp [cellsC, Value.oneCell']) (by unfold maxLen; omega) (by omega) ?_
                 intro rv' w4 hs4 hc4 _
                 obtain ⟨ra, rc, rfl⟩ := ownsRow.form_ hs4
                 have HS4 := Lib.hid hs4; have HC4 := Lib.hid hc4; clear hs4 hc4
                 have hB4 : w4.heap[B]? = some (.cells #[rv] 58 (0, 0)) := by
                   rw [HC4.out.grown.block B (by have := HK3.out.size; simp; omega) (fun h => HRB.out h.symm), Below.heap_alloc _ _ _ (by have := HK3.out.size; omega), HK3.out.block B hBlt]; exact HBb.out
                 have hB4c := cell_of_one hB4
                 have hB4f := free_of_one hB4
                 have HB4 := Lib.hid hB4; clear hB4))
            all_goals
              go_wp2_with fail
              go_meet
              case rel =>
                obtain ⟨O', r1, r2, r3⟩ := refB_added (c := ⟨v, a, n, p⟩) hOB HOlt.out HRs.out HBb.out HRO.out HX.out HR.out HS3.out HK3.out HB3.out _ HS4.out HC4.out HRB.out
                have hs := (HQ.out.kept (fun _ => False)).size
                exact ⟨O', by unfold addC; rw [H1.out]; exact r1, fun b hb => (r2 b hb).imp_right (fun h => by omega), (HQ.out.kept O).trans r3⟩
          · subst h2
            have H1 := Lib.hid h1; clear h1 h3 h4
            go_wp2_with fail
            go_meet
            case rel => exact ⟨O, by unfold addC; rw [H1.out]; exact H.out.kept (HQ.out.kept (fun _ => False)) (fun _ h => h.elim), fun b hb => Or.inl hb, HQ.out.kept _⟩
        case rest =>
          obtain ⟨O', hB, hO', hk⟩ := hcut
          have HB := Lib.hid hB; have HO' := Lib.hid hO'; have HK := Lib.hid hk; clear hB hO' hk
          go_wp2_with fail
          have hg' := G.out.add (a := a) (p := p) (by exact HOK.out) H8.out (by rw [HWW.out]; exact HWN.out)
          have HG' := Lib.hid hg'; clear hg'
          obtain ⟨N, hN⟩ : ∃ N : Nat, n = (N : Int) := ⟨n.toNat, by omega⟩
          subst hN
          have hll : (addC l v a N p).length ≤ 1099511627776 := by
            unfold addC
            split
            · simp; omega
            · omega
          have hput : ∀ r, (match allOf (addC l v a N p) v N with | none => (addC l v a N p, [], 0) | some out => (dropC (addC l v a N p) v, out, 0)) = r → putC l v a N p = r := by
            intro r hr
            unfold putC
            rw [if_neg (by rw [HOK.out]; simp), if_neg (by rw [HCL.out]; simp), Int.toNat_natCast]; exact hr
          have HPut := Lib.hid hput; clear hput
          generalize hl' : addC l v a N p = l' at HB HG' hll HPut ⊢
          clear hl' H G HP HPB H8 HOK HWW HCL HWN HQP HT HQ
          go_loopw [15, 16] (fun ov iv wr => ∃ k : Nat, k ≤ N ∧ iv = .int .i64 k ∧ ∃ r, allOf l' v k = some r ∧ r.length ≤ k * 1024 ∧ wr.ownsRow 0 5 1 ov r.length (ints .u8 r) ∧ (∀ b, ov.ownBlock = some b → wc.heap.size ≤ b) ∧ Below wc.heap.size wc wr) (fun _ iv _ => N - (intOf iv).toNat)
          case atStart => exact ⟨0, by omega, rfl, [], rfl, by simp, World.ownsRow_nil _ _ _ _, by simp [Value.ownBlock], Below.refl _ _⟩
          case round =>
            obtain ⟨k, hk, rfl, r, hr1, hr2, hr3, hr4, hr5⟩ := hrel
            have HR1 := Lib.hid hr1; have HR3 := Lib.hid hr3; have HR4 := Lib.hid hr4; have HR5 := Lib.hid hr5; clear hr1 hr3 hr4 hr5
            have hBr := HB.out.kept (Kept.ofFresh HR5.out (fun _ => False)) (fun _ h => h.elim)
            have HBr := Lib.hid hBr; clear hBr
            by_cases hkN : k < N
            · have hkz : (k : Int) < (N : Int) := by omega
              go_wp2_with fail
              refine (refPiece_any wr O' B l' v k HBr.out hll).mono ?_
              rintro e w1 ⟨⟨s1, b1, rfl, ht⟩, rfl⟩
              rcases ht with ⟨h1, h2, h3⟩ | ⟨q, h1, h2, h3, h4⟩
              · subst h3
                have H1 := Lib.hid h1; clear h1 h2
                go_wp2_with fail
                go_ret2
                have hnone : allOf l' v N = none := allOf_none H1.out HR1.out hkN
                have hp := HPut.out _ rfl
                rw [hnone] at hp
                rw [hp]
                exact ⟨_, rfl, World.ownsRow_nil _ _ _ _, by simp [Value.ownBlock], O', HBr.out, HO'.out, HK.out.trans (Kept.ofFresh HR5.out _)⟩
              · subst h2
                have hq := findP_ok HG'.out h1
                have hql : q.length ≤ 1024 := by have := okArgs_iff hq.1; omega
                have hq0 : 1 ≤ q.length := by have := okArgs_iff hq.1; omega
                have H1 := Lib.hid h1; have H3 := Lib.hid h3; clear h1 h4 hq h3
                obtain ⟨sa, sc, hs1⟩ := ownsRow.form_ H3.out
                subst hs1
                go_wp2_with (at_builtin; refine wpList_append_row rfl _ _ 28 rfl 5 Tryz.infoU8 Tryz.underlying28 rfl (by decide) _ r.length (ints .u8 r) rfl HR3.out (.slice sa q.length sc) q.length (ints .u8 q) rfl (World.ownsRow.row H3.out) (by simp) (ints_one _ _) ?a1 ?a2 ?aK)
                case a1 => unfold maxLen; omega
                case a2 => omega
                intro v' w2 hown hc _
                obtain ⟨hb2, hf2⟩ := AppCase.fresh HR5.out hc HR4.out
                have HO2 := Lib.hid hown; have HB2 := Lib.hid hb2; have HF2 := Lib.hid hf2; clear hown hc hb2 hf2
                go_wp2_with fail
                go_roundw
                case rel => exact ⟨k + 1, by omega, by go_num, r ++ q, by simp only [allOf]; rw [HR1.out, H1.out], by simp; omega, by simpa using HO2.out, HF2.out, HB2.out⟩
                case measure => simp [intOf]; omega
            · obtain rfl : N = k := by omega
              go_wp2_with fail
              refine (refDropAll_any wr O' B l' v HBr.out hll).mono ?_
              rintro e w1 ⟨rfl, O2, q1, q2, q3⟩
              have Q1 := Lib.hid q1; have Q2 := Lib.hid q2; have Q3 := Lib.hid q3; clear q1 q2 q3
              go_wp2_with fail
              go_ret2
              have hp := HPut.out _ rfl
              rw [HR1.out] at hp
              rw [hp]
              have hBO := HB.out.own
              have hBlt := HB.out.lt B hBO
              have hsz1 := HR5.out.size
              have hsz0 := HK.out.size
              refine ⟨_, rfl, ownsRow.keptBy HR3.out Q3.out (fun b hb h => ?_), fun b hb => Nat.le_trans hsz0 (HR4.out b hb), O2, Q1.out, fun b hb => ?_, ?_⟩
              · have := HR4.out b hb; omega
              · rcases Q2.out b hb with h | h
                · exact HO'.out b h
                · right; omega
              · refine HK.out.thenOwn (T := fun b => b = B) ((Kept.ofFresh HR5.out _).trans Q3.out) (fun i hi => ?_)
                rw [hi]
                exact HO'.out B hBO

end Go.Proofs.YtmhmhpdpiikjiaaGreat
