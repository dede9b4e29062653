/- The document's pieces: Cut; lists that were told lie apart. -/
import Derived.Test.YtmhmhpdpiikjiaaGreatRefD
import Derived.Test.YtmhmhpdpiikjiaaGreatCutLaw
import Derived.Test.YtmhmhpdpiikjiaaGreatApartB
namespace Go.Proofs.YtmhmhpdpiikjiaaGreat
open Go.RowKit

theorem apartTold (w : World) (ls : Value) (us : List Value) (ps : List (List Int)) (T : Nat → Prop) (hR : Row w ls us.length us) (hT : ToldL w T us ps) (hn : us.length ≤ 1099511627776) (hln : ∀ p ∈ ps, p.length ≤ 1099511627776) :
    Calls Tryz.prog 23 #[ls] w fun e w' => e = .returned (.bool true) ∧ Kept T w w' := by
  obtain ⟨h1, -, L, h2, h3⟩ := id hT
  have hu : (List.range us.length).map (fun j => us.getD j undef) = us := by
    apply List.ext_getElem (by simp)
    intro i h4 h5
    simp [h5]
  refine (apartBytes_any w ls us.length (fun j => us.getD j undef) (fun j => (ps.getD j []).length) L (by rw [hu]; exact hR) (fun j hj => ?_) hn (fun j hj => ?_) (fun b hb => hT.lt b (h2 b hb))).mono fun e w' ⟨he, hk, _⟩ => ⟨he, hk.mono h2⟩
  · have hj' : j < ps.length := by omega
    refine ⟨ints .u8 ps[j], ?_⟩
    have := h3 j hj hj'
    simpa [hj, hj'] using this
  · have hj' : j < ps.length := by omega
    have := hln ps[j] (List.getElem_mem hj')
    simpa [hj'] using this

theorem take_cut {p : List Int} {k K L : Nat} (hK : K = k * 1024) (hL : L = min 1024 (p.length - K)) : ((ints .u8 p).drop K).take L = ints .u8 (cutAt p k) := by
  subst hK
  unfold cutAt ints
  rw [List.map_take, List.map_drop, List.take_eq_take_iff]
  simp only [List.length_drop, List.length_map]
  omega

set_option maxHeartbeats 1000000 in
set_option maxRecDepth 100000 in
theorem refCut_any (w : World) (v : Value) (n : Nat) (p : List Int) (hp : p.length = n) (hr : Row w v n (ints .u8 p)) (hn : n ≤ 1099511627776) :
    Calls Tryz.prog 26 #[v] w fun e w' => ∃ x, e = .returned x ∧ CutTold w' w.heap.size x (cuts p (cutN n)) ∧ Below w.heap.size w w' := by
  have HR := Lib.hid hr
  obtain ⟨a, c, rfl, hnc, hcm, -, -⟩ := hr
  have HP := Lib.hid hp; clear hp
  go_enter Tryz.func26, Tryz.ntmps26
  go_wp2_with fail
  go_loopw [3, 4] (fun ov iv wr => ∃ k K : Nat, k ≤ cutN n ∧ Hid (K = k * 1024) ∧ iv = .int .i64 K ∧ CutTold wr w.heap.size ov (cuts p k) ∧ Below w.heap.size w wr) (fun _ iv _ => n + 1024 - (intOf iv).toNat)
  case atStart => exact ⟨0, 0, by omega, Lib.hid rfl, rfl, CutTold.nil _ _, Below.refl _ _⟩
  case round =>
    obtain ⟨k, K, hk, HK, rfl, ⟨us, T, h1, h2, h3, h4, h5⟩, h6⟩ := hrel
    rw [cuts_len] at h1
    have H1 := Lib.hid h1; have H2 := Lib.hid h2; have H3 := Lib.hid h3; have H4 := Lib.hid h4; have H5 := Lib.hid h5; have H6 := Lib.hid h6; clear h1 h2 h3 h4 h5 h6
    have HKK : K + 1024 ≤ n + 1024 + 1024 := by have := HK.out; unfold cutN at hk; omega
    by_cases hkn : K < n
    · have hr1 := HR.out
      obtain ⟨b, off, c', hc'⟩ := hr1.some_of (by simp [HP.out]; omega)
      simp only [Value.slice.injEq, true_and] at hc'
      obtain ⟨rfl, rfl⟩ := hc'
      clear hr1
      have hkc : k + 1 ≤ cutN n := by have := HK.out; unfold cutN; omega
      by_cases hj : (n : Int) < (K : Int) + 1024
      · have hlen : (cutAt p k).length = n - K := by rw [cutAt_len, HP.out, ← HK.out]; omega
        have HLen := Lib.hid hlen; clear hlen
        go_wp2_with (first
          | (at_builtin; refine wpList_append_row rfl _ _ 28 rfl 5 Tryz.infoU8 Tryz.underlying28 rfl (by decide) _ 0 [] rfl (World.ownsRow_made _ #[] 0 (Nat.zero_le _) (Nat.zero_le _) rfl) _ (n - K) (ints .u8 (cutAt p k)) rfl ?a0 ?a1 (ints_one _ _) ?a2 ?a3 ?aK))
        case a0 =>
          refine Row.below (w := w) ?_ (H6.out.alloc H6.out.size _)
          have hq := HR.out.part (i := K) (j := n) (by rw [List.length_map, HP.out]) (c - K) (by omega) (by omega) (by omega) (by omega)
          rw [take_cut HK.out (by rw [HP.out]; omega)] at hq
          exact hq
        case a1 => simp only [List.length_map, HLen.out]; omega
        case a2 => unfold maxLen; omega
        case a3 => omega
        intro v' w1 hown hc _
        rw [← HLen.out] at hown
        obtain ⟨hk1, hb1⟩ := AppCase.fresh (w := wr) ((Below.refl _ _).alloc (Nat.le_refl _) _) hc (fun b hb => by cases hb; exact Nat.le_refl _)
        obtain ⟨sa, sc, rfl⟩ := ownsRow.form_ hown
        have HS := Lib.hid hown; have HK1 := Lib.hid hk1; have HB1 := Lib.hid hb1; clear hown hc hk1 hb1
        go_wp2_with (first
          | (at_builtin; refine wpList_append_row rfl _ _ 27 rfl 28 Tryz.infoSlU8 Tryz.underlying27 rfl (by decide) _ k us rfl (ownsRow.keptBy H1.out (Kept.ofFresh (HK1.out.alloc HK1.out.size _) (fun _ => False)) (fun _ _ h => h)) _ 1 [.slice sa (cutAt p k).length sc] rfl (Row.lit _ #[.slice sa (cutAt p k).length sc] 28 1 (by unfold maxLen; omega)) rfl (by simp [Value.oneCell']) ?b1 ?b2 ?bK))
        case b1 => unfold maxLen; unfold cutN at hk; omega
        case b2 => unfold cutN at hk; omega
        intro x' w2 hown2 hc2 _
        obtain ⟨hct, hbl⟩ := CutTold.step (by rw [cuts_len]; exact H1.out) H2.out H3.out H4.out H5.out H6.out.size HK1.out HS.out HB1.out _ (by rw [cuts_len]; exact hown2) hc2
        rw [← cuts_succ] at hct
        have HCT := Lib.hid hct; have HBL := Lib.hid (H6.out.trans (hbl.below w.heap.size H6.out.size (fun i hi hxi => by have := H2.out i hxi; omega))); clear hct hbl hown2 hc2
        go_wp2_with fail
        go_roundw
        case rel => exact ⟨k + 1, K + 1024, hkc, Lib.hid (by rw [HK.out]; omega), by go_num, HCT.out, HBL.out⟩
        case measure => simp [intOf]; omega
      · have hlen : (cutAt p k).length = 1024 := by rw [cutAt_len, HP.out, ← HK.out]; omega
        have HLen := Lib.hid hlen; clear hlen
        go_wp2_with (first
          | (at_builtin; refine wpList_append_row rfl _ _ 28 rfl 5 Tryz.infoU8 Tryz.underlying28 rfl (by decide) _ 0 [] rfl (World.ownsRow_made _ #[] 0 (Nat.zero_le _) (Nat.zero_le _) rfl) _ (1024) (ints .u8 (cutAt p k)) rfl ?ca0 ?ca1 (ints_one _ _) ?ca2 ?ca3 ?caK))
        case ca0 =>
          refine Row.below (w := w) ?_ (H6.out.alloc H6.out.size _)
          have hq := HR.out.part (i := K) (j := (K + 1024)) (by rw [List.length_map, HP.out]) (c - K) (by omega) (by omega) (by omega) (by omega)
          rw [Nat.add_sub_cancel_left, take_cut HK.out (by rw [HP.out]; omega)] at hq
          exact hq
        case ca1 => simp [HLen.out]
        case ca2 => unfold maxLen; omega
        intro v' w1 hown hc _
        rw [← HLen.out] at hown
        obtain ⟨hk1, hb1⟩ := AppCase.fresh (w := wr) ((Below.refl _ _).alloc (Nat.le_refl _) _) hc (fun b hb => by cases hb; exact Nat.le_refl _)
        obtain ⟨sa, sc, rfl⟩ := ownsRow.form_ hown
        have HS := Lib.hid hown; have HK1 := Lib.hid hk1; have HB1 := Lib.hid hb1; clear hown hc hk1 hb1
        go_wp2_with (first
          | (at_builtin; refine wpList_append_row rfl _ _ 27 rfl 28 Tryz.infoSlU8 Tryz.underlying27 rfl (by decide) _ k us rfl (ownsRow.keptBy H1.out (Kept.ofFresh (HK1.out.alloc HK1.out.size _) (fun _ => False)) (fun _ _ h => h)) _ 1 [.slice sa (cutAt p k).length sc] rfl (Row.lit _ #[.slice sa (cutAt p k).length sc] 28 1 (by unfold maxLen; omega)) rfl (by simp [Value.oneCell']) ?cb1 ?cb2 ?cbK))
        case cb1 => unfold maxLen; unfold cutN at hk; omega
        case cb2 => unfold cutN at hk; omega
        intro x' w2 hown2 hc2 _
        obtain ⟨hct, hbl⟩ := CutTold.step (by rw [cuts_len]; exact H1.out) H2.out H3.out H4.out H5.out H6.out.size HK1.out HS.out HB1.out _ (by rw [cuts_len]; exact hown2) hc2
        rw [← cuts_succ] at hct
        have HCT := Lib.hid hct; have HBL := Lib.hid (H6.out.trans (hbl.below w.heap.size H6.out.size (fun i hi hxi => by have := H2.out i hxi; omega))); clear hct hbl hown2 hc2
        go_wp2_with fail
        go_roundw
        case rel => exact ⟨k + 1, K + 1024, hkc, Lib.hid (by rw [HK.out]; omega), by go_num, HCT.out, HBL.out⟩
        case measure => simp [intOf]; omega
    · have hkc : k = cutN n := by have := HK.out; unfold cutN at hk ⊢; omega
      have HKC := Lib.hid hkc; clear hkc
      go_wp2_with fail
      go_ret
      exact ⟨_, rfl, by rw [← HKC.out]; exact ⟨us, T, by rw [cuts_len]; exact H1.out, H2.out, H3.out, H4.out, H5.out⟩, H6.out⟩

end Go.Proofs.YtmhmhpdpiikjiaaGreat
