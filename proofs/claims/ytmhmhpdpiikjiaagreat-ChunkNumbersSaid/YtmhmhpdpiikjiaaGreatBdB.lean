/- The program's boards: Drop. -/
import Derived.Test.YtmhmhpdpiikjiaaGreatBdA
namespace Go.Proofs.YtmhmhpdpiikjiaaGreat
open Go.RowKit

/-- A version as a map's key. -/
def Int64 (v : Int) : Prop := -9223372036854775808 ≤ v ∧ v ≤ 9223372036854775807
theorem Int64.wf {v : Int} (h : Int64 v) : (Lit.int .i64 v).wf = true := by
  obtain ⟨h1, h2⟩ := h
  simp only [Lit.wf, Bool.and_eq_true, decide_eq_true_eq]
  exact ⟨h1, h2⟩
theorem keyV {v : Int} (h : Int64 v) : keyOf Tryz.prog 3 (.int .i64 v) = some (.int .i64 v) := Maps.keyOf_int_mk Tryz.underlying3 h.wf
/-- The look-up of a version. -/
theorem lookA {w : World} {O : Nat → Prop} {M n : Nat} {D : DataW Unit} {f : Int → Nat} {l : List Come} (h : w.ownsMap Tryz.prog 3 ptrR M n D) (hm : MapOf w O D f l) {v : Int} (hv : Int64 v) :
    (Instr.lookup 51 (.map (some M)) (.int .i64 v) false).run Tryz.prog w = .ok (match findV l v with | none => .pointer none | some _ => .pointer (some ⟨f v, 0, none⟩)) w := by
  obtain ⟨x, ps, h1, h2⟩ := h.lookup (Maps.int_keyed Tryz.underlying3) Tryz.underlying51 (Tryz.zeroValue59 w) ptrR_nil (keyV hv)
  rw [h1]
  cases hf : findV l v with
  | none =>
    rw [hm.none hf] at h2
    rw [ptrR_inv_nil h2]
  | some c =>
    rw [(hm.up v (by rw [hf]; simp)).1] at h2
    rw [ptrR_inv_some h2]

set_option maxHeartbeats 400000 in
theorem progDrop_any (w : World) (O : Nat → Prop) (A n : Nat) (l : List Come) (v : Int) (h : BoardA w O A n l) (g : GoodC l) (hv : Int64 v) :
    Calls Tryz.prog 10 #[.pointer (some ⟨A, 0, none⟩), .int .i64 v] w fun e w' => e = .returned (.int .i64 (dropE l v).2) ∧ BoardA w' O A n (dropE l v).1 ∧ Kept O w w' := by
  obtain ⟨hA, hlt, M, D, f, hb, hM, hown, hm⟩ := h
  have hA0 := cell_of_one hb
  have hlook := lookA hown hm hv
  have HLT := Lib.hid hlt; have HB := Lib.hid hb; have HOWN := Lib.hid hown; have HM := Lib.hid hm; have HV := Lib.hid hv
  clear hlt hb hown hm hv
  go_enter Tryz.func10, Tryz.ntmps10
  go_wp2_with fail
  refine (known_yes w A M hA0).mono ?_
  rintro e w1 ⟨rfl, rfl⟩
  cases hf : findV l v with
  | none =>
    rw [hf] at hlook
    have hd : dropE l v = (l, 6) := by unfold dropE; rw [if_pos ((findW_zero g).2 hf)]
    have HD := Lib.hid hd; clear hd hf
    go_wp2_with fail
    go_ret
    exact ⟨by rw [HD.out]; rfl, by rw [HD.out]; exact ⟨hA, HLT.out, M, D, f, HB.out, hM, HOWN.out, HM.out⟩, Kept.refl _ _⟩
  | some c =>
    rw [hf] at hlook
    have hd : dropE l v = (dropC l v, 0) := by unfold dropE; rw [if_neg (fun h => by rw [(findW_zero g).1 h] at hf; cases hf)]
    have HD := Lib.hid hd; clear hd hf
    go_wp2_with (at_delete; refine wpList_delete_own _ rfl _ _ 51 3 rfl 59 (Maps.int_keyed Tryz.underlying3) Tryz.underlying51 _ M n D rfl HOWN.out _ _ rfl (keyV HV.out) ?_; intro w2 hown2 hturn2)
    have HOWN2 := Lib.hid hown2; have HK : Hid (Kept (fun b => M = b) w w2) := Lib.hid ((Kept.ofGrown hturn2.grown).mono (fun b hb => by cases hb; rfl)); clear hown2 hturn2
    go_wp2_with fail
    go_ret
    rw [HD.out]
    refine ⟨rfl, ⟨hA, fun b hb => Nat.lt_of_lt_of_le (HLT.out b hb) HK.out.size, M, _, f, HK.out.heap HB.out (fun e => ?_), hM, HOWN2.out, (HM.out.kept HK.out (fun b hb _ cs t z h => ?_) (fun _ h => h)).del v⟩, HK.out.mono (fun b hb => by subst hb; exact hM)⟩
    · subst e; exact ownsMap.noCells HOWN.out _ _ _ HB.out
    · subst hb; exact absurd h (ownsMap.noCells HOWN.out _ _ _)

end Go.Proofs.YtmhmhpdpiikjiaaGreat
