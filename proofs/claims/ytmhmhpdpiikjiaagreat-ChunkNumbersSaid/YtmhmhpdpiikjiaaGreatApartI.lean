/- ApartInts: lists that lie apart are told to lie apart. -/
import Derived.Test.YtmhmhpdpiikjiaaGreatApart
import Derived.Test.YtmhmhpdpiikjiaaGreatFlatInts
namespace Go.Proofs.YtmhmhpdpiikjiaaGreat
open Go.RowKit

set_option maxHeartbeats 1000000 in
theorem putInts_any (w : World) (B : Nat) (cs : Array Value) (v l : Value) (n : Nat) (xs : List Value) (hB : w.heap[B]? = some (.cells cs 93 (0, 0))) (hv : cs[2]? = some v)
    (hown : w.ownsRow 0 41 1 v n xs) (hne : v.ownBlock ≠ some B) (hl : ∃ a n c, l = .slice a n c) (hn : n ≤ 1099511627776) :
    Calls Tryz.prog 37 #[.pointer (some ⟨B, 0, none⟩), l] w fun e w' => e = .returned (.tuple #[]) ∧ ∃ v', w'.heap[B]? = some (.cells (cs.setIfInBounds 2 v') 93 (0, 0)) ∧
      w'.ownsRow 0 41 1 v' (n + 1) (xs ++ [l]) ∧ (∀ b, v'.ownBlock = some b → v.ownBlock = some b ∨ w.heap.size ≤ b) ∧ Kept (fun b => b = B ∨ v.ownBlock = some b) w w' := by
  obtain ⟨la, ln, lc, rfl⟩ := hl
  have hcell : w.cell? ⟨B, 2, none⟩ = some v := by rw [cell_of_row w B 2 cs _ _ hB, hv]
  have hbsz := lt_of_block hB
  have HB := Lib.hid hB; have HO := Lib.hid hown; have HN := Lib.hid hne; clear hB hown hne hv
  go_enter Tryz.func37, Tryz.ntmps37
  go_wp2_with (at_builtin; refine wpList_append_row rfl _ _ 45 rfl 41 Tryz.infoSlI64 Tryz.underlying45 rfl (by decide) _ n xs rfl (HO.out.alloc _) _ 1 [.slice la ln lc] rfl (Row.lit _ #[.slice la ln lc] 41 1 (by unfold maxLen; omega)) rfl (by simp [Value.oneCell']) ?a1 ?a2 ?aK)
  case a1 => unfold maxLen; omega
  case a2 => omega
  intro v' w1 hown' hc _
  have hg := hc.grown
  have hB1 : w1.heap[B]? = some (.cells cs 93 (0, 0)) := by
    rw [hg.block B (by simp; omega) (fun h => HN.out h.symm), Below.heap_alloc _ _ _ hbsz]; exact HB.out
  have hc1 : w1.cell? ⟨B, 2, none⟩ = some v := by
    rw [cell_of_row w1 B 2 cs _ _ hB1, ← cell_of_row w B 2 cs _ _ HB.out]; exact hcell
  have hf1 := frozen_of_row w1 B 2 cs _ hB1
  have hvB : v'.ownBlock ≠ some B := by
    rcases hc with ⟨c1, -⟩ | ⟨c1, -⟩
    · rw [c1]; exact HN.out
    · rw [c1]; simp; omega
  have hvv : ∀ b, v'.ownBlock = some b → v.ownBlock = some b ∨ w.heap.size ≤ b := fun b hb => by
    rcases hc with ⟨c1, -⟩ | ⟨c1, -⟩
    · left; rw [← c1]; exact hb
    · right; rw [c1] at hb; simp at hb; omega
  have hform : ∃ a n c, v' = .slice a n c := by
    rcases hown'.2 with ⟨rfl, _⟩ | ⟨g, cap, cur, rfl, _⟩ <;> exact ⟨_, _, _, rfl⟩
  obtain ⟨va, vn, vc, rfl⟩ := hform
  have HO' := Lib.hid hown'; have HB1 := Lib.hid hB1; have HG := Lib.hid hg; have HVB := Lib.hid hvB; have HVV := Lib.hid hvv; clear hown' hB1 hg hvB hvv hc
  go_wp2_with fail
  go_end0
  refine ⟨rfl, _, heap_setCell_at _ HB1.out, ownsRow_setCell_other HO'.out (by exact HVB.out) _, HVV.out, Kept.setCell ?_ (Or.inl (Or.inl rfl)) _⟩
  exact ((Kept.refl _ w).alloc _).thenOwn (Kept.ofGrown HG.out) (fun i hi => Or.inl (Or.inr hi))

/-- The bag, with one list of lists in it. -/
def bag2 (v : Value) : Array Value := #[.slice none 0 0, .slice none 0 0, v, .slice none 0 0, .slice none 0 0, .slice none 0 0, .slice none 0 0, .slice none 0 0, .slice none 0 0, .slice none 0 0, .slice none 0 0, .slice none 0 0, .slice none 0 0, .slice none 0 0, .slice none 0 0, .slice none 0 0, .slice none 0 0, .slice none 0 0, .slice none 0 0, .slice none 0 0, .slice none 0 0]

/-- What holds between the flats. -/
def InvI (L : Nat → Option Nat) (n : Nat) (u : Nat → Value) (ln : Nat → Nat) (w : World) (B : Nat) (v : Value) (W : World) : Prop :=
  Kept (fun b => L b ≠ none) w W ∧ (∀ j, j < n → ∃ ys, Fam W 3 L j (u j) (ln j) ys) ∧ W.heap[B]? = some (.cells (bag2 v) 93 (0, 0)) ∧ W.ownsRow 0 41 1 v n ((List.range n).map u)
theorem InvI.below {L : Nat → Option Nat} {n : Nat} {u : Nat → Value} {ln : Nat → Nat} {w : World} {B : Nat} {v : Value} (W W' : World) (h : InvI L n u ln w B v W) (hb : Below W.heap.size W W') : InvI L n u ln w B v W' := by
  obtain ⟨h1, h2, h3, h4⟩ := h
  have k : Kept (fun _ => False) W W' := Kept.ofFresh hb _
  exact ⟨h1.thenOwn k (fun _ h => h.elim), fun j hj => by obtain ⟨ys, h⟩ := h2 j hj; exact ⟨ys, h.kept k (fun _ h => h.elim)⟩, k.heap h3 (fun h => h), ownsRow.keptBy h4 k (fun _ _ h => h)⟩

theorem apartI_bag (w : World) (n : Nat) (u : Nat → Value) (ln : Nat → Nat) (L : Nat → Option Nat) (hn : n ≤ 1099511627776) (hln : ∀ j, j < n → ln j ≤ 1099511627776) (hlt : ∀ b, L b ≠ none → b < w.heap.size)
    (W : World) (B : Nat) (v : Value) (hB : w.heap.size ≤ B) (hv : ∀ b, v.ownBlock = some b → w.heap.size ≤ b) (h : InvI L n u ln w B v W) :
    Calls Tryz.prog 38 #[.pointer (some ⟨B, 0, none⟩)] W fun e w' => e = .returned (.bool true) ∧ InvI L n u ln w B v w' := by
  have hyes : FlatYes (InvI L n u ln w B v) 48 v := by
    intro W hW
    obtain ⟨h1, h2, h3, h4⟩ := hW
    have hLv : ∀ b, v.ownBlock = some b → L b = none := fun b hb => by
      cases hL : L b with
      | none => rfl
      | some j => have := hlt b (by rw [hL]; simp); have := hv b hb; omega
    have hLB : L B = none := by
      cases hL : L B with
      | none => rfl
      | some j => have := hlt B (by rw [hL]; simp); omega
    refine (flatInts_any W v n u ln L (World.ownsRow.row h4) hLv h2 hn hln (fun b hb => Nat.lt_of_lt_of_le (hlt b hb) h1.size)).mono fun e w' ⟨he, hk, hf⟩ => ⟨he, h1.trans hk, hf, hk.heap h3 (by simp [hLB]), ownsRow.keptBy h4 hk (fun b hb => by simp [hLv b hb])⟩
  exact apart_any (InvI L n u ln w B v) W h B 93 _ _ _ _ _ _ _ _ _ _ _ _ _ _ _ _ _ _ _ _ _ (fun W hW => hW.2.2.1)
    (.ofNil flatLimbs_nil InvI.below) (.ofNil flatWords_nil InvI.below) hyes (.ofNil flatLongs_nil InvI.below) (.ofNil flatTexts_nil InvI.below) (.ofNil flatBytes_nil InvI.below) (.ofNil flatTruths_nil InvI.below) (.ofNil flatIns_nil InvI.below) (.ofNil flatSpans_nil InvI.below) (.ofNil flatKnowns_nil InvI.below) (.ofNil flatPlaces_nil InvI.below) (.ofNil flatFaults_nil InvI.below) (.ofNil flatOutcomes_nil InvI.below) (.ofNil flatFlats_nil InvI.below) (.ofNil flatBundles_nil InvI.below) (.ofNil flatEntries_nil InvI.below) (.ofNil flatHeldRow_nil InvI.below) (.ofNil flatRegistries_nil InvI.below) (.ofNil flatLetters_nil InvI.below) (.ofNil flatSteps_nil InvI.below) (.ofNil flatTales_nil InvI.below)

set_option maxHeartbeats 1000000 in
theorem apartInts_any (w : World) (ls : Value) (n : Nat) (u : Nat → Value) (ln : Nat → Nat) (L : Nat → Option Nat) (hR : Row w ls n ((List.range n).map u))
    (hF : ∀ j, j < n → ∃ ys, Fam w 3 L j (u j) (ln j) ys) (hn : n ≤ 1099511627776) (hln : ∀ j, j < n → ln j ≤ 1099511627776) (hlt : ∀ b, L b ≠ none → b < w.heap.size) :
    Calls Tryz.prog 22 #[ls] w fun e w' => e = .returned (.bool true) ∧ Kept (fun b => L b ≠ none) w w' ∧ ∀ j, j < n → ∃ ys, Fam w' 3 L j (u j) (ln j) ys := by
  obtain ⟨a, c, rfl, -, -, -, h⟩ := hR
  have HA := Lib.hid (Row.atK (L := fun _ => none) (fun _ _ => rfl) h); clear h
  have HF := Lib.hid hF; have HLN := Lib.hid hln; have HLT := Lib.hid hlt; clear hF hln hlt
  go_enter Tryz.func22, Tryz.ntmps22
  go_wp2_with fail
  go_loopw [4] (fun kv wr => ∃ k : Nat, k ≤ n ∧ kv = .int .i64 k ∧ ∃ v, wr.heap[w.heap.size]? = some (.cells (bag2 v) 93 (0, 0)) ∧ wr.ownsRow 0 41 1 v k ((List.range k).map u) ∧ (∀ b, v.ownBlock = some b → w.heap.size < b) ∧ Below w.heap.size w wr) (fun kv _ => n - (intOf kv).toNat)
  case atStart => exact ⟨0, by omega, rfl, .slice none 0 0, heap_alloc_new _ _, World.ownsRow_nil _ _ _ _, by simp [Value.ownBlock], (Below.refl _ w).alloc (Nat.le_refl _) _⟩
  case round =>
    obtain ⟨k, hk, rfl, v, h1, h2, h3, h4⟩ := hrel
    have H1 := Lib.hid h1; have H2 := Lib.hid h2; have H3 := Lib.hid h3; have H4 := Lib.hid h4; clear h1 h2 h3 h4
    by_cases hkn : k < n
    · obtain ⟨bR, oR, rfl, hcell⟩ := HA.out wr (Kept.ofFresh H4.out _) k hkn
      obtain ⟨ys, hf⟩ := HF.out k hkn
      have hform := hf.form
      have HFo := Lib.hid hform; clear hform hf
      go_wp2_with fail
      refine (putInts_any wr w.heap.size (bag2 v) v (u k) k _ H1.out rfl H2.out (fun h => by have := H3.out _ h; omega) (by obtain ⟨a, c, h⟩ := HFo.out; exact ⟨a, _, c, h⟩) (by omega)).mono ?_
      rintro e w1 ⟨rfl, v', q1, q2, q3, q4⟩
      have Q1 := Lib.hid q1; have Q2 := Lib.hid q2; have Q3 := Lib.hid q3; have Q4 := Lib.hid q4; clear q1 q2 q3 q4
      go_wp2_with fail
      go_roundw
      case rel =>
        have hs := H4.out.size
        have hbs := lt_of_block H1.out
        refine ⟨k + 1, by omega, by go_num, v', Q1.out, by rw [List.range_succ, List.map_append]; exact Q2.out, fun b hb => ?_, H4.out.trans (Q4.out.below _ H4.out.size (fun i hi => ?_))⟩
        · rcases Q3.out b hb with h | h
          · exact H3.out b h
          · omega
        · rintro (h | h)
          · omega
          · have := H3.out i h; omega
      case measure => simp [intOf]; omega
    · obtain rfl : n = k := by omega
      go_wp2_with fail
      refine (apartI_bag w n u ln L hn HLN.out HLT.out wr w.heap.size v (Nat.le_refl _) (fun b hb => Nat.le_of_lt (H3.out b hb)) ⟨Kept.ofFresh H4.out _, fun j hj => ?_, H1.out, H2.out⟩).mono ?_
      · obtain ⟨ys, h⟩ := HF.out j hj
        exact ⟨ys, h.kept (Kept.ofFresh H4.out (fun _ => False)) (fun _ h => h.elim)⟩
      rintro e w1 ⟨rfl, q1, q2, -, -⟩
      have Q1 := Lib.hid q1; have Q2 := Lib.hid q2; clear q1 q2
      go_wp2_with fail
      go_ret
      exact ⟨rfl, Q1.out, Q2.out⟩

end Go.Proofs.YtmhmhpdpiikjiaaGreat
