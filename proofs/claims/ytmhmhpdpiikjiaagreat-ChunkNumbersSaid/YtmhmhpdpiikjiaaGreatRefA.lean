/- The document's boards in memory: the functions that look, and the one that drops. -/
import Derived.Test.YtmhmhpdpiikjiaaGreatChunkA
import Derived.Test.YtmhmhpdpiikjiaaGreatFlatLaw
namespace Go.Proofs.YtmhmhpdpiikjiaaGreat
open Go.RowKit

theorem flatR_len {α : Type} {f : α → List Value} {sz : Nat} (hf : ∀ a, (f a).length = sz) (rs : List α) : (rs.flatMap f).length = rs.length * sz := by
  induction rs with
  | nil => simp
  | cons a r ih => simp only [List.flatMap_cons, List.length_append, hf, ih, List.length_cons, Nat.add_mul, Nat.one_mul]; omega
theorem flatR_get {α : Type} {f : α → List Value} {sz : Nat} (hf : ∀ a, (f a).length = sz) (rs : List α) (i j : Nat) (hi : i < rs.length) (hj : j < sz) : (rs.flatMap f)[i * sz + j]? = (f rs[i])[j]? := by
  induction rs generalizing i with
  | nil => exact absurd hi (Nat.not_lt_zero i)
  | cons a r ih =>
    rw [List.flatMap_cons]
    cases i with
    | zero => rw [Nat.zero_mul, Nat.zero_add, List.getElem?_append_left (by rw [hf]; exact hj)]; rfl
    | succ i =>
      rw [List.getElem?_append_right (by rw [hf, Nat.succ_mul]; omega), hf]
      have : (i + 1) * sz + j - sz = i * sz + j := by rw [Nat.succ_mul]; omega
      rw [this]
      exact ih i (by simpa using hi)

theorem Tryz.infoCome : (Tryz.prog.info? 71).map (fun i => (i.zero, i.size, i.bytes)) = some (some (.agg #[.int .i64 0, .int .i64 0, .int .i64 0, .slice none 0 0]), 4, 48) := by kernel_rfl

def cellsC (x : Come × Value) : List Value := [.int .i64 x.1.ver, .int .i64 x.1.pos, .int .i64 x.1.whole, x.2]
theorem cellsC_len (x : Come × Value) : (cellsC x).length = 4 := rfl

/-- The document's board at block B: what came, in a row. -/
structure RefB (w : World) (O : Nat → Prop) (B : Nat) (l : List Come) : Prop where
  own : O B
  lt : ∀ b, O b → b < w.heap.size
  at_ : ∃ (rv : Value) (rs : List (Come × Value)), rs.map Prod.fst = l ∧ w.heap[B]? = some (.cells #[rv] 58 (0, 0)) ∧
    w.ownsRow 0 71 4 rv l.length (rs.flatMap cellsC) ∧ (∀ b, rv.ownBlock = some b → O b) ∧
    ∀ x ∈ rs, w.ownsRow 0 5 1 x.2 x.1.pc.length (ints .u8 x.1.pc) ∧ ∀ b, x.2.ownBlock = some b → O b

theorem RefB.kept {w w' : World} {O : Nat → Prop} {B : Nat} {l : List Come} (h : RefB w O B l) {S : Nat → Prop} (k : Kept S w w') (hS : ∀ b, S b → ¬ O b) : RefB w' O B l := by
  obtain ⟨h1, h2, rv, rs, h3, h4, h5, h6, h7⟩ := h
  exact ⟨h1, fun b hb => Nat.lt_of_lt_of_le (h2 b hb) k.size, rv, rs, h3, k.heap h4 (fun s => hS _ s h1), ownsRow.keptBy h5 k (fun b hb s => hS b s (h6 b hb)), h6,
    fun x hx => ⟨ownsRow.keptBy (h7 x hx).1 k (fun b hb s => hS b s ((h7 x hx).2 b hb)), (h7 x hx).2⟩⟩

theorem ownsRow.shape {w : World} {e : TypeId} {size : Nat} {v : Value} {n : Nat} {xs : List Value} (h : w.ownsRow 0 e size v n xs) : ∃ a c, v = .slice a n c ∧ ∀ j, j < n * size → ∃ g, a = some ⟨g, 0, none⟩ ∧ w.cell? ⟨g, j, none⟩ = xs[j]? := by
  have h0 := h
  obtain ⟨hl, ⟨rfl, rfl⟩ | ⟨g, cap, cur, rfl, -, h3, h4, h5, h6, h7⟩⟩ := h
  · exact ⟨_, _, rfl, fun j hj => by omega⟩
  · exact ⟨_, _, rfl, fun j hj => ⟨g, rfl, h0.cellAt j hj⟩⟩

theorem fst_get {rs : List (Come × Value)} {l : List Come} (h : rs.map Prod.fst = l) (k : Nat) (h1 : k < rs.length) (h2 : k < l.length) : rs[k].1 = l[k] := by
  subst h; simp
theorem find_drop {α : Type} (p : α → Bool) (l : List α) (k : Nat) (hk : k < l.length) : (l.drop k).find? p = if p l[k] then some l[k] else (l.drop (k + 1)).find? p := by
  rw [List.drop_eq_getElem_cons hk, List.find?_cons]
  cases p l[k] <;> simp

set_option maxHeartbeats 400000 in
theorem refWhole_any (w : World) (O : Nat → Prop) (B : Nat) (l : List Come) (v : Int) (h : RefB w O B l) (hn : l.length ≤ 1099511627776) :
    Calls Tryz.prog 28 #[.pointer (some ⟨B, 0, none⟩), .int .i64 v] w fun e w' => e = .returned (.int .i64 (findW l v)) ∧ w = w' := by
  obtain ⟨-, -, rv, rs, hl, hB, hr, -, -⟩ := h
  obtain ⟨a, c, rfl, hcell⟩ := ownsRow.shape hr
  have hB0 := cell_of_one hB
  have hlen : rs.length = l.length := by rw [← hl]; simp
  have HL := Lib.hid hl; have HLen := Lib.hid hlen; have HC := Lib.hid hcell; clear hl hlen hcell hB hr
  go_enter Tryz.func28, Tryz.ntmps28
  go_wp2_with fail
  go_loop [5] (fun iv => ∃ k : Nat, k ≤ l.length ∧ iv = .int .i64 k ∧ findV l v = (l.drop k).find? (fun c => c.ver == v)) (fun iv => l.length - (intOf iv).toNat)
  case atStart => exact ⟨0, by omega, rfl, rfl⟩
  case round =>
    obtain ⟨k, hk, rfl, hf⟩ := hrel
    have HF := Lib.hid hf; clear hf
    by_cases hkn : k < l.length
    · obtain ⟨g, rfl, g0⟩ := HC.out (k * 4 + 0) (by omega)
      obtain ⟨g', hgg, g2⟩ := HC.out (k * 4 + 2) (by omega)
      have : g' = g := by simpa using hgg.symm
      subst this
      clear hgg
      have hkr : k < rs.length := by rw [HLen.out]; exact hkn
      rw [flatR_get cellsC_len rs k 0 hkr (by omega)] at g0
      rw [flatR_get cellsC_len rs k 2 hkr (by omega)] at g2
      simp only [cellsC, List.getElem?_cons_zero, List.getElem?_cons_succ, Nat.add_zero, fst_get HL.out k hkr hkn] at g0 g2
      have hfd := find_drop (fun c => c.ver == v) l k hkn
      by_cases hv : l[k].ver = v
      · have e1 : (l[k].ver == v) = true := by simp [hv]
        rw [if_pos e1] at hfd
        have hfin : findW l v = l[k].whole := by unfold findW; rw [HF.out, hfd]; rfl
        have Hfin := Lib.hid hfin; clear hfin hv hfd
        go_wp2_with fail
        go_ret
        exact ⟨by rw [Hfin.out]; rfl, rfl⟩
      · have e1 : (l[k].ver == v) = false := by simp [hv]
        rw [if_neg (by simp [e1])] at hfd
        have HFD := Lib.hid hfd; clear hv hfd
        go_wp2_with fail
        go_round
        case rel => exact ⟨k + 1, by omega, by go_num, by rw [HF.out, HFD.out]⟩
        case measure => simp [intOf]; omega
    · have hfin : findW l v = 0 := by unfold findW; rw [HF.out, List.drop_of_length_le (by omega)]; rfl
      have Hfin := Lib.hid hfin; clear hfin
      go_wp2_with fail
      go_ret
      exact ⟨by rw [Hfin.out]; rfl, rfl⟩

/-- What is told of a piece. -/
def PieceTold (w : World) (O : Nat → Prop) (l : List Come) (v a : Int) (e : Ending) : Prop :=
  ∃ s b, e = .returned (.tuple #[s, .bool b]) ∧ (findP l v a = none ∧ s = .slice none 0 0 ∧ b = false ∨ ∃ p, findP l v a = some p ∧ b = true ∧ w.ownsRow 0 5 1 s p.length (ints .u8 p) ∧ ∀ b, s.ownBlock = some b → O b)

set_option maxHeartbeats 1000000 in
theorem refPiece_any (w : World) (O : Nat → Prop) (B : Nat) (l : List Come) (v p : Int) (h : RefB w O B l) (hn : l.length ≤ 1099511627776) :
    Calls Tryz.prog 35 #[.pointer (some ⟨B, 0, none⟩), .int .i64 v, .int .i64 p] w fun e w' => PieceTold w O l v p e ∧ w = w' := by
  obtain ⟨-, -, rv, rs, hl, hB, hr, -, hx⟩ := h
  obtain ⟨a, c, rfl, hcell⟩ := ownsRow.shape hr
  have hB0 := cell_of_one hB
  have hlen : rs.length = l.length := by rw [← hl]; simp
  have HL := Lib.hid hl; have HLen := Lib.hid hlen; have HC := Lib.hid hcell; have HX := Lib.hid hx; clear hl hlen hcell hB hr hx
  go_enter Tryz.func35, Tryz.ntmps35
  go_wp2_with fail
  go_loop [8] (fun iv => ∃ k : Nat, k ≤ l.length ∧ iv = .int .i64 k ∧ findC l v p = (l.drop k).find? (fun c => c.ver == v && c.pos == p)) (fun iv => l.length - (intOf iv).toNat)
  case atStart => exact ⟨0, by omega, rfl, rfl⟩
  case round =>
    obtain ⟨k, hk, rfl, hf⟩ := hrel
    have HF := Lib.hid hf; clear hf
    by_cases hkn : k < l.length
    · obtain ⟨g, rfl, g0⟩ := HC.out (k * 4 + 0) (by omega)
      have HC' : ∀ j, j < l.length * 4 → w.cell? ⟨g, j, none⟩ = (rs.flatMap cellsC)[j]? := fun j hj => by
        obtain ⟨g', hgg, h2⟩ := HC.out j hj
        have : g' = g := by simpa using hgg.symm
        subst this; exact h2
      have g1 := HC' (k * 4 + 1) (by omega)
      have g3 := HC' (k * 4 + 3) (by omega)
      clear HC'
      have hkr : k < rs.length := by rw [HLen.out]; exact hkn
      rw [flatR_get cellsC_len rs k 0 hkr (by omega)] at g0
      rw [flatR_get cellsC_len rs k 1 hkr (by omega)] at g1
      rw [flatR_get cellsC_len rs k 3 hkr (by omega)] at g3
      have hx := HX.out rs[k] (List.getElem_mem hkr)
      rw [fst_get HL.out k hkr hkn] at hx
      simp only [cellsC, List.getElem?_cons_zero, List.getElem?_cons_succ, Nat.add_zero, fst_get HL.out k hkr hkn] at g0 g1 g3
      generalize rs[k].2 = s at g3 hx
      have HXk := Lib.hid hx; clear hx
      have hfd := find_drop (fun c => c.ver == v && c.pos == p) l k hkn
      by_cases hv : l[k].ver = v
      · have e1 : (l[k].ver == v) = true := by simp [hv]
        by_cases hp : l[k].pos = p
        · have e2 : (l[k].pos == p) = true := by simp [hp]
          rw [if_pos (by simp [e1, e2])] at hfd
          have hfin : findP l v p = some l[k].pc := by unfold findP; rw [HF.out, hfd]; rfl
          have Hfin := Lib.hid hfin; clear hfin hv hp hfd
          go_wp2_with fail
          go_ret2
          exact ⟨⟨_, _, rfl, Or.inr ⟨_, Hfin.out, rfl, HXk.out⟩⟩, rfl⟩
        · have e2 : (l[k].pos == p) = false := by simp [hp]
          rw [if_neg (by simp [e2])] at hfd
          have HFD := Lib.hid hfd; clear hv hp hfd
          go_wp2_with fail
          go_round
          case rel => exact ⟨k + 1, by omega, by go_num, by rw [HF.out, HFD.out]⟩
          case measure => simp [intOf]; omega
      · have e1 : (l[k].ver == v) = false := by simp [hv]
        rw [if_neg (by simp [e1])] at hfd
        have HFD := Lib.hid hfd; clear hv hfd
        go_wp2_with fail
        go_round
        case rel => exact ⟨k + 1, by omega, by go_num, by rw [HF.out, HFD.out]⟩
        case measure => simp [intOf]; omega
    · have hfin : findP l v p = none := by unfold findP; rw [HF.out, List.drop_of_length_le (by omega)]; rfl
      have Hfin := Lib.hid hfin; clear hfin
      go_wp2_with fail
      go_ret2
      exact ⟨⟨_, _, rfl, Or.inl ⟨Hfin.out, rfl, rfl⟩⟩, rfl⟩

set_option maxHeartbeats 1000000 in
theorem refDropAll_any (w : World) (O : Nat → Prop) (B : Nat) (l : List Come) (v : Int) (h : RefB w O B l) (hn : l.length ≤ 1099511627776) :
    Calls Tryz.prog 29 #[.pointer (some ⟨B, 0, none⟩), .int .i64 v] w fun e w' => e = .returned (.tuple #[]) ∧ ∃ O', RefB w' O' B (dropC l v) ∧ (∀ b, O' b → O b ∨ w.heap.size ≤ b) ∧ Kept (fun b => b = B) w w' := by
  have hO := h.own
  have hOlt := h.lt
  obtain ⟨-, -, rv, rs, hl, hB, hr, -, hx⟩ := h
  obtain ⟨a, c, rfl, hcell⟩ := ownsRow.shape hr
  have hB0 := cell_of_one hB
  have hBlt := lt_of_block hB
  have hlen : rs.length = l.length := by rw [← hl]; simp
  have HL := Lib.hid hl; have HLen := Lib.hid hlen; have HC := Lib.hid hcell; have HX := Lib.hid hx; have HBb := Lib.hid hB; have HBl := Lib.hid hOlt; clear hl hlen hcell hB hr hx hOlt
  go_enter Tryz.func29, Tryz.ntmps29
  go_wp2_with fail
  clear hB0
  go_loopw [4, 5] (fun lv iv wr => ∃ k : Nat, k ≤ l.length ∧ iv = .int .i64 k ∧ ∃ rs', rs' = (rs.take k).filter (fun x => x.1.ver != v) ∧ wr.ownsRow 0 71 4 lv rs'.length (rs'.flatMap cellsC) ∧ (∀ b, lv.ownBlock = some b → w.heap.size ≤ b) ∧ Below w.heap.size w wr) (fun _ iv _ => l.length - (intOf iv).toNat)
  case atStart => exact ⟨0, by omega, rfl, [], by simp, World.ownsRow_nil _ _ _ _, by simp [Value.ownBlock], Below.refl _ _⟩
  case round =>
    obtain ⟨k, hk, rfl, rs', hrs', ho, hob, hbel⟩ := hrel
    have HR := Lib.hid hrs'; have HO := Lib.hid ho; have HOB := Lib.hid hob; have HBel := Lib.hid hbel; clear hrs' ho hob hbel
    have hB0 := (HBel.out.cell (p := ⟨B, 0, none⟩) hBlt).trans (cell_of_one HBb.out)
    by_cases hkn : k < l.length
    · obtain ⟨g, rfl, g0⟩ := HC.out (k * 4 + 0) (by omega)
      have HC' : ∀ j, j < l.length * 4 → w.cell? ⟨g, j, none⟩ = (rs.flatMap cellsC)[j]? := fun j hj => by
        obtain ⟨g', hgg, h2⟩ := HC.out j hj
        have : g' = g := by simpa using hgg.symm
        subst this; exact h2
      have g1 := HC' (k * 4 + 1) (by omega)
      have g2 := HC' (k * 4 + 2) (by omega)
      have g3 := HC' (k * 4 + 3) (by omega)
      clear HC'
      have hkr : k < rs.length := by rw [HLen.out]; exact hkn
      have hglt : g < w.heap.size := by
        refine World.block_lt_of_cell? (w := w) (a := ⟨g, k * 4 + 0, none⟩) (u := .int .i64 rs[k].1.ver) ?_
        rw [g0, flatR_get cellsC_len rs k 0 hkr (by omega)]; rfl
      rw [flatR_get cellsC_len rs k 0 hkr (by omega), ← HBel.out.cell (p := ⟨g, k * 4 + 0, none⟩) hglt] at g0
      rw [flatR_get cellsC_len rs k 1 hkr (by omega), ← HBel.out.cell (p := ⟨g, k * 4 + 1, none⟩) hglt] at g1
      rw [flatR_get cellsC_len rs k 2 hkr (by omega), ← HBel.out.cell (p := ⟨g, k * 4 + 2, none⟩) hglt] at g2
      rw [flatR_get cellsC_len rs k 3 hkr (by omega), ← HBel.out.cell (p := ⟨g, k * 4 + 3, none⟩) hglt] at g3
      simp only [cellsC, List.getElem?_cons_zero, List.getElem?_cons_succ, Nat.add_zero] at g0 g1 g2 g3
      have hfx : (rs.take (k + 1)).filter (fun x => x.1.ver != v) = rs' ++ if rs[k].1.ver != v then [rs[k]] else [] := by
        rw [List.take_succ_eq_append_getElem hkr, List.filter_append, ← HR.out]
        congr 1
        by_cases hv : rs[k].1.ver != v <;> simp [hv]
      have HFX := Lib.hid hfx; clear hfx
      have hlen' : rs'.length ≤ k := by rw [HR.out]; exact Nat.le_trans (List.length_filter_le _ _) (List.length_take_le _ _)
      by_cases hv : rs[k].1.ver = v
      · have e1 : (rs[k].1.ver != v) = false := by simp [hv]
        have e1' := Lib.hid e1
        clear hv
        go_wp2_with fail
        go_roundw
        case rel => exact ⟨k + 1, by omega, by go_num, rs', by rw [HFX.out, e1'.out]; simp, HO.out, HOB.out, HBel.out⟩
        case measure => simp [intOf]; omega
      · have e1 : (rs[k].1.ver != v) = true := by simp [hv]
        have e1' := Lib.hid e1
        clear hv
        go_wp2_with (at_builtin; refine wpList_append_row rfl _ _ 56 rfl 71 Tryz.infoCome Tryz.underlying56 rfl (by decide) _ rs'.length (rs'.flatMap cellsC) rfl (HO.out.alloc _) _ 1 (cellsC rs[k]) rfl (Row.lit _ #[.int .i64 rs[k].1.ver, .int .i64 rs[k].1.pos, .int .i64 rs[k].1.whole, rs[k].2] 71 1 (by unfold maxLen; omega)) rfl ?a0 ?a1 ?a2 ?aK)
        case a0 =>
          have hsx := (HX.out rs[k] (List.getElem_mem hkr)).1
          obtain ⟨sa, sc, hs, -⟩ := ownsRow.shape hsx
          intro y hy
          simp only [cellsC, hs, List.mem_cons, List.not_mem_nil, or_false] at hy
          rcases hy with rfl | rfl | rfl | rfl <;> rfl
        case a1 => unfold maxLen; omega
        case a2 => omega
        intro v' w1 hown hc _
        have HO' := Lib.hid hown
        have hob' : ∀ b, v'.ownBlock = some b → w.heap.size ≤ b := fun b hb => by
          have hs := HBel.out.size
          rcases hc with ⟨c1, -⟩ | ⟨c1, -⟩
          · rw [c1] at hb; exact HOB.out b hb
          · rw [c1] at hb; simp at hb; omega
        have hbel' : Below w.heap.size w w1 := (HBel.out.alloc HBel.out.size (.cells #[.int .i64 rs[k].1.ver, .int .i64 rs[k].1.pos, .int .i64 rs[k].1.whole, rs[k].2] 71)).grown hc.grown (by have := HBel.out.size; simp; omega) (fun b hb => HOB.out b hb)
        have HOB' := Lib.hid hob'; have HBel' := Lib.hid hbel'; clear hown hob' hbel' hc
        go_wp2_with fail
        go_roundw
        case rel => exact ⟨k + 1, by omega, by go_num, rs' ++ [rs[k]], by rw [HFX.out, e1'.out]; simp, by simpa using HO'.out, HOB'.out, HBel'.out⟩
        case measure => simp [intOf]; omega
    · have hf0 : wr.frozen? ⟨B, 0, none⟩ = false := (HBel.out.frozen (p := ⟨B, 0, none⟩) hBlt).trans (free_of_one HBb.out)
      obtain ⟨la, lc, hlv, -⟩ := ownsRow.shape HO.out
      subst hlv
      go_wp2_with fail
      go_end0
      have hBr : wr.heap[B]? = some (.cells #[.slice a l.length c] 58 (0, 0)) := (HBel.out.block B hBlt).trans HBb.out
      have hkB : Kept (fun b => b = B) w (wr.setCell ⟨B, 0, none⟩ (.slice la rs'.length lc)) := (Kept.ofFresh HBel.out (fun b => b = B)).setCell (p := ⟨B, 0, none⟩) (Or.inl rfl) _
      have hrs : rs' = rs.filter (fun x => x.1.ver != v) := by rw [HR.out, List.take_of_length_le (by rw [HLen.out]; omega)]
      have hdl : rs'.map Prod.fst = dropC l v := by
        rw [hrs, ← HL.out]; unfold dropC; rw [List.filter_map]; rfl
      refine ⟨rfl, fun b => O b ∨ (w.heap.size ≤ b ∧ b < wr.heap.size), ⟨Or.inl hO, fun b hb => ?_, .slice la rs'.length lc, rs', hdl, one_setCell hBr, ?_, fun b hb => Or.inr ⟨HOB.out b hb, (HO.out.lt b hb).2⟩, fun x hx => ?_⟩, fun b hb => hb.imp_right (·.1), hkB⟩
      · simp only [World.size_setCell]
        rcases hb with hb | hb
        · exact Nat.lt_of_lt_of_le (HBl.out b hb) HBel.out.size
        · exact hb.2
      · rw [← hdl, List.length_map]
        refine ownsRow_setCell_other HO.out ?_ _
        intro hb
        have := HOB.out B hb
        omega
      · rw [hrs] at hx
        obtain ⟨h1, h2⟩ := HX.out x (List.mem_filter.1 hx).1
        refine ⟨ownsRow.keptBy h1 hkB (fun b hb hbB => ?_), fun b hb => Or.inl (h2 b hb)⟩
        subst hbB
        have h3 := ownsRow.someOf h1 hb
        obtain ⟨-, -, -, cur, h4, -⟩ := h3
        rw [HBb.out] at h4
        simp at h4

end Go.Proofs.YtmhmhpdpiikjiaaGreat
