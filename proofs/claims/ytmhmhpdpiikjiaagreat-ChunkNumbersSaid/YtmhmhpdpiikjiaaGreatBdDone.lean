/- The program's uploads: all pieces, one behind the other; nothing, if one is missing. -/
import Derived.Test.YtmhmhpdpiikjiaaGreatBdMiss
import Derived.Test.YtmhmhpdpiikjiaaGreatBdJoin
namespace Go.Proofs.YtmhmhpdpiikjiaaGreat
open Go.RowKit Go.Shelf

attribute [local go_sem] Oper.semAt_some

/-- The first k pieces, one behind the other; none, if one is missing. -/
def allG (g : Nat → Option (List Int)) : Nat → Option (List Int)
  | 0 => some []
  | k + 1 => match allG g k, g k with | some r, some p => some (r ++ p) | _, _ => none
theorem allOf_eq (l : List Come) (v : Int) (k : Nat) : allOf l v k = allG (fun a => findP l v (a : Int)) k := by
  induction k with
  | zero => rfl
  | succ k ih => simp only [allOf, allG, ih]; rfl
theorem allG_none {g : Nat → Option (List Int)} {k n : Nat} (h : g k = none) (hk : k < n) : allG g n = none := by
  induction n with
  | zero => omega
  | succ n ih =>
    by_cases hkn : k = n
    · subst hkn
      simp only [allG]
      rw [h]
      cases allG g k <;> rfl
    · simp only [allG]
      rw [ih (by omega)]
theorem allG_some {g : Nat → Option (List Int)} {n : Nat} (h : ∀ i, i < n → g i ≠ none) : allG g n = some ((List.range n).map fun i => (g i).getD []).flatten := by
  induction n with
  | zero => rfl
  | succ n ih =>
    have h1 := h n (by omega)
    simp only [allG]
    rw [ih (fun i hi => h i (by omega))]
    cases hg : g n with
    | none => exact absurd hg h1
    | some p => simp [List.range_succ, hg]

theorem WRow.form_ {w : World} {e : TypeId} {v : Value} {n : Nat} {xs : List Value} (h : WRow w e v n xs) : ∃ a c, v = .slice a n c := by
  rcases h.2 with ⟨rfl, rfl⟩ | ⟨g, cap, cur, rfl, -⟩ <;> exact ⟨_, _, rfl⟩
/-- A way out without a panic. -/
def noPanic (Q : Exit → Act → World → Prop) : Exit → Act → World → Prop := fun e a w => match e with | .panic _ => False | e => Q e a w
theorem noPanic.of {Q : Exit → Act → World → Prop} (e : Exit) (a : Act) (w : World) (h : noPanic Q e a w) : Q e a w := by
  cases e with
  | panic c => exact h.elim
  | _ => exact h
/-- What done tells. -/
def DoneTold (w' : World) (b0 : Nat) (x : Value) : Option (List Int) → Prop
  | none => x = .slice none 0 0
  | some r => WRow w' 5 x r.length (ints .u8 r) ∧ ∀ g, x.ownBlock = some g → b0 ≤ g

theorem miss_stops (m : Nat) (hn : 1 ≤ m) (w0 : World) (B b n : Nat) (ps : List Value) (n0 : Nat) (hb0 : b < n0) (hl : ps.length = 40) (hn40 : n ≤ 40) (hps : Pieces ps)
    (hB : w0.cell? ⟨B, 0, none⟩ = some (.pointer (some ⟨b, 0, none⟩))) (hb : UpBlock w0 b ps n) :
    SeqStopsK Fence.wide m Tryz.prog 68 #[.pointer (some ⟨B, 0, none⟩)] (fun x : MissNo ps n => #[.int .i64 (x.1 : Nat)]) (Kept (fun i => n0 ≤ i)) (fun ys => ys = [] → ∀ j, j < n → ps[j]? ≠ some (.slice none 0 0)) (fun _ => True) 41 w0 := fun l J Jx W hW hJ _ hY h0 =>
  missIt_in m hn l B b n ps (fun i => n0 ≤ i) (by omega) hl hn40 hps J Jx (fun s W' k hs => hJ s W' _ none hs ⟨rfl, rfl, rfl, Nat.le_refl _, fun _ _ _ => rfl⟩ (fun r e => by cases e)) hY W
    ((hW.cell (p := ⟨B, 0, none⟩) (World.block_lt_of_cell? _ _ hB)).trans hB) ((hW.block b hb.lt).trans hb) h0

set_option maxRecDepth 100000 in
set_option maxHeartbeats 2000000 in
theorem done_any (w : World) (O : Nat → Prop) (b n : Nat) (ps : List Value) (g : Nat → Option (List Int)) (hb : UpBlock w b ps n) (hl : ps.length = 40) (hn1 : 1 ≤ n) (hn40 : n ≤ 40) (hp : ∀ a (h : a < ps.length), PieceAt w O ps[a] (g a)) (hg : ∀ a p, g a = some p → 1 ≤ p.length ∧ p.length ≤ 1024) :
    Calls Tryz.prog 34 #[.pointer (some ⟨b, 0, none⟩)] w fun e w' => ∃ x, e = .returned x ∧ DoneTold w' w.heap.size x (allG g n) ∧ Below w.heap.size w w' := by
  have hblt := hb.lt
  have hps : Pieces ps := by
    intro i hi
    have h1 := hp i hi
    rw [List.getElem?_eq_getElem hi]
    cases hgi : g i with
    | none => rw [hgi] at h1; left; rw [show ps[i] = _ from h1]
    | some p =>
      rw [hgi] at h1
      obtain ⟨b', o', c', hv⟩ := (World.ownsRow.row h1.1).some_of (by have := hg i p hgi; simp; omega)
      right; exact ⟨_, _, _, by rw [hv]⟩
  have HB := Lib.hid hb; have HP := Lib.hid hp; have HG := Lib.hid hg; have HPS := Lib.hid hps; clear hb hp hg hps
  refine (callsIn_wide (n := 5)).1 ?_
  refine callsIn_of_wp_marks Tryz.func34 rfl trivial ?_ rfl
  simp only [Tryz.ntmps34, List.size_toArray, List.length_cons, List.length_nil, Nat.reduceAdd, Nat.reduceSub, Array.replicate_succ, Array.replicate_zero, List.push_toArray, List.append_toArray, List.nil_append, List.cons_append]
  gi_wp2_with (refine ⟨trivial, ?_⟩; gi_at_call 42; refine (missing_in Fence.wide _ trivial rfl _ _).mono ?_; rintro e w' ⟨rfl, rfl⟩)
  obtain ⟨w0, hw0⟩ : ∃ w0, (w.alloc (.cells #[.slice none 0 0] 28)).alloc (.cells #[.pointer (some ⟨b, 0, none⟩)] 59) = w0 := ⟨_, rfl⟩
  have hsz : w0.heap.size = w.heap.size + 2 := by rw [← hw0]; simp
  have bO : Boxed w0 w.heap.size 28 (.slice none 0 0) := by rw [← hw0]; exact (Boxed.new w _ _).alloc _
  have bS : Boxed w0 (w.heap.size + 1) 59 (.pointer (some ⟨b, 0, none⟩)) := by
    have := Boxed.new (w.alloc (.cells #[.slice none 0 0] 28)) 59 (.pointer (some ⟨b, 0, none⟩))
    rw [hw0, World.size_alloc] at this; exact this
  have hB0 : Below w.heap.size w w0 := by rw [← hw0]; exact ((Below.refl _ w).alloc (Nat.le_refl _) _).alloc (by simp) _
  have hb0 : UpBlock w0 b ps n := (hB0.block b hblt).trans HB.out
  rw [hw0]
  refine wpIn_rangeFunc_ownG rfl (by omega) (gf := 68) (lb := #[.pointer (some ⟨w.heap.size + 1, 0, none⟩)]) rfl trivial (enters_of Tryz.func68 (by kernel_rfl) rfl)
    (miss_stops _ (by omega) w0 (w.heap.size + 1) b n ps (w.heap.size + 2) (by omega) hl hn40 HPS.out bS.cell hb0) (fun h k => Kept.trans h k) (fun W l o o' hl h _ _ => Kept.ofGrown (grownBy_putObj' W l o') |>.mono (fun i hi => by cases hi; omega)) (Below.refl _ _) (fun _ => rfl)
    (fun pre W => (pre = [] ∧ Boxed W w.heap.size 28 (.slice none 0 0)) ∧ Below w.heap.size w W)
    (fun c pre W => (c = .ret ∧ pre ≠ [] ∧ Boxed W w.heap.size 28 (.slice none 0 0)) ∧ Below w.heap.size w W)
    (OwnFrom.and ?own (ownFrom_below (Nat.le_refl _) (by omega)))
    ?own2
    ⟨⟨rfl, bO⟩, hB0⟩
    (fun x => { tmps := #[.pointer (some ⟨b, 0, none⟩), undef, .pointer (some ⟨w.heap.size, 0, none⟩), .pointer (some ⟨b, 0, none⟩), .func (.func 68) #[] #[.pointer (some ⟨w.heap.size + 1, 0, none⟩)], .int .i64 (x.1 : Nat), undef, undef, undef, undef, undef, undef, undef, undef, undef], defers := [] }) ?assign ?body ?done ?stop
  case own =>
    rintro pre W W' row ⟨h1, h2⟩ hg hr
    refine ⟨h1, h2.kept hg (fun e => ?_)⟩
    obtain ⟨-, o, ho, hc⟩ := hr _ e.symm
    rw [show W.heap[w.heap.size]? = _ from h2] at ho; cases ho; cases hc
  case own2 =>
    intro c
    refine OwnFrom.and ?_ (ownFrom_below (Nat.le_refl _) (by omega))
    rintro pre W W' row ⟨h0, h1, h2⟩ hg hr
    refine ⟨h0, h1, h2.kept hg (fun e => ?_)⟩
    obtain ⟨-, o, ho, hc⟩ := hr _ e.symm
    rw [show W.heap[w.heap.size]? = _ from h2] at ho; cases ho; cases hc
  case assign =>
    intro l x W K hK
    gi_wp2
    simpa using hK
  case body =>
    rintro l pre x W ⟨⟨rfl, hv⟩, hB⟩ hlt
    have hc := hv.cell
    have hf := hv.frozen
    gi_wp2
    exact ⟨(KeepsOthers.setCell _ _ _).from _, ⟨rfl, by simp, hv.set _⟩, hB.setCell (p := ⟨w.heap.size, 0, none⟩) (Nat.le_refl _) _⟩
  case done =>
    rintro D ys W hD hys ⟨⟨rfl, hv⟩, hB⟩ hK
    have hall := hys rfl
    have hc := hv.cell
    have hf := hv.frozen
    have hbW : UpBlock W b ps n := (hB.block b hblt).trans HB.out
    have hw40 := hbW.whole hl
    have hgs : ∀ i, i < n → ∃ p, g i = some p ∧ ps[i]? ≠ some (.slice none 0 0) := fun i hi => by
      have h1 := HP.out i (by omega)
      have h2 := hall i hi
      cases hgi : g i with
      | none => rw [hgi] at h1; rw [List.getElem?_eq_getElem (by omega), show ps[i]'(by omega) = _ from h1] at h2; exact absurd rfl h2
      | some p => exact ⟨p, rfl, h2⟩
    have HPa : Hid (Parts W.drew b 0 n (ps.take n) ((List.range n).map fun i => (g i).getD [])) := Lib.hid (by
      refine ⟨by rw [List.length_take, Nat.min_eq_left (by omega)], by simp, fun i hi => ?_, fun i hi hi' => ?_, fun _ => hbW.lt⟩
      · rw [List.length_take, Nat.min_eq_left (by omega)] at hi
        have := hbW.piece i (by omega)
        rw [Nat.zero_add]
        refine this.trans ?_
        rw [List.getElem?_eq_getElem (by omega), List.getElem_take]
      · rw [List.length_take, Nat.min_eq_left (by omega)] at hi
        obtain ⟨p, hp, -⟩ := hgs i hi
        have h1 := HP.out i (by omega)
        rw [hp] at h1
        have h2 := HG.out i p hp
        have h3 : ((List.range n).map fun i => (g i).getD [])[i]'hi' = p := by simp [hp]
        rw [h3, List.getElem_take]
        exact ⟨((World.ownsRow.row h1.1).below (by
          refine ⟨hB.os, hB.tape, hB.output, hB.size, fun k hk => hB.block k hk⟩) : Row W _ _ _), h2⟩)
    have HAll : Hid (allG g n = some ((List.range n).map fun i => (g i).getD []).flatten) := Lib.hid (allG_some (fun i hi => by obtain ⟨p, hp, -⟩ := hgs i hi; rw [hp]; simp))
    obtain ⟨r, hr, HJ⟩ : ∃ r, allG g n = some r ∧ Hid (Calls Tryz.prog 43 #[.slice (some ⟨b, 0, none⟩) n 40, .slice none 0 0] W.drew fun e w' => ∃ x, e = .returned x ∧ WRow w' 5 x r.length (ints .u8 r) ∧ (∀ g, x.ownBlock = some g → W.drew.heap.size ≤ g) ∧ Below W.drew.heap.size W.drew w') :=
      ⟨_, HAll.out, Lib.hid (join_any W.drew b 0 40 n _ _ HPa.out hn1 hn40 hn40)⟩
    have hDlt : D < W.heap.size := (Array.getElem?_eq_some_iff.1 hK).1
    have g1 : (0 : Int) ≤ (n : Int) := by omega
    have g2 : (n : Int) ≤ 40 := by omega
    have HBW := Lib.hid hB; have HV := Lib.hid hv; have HbW := Lib.hid hbW
    clear hB hv hbW hgs hall hys HPa HAll
    gi_wp2
    refine Code.wpIn_mono noPanic.of ?_
    gi_region_with (refine ⟨trivial, ?_⟩; gi_at_call 43; refine (callsIn_wide.2 HJ.out).mono ?_; rintro e w1 ⟨x, rfl, hx1, hx2, hx3⟩; obtain ⟨xa, xc, rfl⟩ := hx1.form_; have HX1 := Lib.hid hx1; have HX2 := Lib.hid hx2; have HX3 := Lib.hid hx3; have hv1 := (show Boxed W.drew w.heap.size 28 (.slice none 0 0) from HV.out); have hc1 := (HX3.out.cell (p := ⟨w.heap.size, 0, none⟩) hv1.lt).trans hv1.cell; have hf1 := (HX3.out.frozen (p := ⟨w.heap.size, 0, none⟩) hv1.lt).trans hv1.frozen; clear hx1 hx2 hx3 hv1)
    refine noPanic.of _ _ _ (noPanic.of _ _ _ ?_)
    refine (‹∀ (a : Act) (w : World), Code.wpIn Fence.wide 5 Tryz.prog _ _ a w → _› _ _ ?_)
    gi_wp2
    have hK2 := (KeepsOthers.setCell w1 ⟨w.heap.size, 0, none⟩ (.slice xa r.length xc)).same D _ ((HX3.out.block D hDlt).trans hK) rfl
    refine ⟨by simp, .inl ⟨_, _, rfl, run_takeDeferred hK2, ?_⟩⟩
    have hc5 := cell_kept (World.cell?_setCell_same' w1 ⟨w.heap.size, 0, none⟩ (.slice xa r.length xc) (by rw [hc1]; rfl)) (grownBy_putObj' _ D (.deferred none)) (fun r e => by cases e; exact ⟨_, hK2, rfl⟩)
    have hlt := HV.out.lt
    have k1 : Kept (fun b => b = w.heap.size) w1 (w1.setCell ⟨w.heap.size, 0, none⟩ (.slice xa r.length xc)) := (Kept.refl _ w1).setCell (S := fun b => b = w.heap.size) (p := ⟨w.heap.size, 0, none⟩) (Or.inl rfl) _
    have k2 := Kept.ofGrown (grownBy_putObj' (w1.setCell ⟨w.heap.size, 0, none⟩ (.slice xa r.length xc)) D (.deferred none))
    refine ⟨.slice xa r.length xc, ?_, .slice xa r.length xc, rfl, ?_, ?_⟩
    · simp [results, Tryz.f34, go_sem, hc5]
    · rw [hr]
      refine ⟨(HX1.out.keptBy k1 (fun b hb h => ?_)).keptBy k2 (fun b hb h => ?_), fun b hb => ?_⟩
      · have := HX2.out b hb; simp at this; omega
      · cases h
        have := HX2.out _ hb; simp at this; omega
      · have := HX2.out b hb; simp at this; omega
    · have hb1 : Below w.heap.size w w1 := HBW.out.trans ((below_of_drewN (n := 1)).trans ⟨HX3.out.os, HX3.out.tape, HX3.out.output, HX3.out.size, fun i hi => HX3.out.block i (by have := HBW.out.size; simp; omega)⟩)
      refine (hb1.setCell (p := ⟨w.heap.size, 0, none⟩) (Nat.le_refl _) _).trans (belowK_b (w := w) (Nat.le_refl _) _ D _ _ (by omega) hK2 rfl rfl)
  case stop =>
    rintro D c pre W hD _ ⟨⟨rfl, hpre, hv⟩, hB⟩ hK
    have hc := hv.cell
    gi_wp2
    refine ⟨by simp, .inl ⟨_, _, rfl, run_takeDeferred hK, ?_⟩⟩
    have hc5 := cell_kept hc (grownBy_putObj' _ D (.deferred none)) (fun r e => by cases e; exact ⟨_, hK, rfl⟩)
    refine ⟨.slice none 0 0, ?_, .slice none 0 0, rfl, ?_, ?_⟩
    · simp [results, Tryz.f34, go_sem, hc5]
    · cases pre with
      | nil => exact absurd rfl hpre
      | cons x r =>
        have hx := x.2
        have hgn : g x.1 = none := by
          have h1 := HP.out x.1 (by omega)
          have h2 : ps[x.1]'(by omega) = .slice none 0 0 := by
            have := hx.2
            rw [List.getElem?_eq_getElem (by omega)] at this
            exact Option.some.inj this
          rw [h2] at h1
          cases hgx : g x.1 with
          | none => rfl
          | some p =>
            rw [hgx] at h1
            have h3 := HG.out _ _ hgx
            have h4 := (WRow.ofOwns h1.1).nilOf rfl
            omega
        rw [allG_none hgn hx.1]
        rfl
    · exact hB.trans (belowK_b (w := w) (Nat.le_refl _) W D _ _ (by omega) hK rfl rfl)

end Go.Proofs.YtmhmhpdpiikjiaaGreat
