/- The program's pieces: Cut, that ranges over slices.Chunk. -/
import Derived.Test.YtmhmhpdpiikjiaaGreatBdCutA
namespace Go.Proofs.YtmhmhpdpiikjiaaGreat
open Go.RowKit Go.Shelf

attribute [local go_sem] Oper.semAt_some

/-- append as one step of a region that draws, inside a fence. -/
theorem step_append_rowIn {F : Fence} {d : Nat} {P : Program} {w : World} {ops : Array Oper} {o : Oper} {a : Act} {K : Act → World → Prop} {Q : Exit → Act → World → Prop} {E : Prop} (hgd : o.guard = none) (s x : Operand) (t : TypeId)
    (ho : o.op = .call { callee := .builtin .append, args := #[s, x], argTypes := #[t, t] })
    (e : TypeId) {z : Value} {size bytes : Nat} (hinfo : (P.info? e).map (fun i => (i.zero, i.size, i.bytes)) = some (some z, size, bytes)) (ht : P.underlying t = some (.slice e)) (hzs : z.cells.size = size) (hsz : 0 < size)
    (v : Value) (n : Nat) (xs : List Value) (hs : a.eval s = v) (hown : w.ownsRow 0 e size v n xs)
    (xv : Value) (m : Nat) (news : List Value) (hxv : a.eval x = xv) (hx : Row w xv m news) (hl : news.length = m * size) (h1 : ∀ u ∈ news, u.oneCell' = true)
    (h63 : n + m ≤ maxLen) (hbytes : (n + m) * bytes ≤ 140737488355328)
    (h : ∀ v' w', w'.ownsRow 0 e size v' (n + m) (xs ++ news) → AppCase w w' v v' → K (a.put o.dst v') w') :
    if Region.wanted o (yielded ops a.tmps) = true then Oper.wpIn F d P o a w K Q else E := by
  obtain ⟨i, hi, hz, hsize, hby⟩ := info_parts hinfo
  obtain ⟨v', w', hr, h2, h3, h4⟩ := run_append_row (P := P) w t o.type e i z size bytes ht hi hz hsize hby hzs hsz v n xs hown xv m news hl hx h1 h63 hbytes
  have hw : Region.wanted o (yielded ops a.tmps) = true := by simp [Region.wanted, hgd]
  rw [if_pos hw]
  unfold Oper.wpIn
  refine ⟨?_, ?_⟩
  · simp [Oper.about, ho, resolve, Target.leads, Sem.run_pure]
  · rw [Oper.semAt_plain F _ _ (by rw [ho]; intro c hc'; cases hc')]
    simp only [execOp, ho, resolve, invoke, builtin, Sem.run_bind, Sem.run_pure, Result.andThen_ok, List.map_toArray, List.map_cons, List.map_nil, hs, hxv, hr]
    exact h v' w' h2 h3

theorem AllReadyIn.appendRow {F : Fence} {d : Nat} {P : Program} {w : World} {ops : Array Oper} {a : Act} {Q : Exit → Act → World → Prop} {md : Region.Mode} {fuel : Nat} {listed : Array Bool} {j : Nat} {o : Oper} (ho' : ops[j]? = some o) (hgd : o.guard = none) (s x : Operand) (t : TypeId)
    (ho : o.op = .call { callee := .builtin .append, args := #[s, x], argTypes := #[t, t] })
    (e : TypeId) {z : Value} {size bytes : Nat} (hinfo : (P.info? e).map (fun i => (i.zero, i.size, i.bytes)) = some (some z, size, bytes)) (ht : P.underlying t = some (.slice e)) (hzs : z.cells.size = size) (hsz : 0 < size)
    (v : Value) (n : Nat) (xs : List Value) (hs : a.eval s = v) (hown : w.ownsRow 0 e size v n xs)
    (xv : Value) (m : Nat) (news : List Value) (hxv : a.eval x = xv) (hx : Row w xv m news) (hl : news.length = m * size) (h1 : ∀ u ∈ news, u.oneCell' = true)
    (h63 : n + m ≤ maxLen) (hbytes : (n + m) * bytes ≤ 140737488355328)
    (h : ∀ v' w', w'.ownsRow 0 e size v' (n + m) (xs ++ news) → AppCase w w' v v' → wpAnyIn F d P md ops Q fuel (listed.setIfInBounds j true) (a.put o.dst v') w') :
    AllReadyIn F d P md ops Q fuel listed a w [j] :=
  AllReadyIn.cons ho' (fun _ hK => step_append_rowIn hgd s x t ho e hinfo ht hzs hsz v n xs hs hown xv m news hxv hx hl h1 h63 hbytes (fun v' w' h2 h3 => hK _ _ (h v' w' h2 h3))) AllReadyIn.nil

set_option maxHeartbeats 400000 in
theorem chunk_in (F : Fence) (m : Nat) (h : F.fn 40) (hro : F.round = none) (a : Option Addr) (n c : Nat) (w : World) :
    CallsIn F m Tryz.prog 40 #[.slice a n c, .int .i64 1024] w fun e w' => e = .returned (.func (.func 67) #[] #[.pointer (some ⟨w.heap.size, 0, none⟩), .pointer (some ⟨w.heap.size + 1, 0, none⟩)]) ∧
      w' = (w.alloc (.cells #[.slice a n c] 28)).alloc (.cells #[.int .i64 1024] 3) := by
  refine callsIn_of_wp Tryz.func40 rfl h ?_ hro
  simp only [Tryz.ntmps40, List.size_toArray, List.length_cons, List.length_nil, Nat.reduceAdd, Nat.reduceSub, Array.replicate_succ, Array.replicate_zero, List.push_toArray, List.append_toArray, List.nil_append, List.cons_append]
  gi_wp2
  go_ret
  simp

/-- What a round keeps. -/
def keptR (w : World) : World → World → Prop := Kept (fun i => i = w.heap.size ∨ w.heap.size + 3 ≤ i)

theorem chunk_stops (F : Fence) (m : Nat) (h7 : F.fn 67) (hro : F.round = none) (hn : 1 ≤ m) (w w0 : World) (a : Option Addr) (b off n c : Nat) (hlen : n ≤ 1099511627776) (hnc : n ≤ c) (ha : 0 < n → a = some ⟨b, off, none⟩) (hsz : w0.heap.size = w.heap.size + 3)
    (hBs : w0.cell? ⟨w.heap.size + 1, 0, none⟩ = some (.slice a n c)) (hBn : w0.cell? ⟨w.heap.size + 2, 0, none⟩ = some (.int .i64 1024)) :
    SeqStopsK F m Tryz.prog 67 #[.pointer (some ⟨w.heap.size + 1, 0, none⟩), .pointer (some ⟨w.heap.size + 2, 0, none⟩)] (fun x : PieceNo n => #[pieceV b off n x.1]) (keptR w) (fun ys => ys.map Subtype.val = List.range (cutN n)) (fun _ => True) (cutN n) w0 := fun l J Jx W hW hJ _ hY h0 => by
  refine chunkIt_in F m h7 hro hn l (w.heap.size + 1) (w.heap.size + 2) b off n c (fun i => i = w.heap.size ∨ w.heap.size + 3 ≤ i) (by omega) (by omega) hlen hnc a ha J Jx (fun s W' hs => hJ s W' _ none hs ⟨rfl, rfl, rfl, Nat.le_refl _, fun _ _ _ => rfl⟩ (fun r e => by cases e)) hY W
    ((hW.cell (p := ⟨w.heap.size + 1, 0, none⟩) (by simp only; omega)).trans hBs) ((hW.cell (p := ⟨w.heap.size + 2, 0, none⟩) (by simp only; omega)).trans hBn) h0

def CutI (w W : World) (ps : List (List Int)) : Prop := (∃ v, Boxed W w.heap.size 27 v ∧ CutTold W (w.heap.size + 3) v ps) ∧ w.heap.size + 3 ≤ W.heap.size
theorem cut_end {w W w2 : World} {v x' : Value} {ps : List (List Int)} {k n0 : Nat} {us : List Value} (hsz : n0 = w.heap.size + 3) (hv : Boxed W w.heap.size 27 v) (hrow : W.ownsRow 0 28 1 v k us)
    (h2 : ∀ b, v.ownBlock = some b → w.heap.size + 3 ≤ b) (hk : Kept (fun b => v.ownBlock = some b) W w2) (hct : CutTold w2 (w.heap.size + 3) x' ps) (hB : Below w.heap.size w W) (hW : w.heap.size + 3 ≤ W.heap.size) :
    KeepsFrom n0 W (w2.setCell ⟨w.heap.size, 0, none⟩ x') ∧ keptR w W (w2.setCell ⟨w.heap.size, 0, none⟩ x') ∧ CutI w (w2.setCell ⟨w.heap.size, 0, none⟩ x') ps ∧ Below w.heap.size w (w2.setCell ⟨w.heap.size, 0, none⟩ x') := by
  subst hsz
  have k2 : Kept (fun b => b = w.heap.size ∨ v.ownBlock = some b) W (w2.setCell ⟨w.heap.size, 0, none⟩ x') := (hk.mono (fun _ h => Or.inr h)).setCell (S := fun b => b = w.heap.size ∨ v.ownBlock = some b) (p := ⟨w.heap.size, 0, none⟩) (Or.inl (Or.inl rfl)) _
  have hv2 : Boxed w2 w.heap.size 27 v := hk.heap hv (fun h => by have := h2 _ h; omega)
  have k3 : Kept (fun b => b = w.heap.size) w2 (w2.setCell ⟨w.heap.size, 0, none⟩ x') := (Kept.refl _ w2).setCell (S := fun b => b = w.heap.size) (p := ⟨w.heap.size, 0, none⟩) (Or.inl rfl) _
  refine ⟨⟨k2.size, fun k o hB hk ho => k2.heap hk ?_⟩, k2.mono ?_, ⟨⟨x', hv2.set x', hct.kept k3 (fun b hb h0 => by omega)⟩, Nat.le_trans hW k2.size⟩, hB.trans (k2.below _ hB.size ?_)⟩
  · rintro (h | h)
    · omega
    · obtain ⟨cs, t, z, h6⟩ := ownsRow.cells_ hrow h
      rw [h6] at hk; cases hk; cases ho
  · rintro i (h | h)
    · exact Or.inl h
    · exact Or.inr (h2 i h)
  · rintro i hi (h | h)
    · omega
    · have := h2 i h; omega

set_option maxRecDepth 100000 in
set_option maxHeartbeats 2000000 in
theorem cut_any (w : World) (v : Value) (n : Nat) (p : List Int) (hp : p.length = n) (hr : Row w v n (ints .u8 p)) (hn : n ≤ 1099511627776) :
    Calls Tryz.prog 24 #[v] w fun e w' => ∃ x, e = .returned x ∧ CutTold w' w.heap.size x (cuts p (cutN n)) ∧ Below w.heap.size w w' := by
  have HR := Lib.hid hr
  obtain ⟨a, c, rfl, hnc, hcm, -, hat⟩ := hr
  have ha : ∃ b off, 0 < n → a = some ⟨b, off, none⟩ := by
    by_cases h : 0 < n
    · obtain ⟨b, off, h1, -⟩ := hat 0 (by simp [hp]; exact h)
      exact ⟨b, off, fun _ => h1⟩
    · exact ⟨0, 0, fun h' => absurd h' h⟩
  obtain ⟨b, off, ha⟩ := ha
  have HP := Lib.hid hp; have HA := Lib.hid ha; clear hp hat ha
  refine (callsIn_wide (n := 5)).1 ?_
  refine callsIn_of_wp_marks Tryz.func24 rfl trivial ?_ rfl
  simp only [Tryz.ntmps24, List.size_toArray, List.length_cons, List.length_nil, Nat.reduceAdd, Nat.reduceSub, Array.replicate_succ, Array.replicate_zero, List.push_toArray, List.append_toArray, List.nil_append, List.cons_append]
  gi_wp2_with (refine ⟨trivial, ?_⟩; gi_at_call 40; refine (chunk_in Fence.wide _ trivial rfl _ _ _ _).mono ?_; rintro e w' ⟨rfl, rfl⟩)
  obtain ⟨w0, hw0⟩ : ∃ w0, ((w.alloc (.cells #[.slice none 0 0] 27)).alloc (.cells #[.slice a n c] 28)).alloc (.cells #[.int .i64 1024] 3) = w0 := ⟨_, rfl⟩
  have hsz : w0.heap.size = w.heap.size + 3 := by rw [← hw0]; simp
  have bO : Boxed w0 w.heap.size 27 (.slice none 0 0) := by rw [← hw0]; exact ((Boxed.new w _ _).alloc _).alloc _
  have bS : Boxed w0 (w.heap.size + 1) 28 (.slice a n c) := by
    have := (Boxed.new (w.alloc (.cells #[.slice none 0 0] 27)) 28 (.slice a n c)).alloc (.cells #[.int .i64 1024] 3)
    rw [hw0, World.size_alloc] at this; exact this
  have bN : Boxed w0 (w.heap.size + 2) 3 (.int .i64 1024) := by
    have := Boxed.new ((w.alloc (.cells #[.slice none 0 0] 27)).alloc (.cells #[.slice a n c] 28)) 3 (.int .i64 1024)
    rw [hw0, World.size_alloc, World.size_alloc] at this; exact this
  have hB0 : Below w.heap.size w w0 := by rw [← hw0]; exact (((Below.refl _ w).alloc (Nat.le_refl _) _).alloc (by simp) _).alloc (by simp; omega) _
  rw [hw0]
  refine wpIn_rangeFunc_ownG rfl (by omega) (gf := 67) (lb := #[.pointer (some ⟨w.heap.size + 1, 0, none⟩), .pointer (some ⟨w.heap.size + 2, 0, none⟩)]) rfl trivial (enters_of Tryz.func67 (by kernel_rfl) rfl)
    (chunk_stops Fence.wide _ trivial rfl (by omega) w w0 a b off n c hn hnc HA.out hsz bS.cell bN.cell) (fun h k => Kept.trans h k) (fun W l o o' hl h _ _ => Kept.ofGrown (grownBy_putObj' W l o') |>.mono (fun i hi => by cases hi; right; omega)) (Below.refl _ _) (fun _ => rfl)
    (fun pre W => CutI w W (pre.map fun k => cutAt p k.1) ∧ Below w.heap.size w W)
    (fun _ _ _ => False)
    (OwnFrom.and ?own (ownFrom_below (Nat.le_refl _) (by omega)))
    (fun _ _ _ _ _ hs _ _ => hs)
    ⟨⟨⟨_, bO, CutTold.nil _ _⟩, by omega⟩, hB0⟩
    (fun x => { tmps := #[.slice a n c, undef, .slice none 0 0, .pointer (some ⟨w.heap.size, 0, none⟩), pieceV b off n x.1, .slice a n c, .func (.func 67) #[] #[.pointer (some ⟨w.heap.size + 1, 0, none⟩), .pointer (some ⟨w.heap.size + 2, 0, none⟩)], pieceV b off n x.1, undef, undef, undef, undef, undef, undef], defers := [] }) ?assign ?body ?done ?stop
  case own =>
    rintro pre W W' row ⟨⟨v, h1, h2⟩, h3⟩ hg hr
    refine ⟨⟨v, h1.kept hg (fun e => ?_), h2.kept (Kept.ofGrown hg) (fun b hb h0 cs t z h => ?_)⟩, Nat.le_trans h3 hg.size⟩
    · obtain ⟨-, o, ho, hc⟩ := hr _ e.symm
      rw [show W.heap[w.heap.size]? = _ from h1] at ho; cases ho; cases hc
    · obtain ⟨-, o, ho, hc⟩ := hr _ hb
      rw [h] at ho; cases ho; cases hc
  case assign =>
    intro l x W K hK
    unfold pieceV at hK ⊢
    gi_wp2
    exact hK
  case body =>
    rintro l pre x W ⟨⟨⟨v, hv, us, T, h1, h2, h3, h4, h5⟩, hWsz⟩, hB⟩ hlt
    have hxn := x.2
    have hlen0 := cutAt_len p x.1
    rw [HP.out] at hlen0
    have HL := Lib.hid hlen0; clear hlen0
    have hc := hv.cell
    have hf := hv.frozen
    have hplt : 0 < n := by omega
    have haa := HA.out hplt
    have HX := Lib.hid x.2
    have hrp : Row W (pieceV b off n x.1) (min 1024 (n - x.1 * 1024)) (ints .u8 (cutAt p x.1)) := by
      unfold pieceV
      have hr1 := HR.out
      rw [haa] at hr1
      have hq := hr1.part (i := x.1 * 1024) (j := x.1 * 1024 + min 1024 (n - x.1 * 1024)) (by rw [List.length_map, HP.out]) (min 1024 (n - x.1 * 1024)) (by omega) (by omega) (by omega) (by unfold maxLen; omega)
      rw [Nat.add_sub_cancel_left, take_cut rfl (by rw [HP.out])] at hq
      exact hq.below (hB)
    have HRP := Lib.hid hrp; clear hrp haa
    generalize hpv : pieceV b off n x.1 = pv at HRP ⊢
    generalize hM : min 1024 (n - x.1 * 1024) = M at HL HRP
    have hM0 : 0 < M := by omega
    have hM1 : M ≤ 1024 := by omega
    have H1 := Lib.hid h1; have H2 := Lib.hid h2; have H3 := Lib.hid h3; have H4 := Lib.hid h4; have H5 := Lib.hid h5; have hv0 := hv; have HV := Lib.hid hv; have HBW := Lib.hid hB
    clear hpv hM h1 h2 h3 h4 h5 hB hxn hv
    gi_wp2
    have hbx := hv0.lt
    have H1D : Hid (W.drew.ownsRow 0 28 1 v (pre.map fun k => cutAt p k.1).length us) := Lib.hid (ownsRow.keptBy H1.out (Kept.drew (Kept.refl (fun _ => False) W)) (fun _ _ h => h))
    have H3D : Hid (ToldL W.drew T us (pre.map fun k => cutAt p k.1)) := Lib.hid (H3.out.kept (Kept.drew (Kept.refl (fun _ => False) W)) (fun _ h => h.elim))
    have hplen : pre.length + 1 ≤ 1099511627776 := by unfold cutN at hlt; omega
    have hsz3 : w.heap.size + 3 ≤ W.drew.heap.size := hWsz
    refine wpIn_region_any (by kernel_rfl) ?_
    change wpAnyIn _ _ _ _ _ _ _ _ _ (World.drew W)
    refine wpAnyIn_ready (rs := [0, 1]) (by kernel_rfl) (by simp) ?_
    refine AllReadyIn.cons rfl (fun K hK => ?_) ?_
    · go_simp
      refine hK _ _ ?_; clear hK K
      refine wpAnyIn_ready (rs := [1]) (by kernel_rfl) (by simp) ?_
      refine AllReadyIn.cons rfl (fun K hK => ?_) ?_
      · go_simp
        refine hK _ _ ?_; clear hK K
        refine wpAnyIn_ready (rs := [2]) (by kernel_rfl) (by simp) ?_
        refine AllReadyIn.cons rfl (fun K hK => ?_) ?_
        · go_simp
          refine ⟨trivial, ?_⟩
          refine (CallsIn.inRound l (callsIn_wide.2 (bytesClone_any W.drew pv M (cutAt p x.1) HL.out hM0 (by omega) HRP.out))).mono ?_
          rintro e w1 ⟨v1, g1, rfl, hg1, hg2, hown1, hb1⟩
          rw [← HL.out] at hown1
          obtain ⟨sa, sc, rfl⟩ := ownsRow.form_ hown1
          have HOWN1 := Lib.hid hown1; have HG1 : Hid (∀ b, (Value.slice sa (cutAt p x.1).length sc).ownBlock = some b → W.drew.heap.size ≤ b) := Lib.hid (fun b hb => by rw [hg1] at hb; cases hb; exact hg2); have HB1 := Lib.hid hb1
          have hc1 := (HB1.out.cell (p := ⟨w.heap.size, 0, none⟩) hbx).trans (show W.drew.cell? ⟨w.heap.size, 0, none⟩ = some v from hc); clear hown1 hg1 hg2 hb1
          have hc1a := (((Below.refl w1.heap.size w1).alloc (Nat.le_refl _) (.cells #[.slice sa (cutAt p x.1).length sc] 28)).cell (p := ⟨w.heap.size, 0, none⟩) (World.block_lt_of_cell? _ _ hc1)).trans hc1
          refine hK _ _ ?_; clear hK K
          refine wpAnyIn_ready (rs := [3]) (by kernel_rfl) (by simp) ?_
          refine AllReadyIn.cons rfl (fun K hK => ?_) ?_
          · go_simp
            refine hK _ _ ?_; clear hK K
            refine wpAnyIn_ready (rs := [4]) (by kernel_rfl) (by simp) ?_
            have hx1 := ownsRow.keptBy H1D.out ((Kept.ofFresh HB1.out (fun _ => False)).alloc (.cells #[.slice sa (cutAt p x.1).length sc] 28)) (fun _ _ h => h)
            refine AllReadyIn.appendRow rfl (by rfl) (.tmp 8) (.tmp 11) 27 (by rfl) 28 Tryz.infoSlU8 Tryz.underlying27 rfl (by decide) _ (pre.map fun k => cutAt p k.1).length us rfl ?_ _ 1 [.slice sa (cutAt p x.1).length sc] rfl ?_ rfl (by simp [Value.oneCell']) (by rw [List.length_map]; unfold maxLen; omega) (by rw [List.length_map]; omega) ?_
            · exact hx1
            · exact Row.lit _ #[.slice sa (cutAt p x.1).length sc] 28 1 (by unfold maxLen; omega)
            intro x' w2 hown2 hc2
            obtain ⟨hct, hk2⟩ := CutTold.step (wr := W.drew) H1D.out H2.out H3D.out H4.out H5.out hsz3 HB1.out HOWN1.out HG1.out _ hown2 hc2
            obtain ⟨xa, xc, rfl⟩ := ownsRow.form_ hown2
            have HCT := Lib.hid hct; have HK2 := Lib.hid ((Kept.drew (Kept.refl _ W)).trans hk2); clear hct hk2 hown2 hc2
            have hv2 : Boxed w2 w.heap.size 27 v := HK2.out.heap HV.out (fun h => by have := H2.out _ h; omega)
            have hc3 := hv2.cell; have hf3 := hv2.frozen
            refine wpAnyIn_ready (rs := [5]) (by kernel_rfl) (by simp) ?_
            refine AllReadyIn.cons rfl (fun K hK => ?_) ?_
            · go_simp
              refine hK _ _ ?_; clear hK K
              refine wpAnyIn_done (by kernel_rfl) ?_ _
              exact cut_end hsz HV.out H1.out H2.out HK2.out (by simpa using HCT.out) HBW.out hWsz
            exact AllReadyIn.nil
          exact AllReadyIn.nil
        exact AllReadyIn.nil
      exact AllReadyIn.nil
    refine AllReadyIn.cons rfl (fun K hK => ?_) ?_
    · go_simp
      refine hK _ _ ?_; clear hK K
      refine wpAnyIn_ready (rs := [0, 2]) (by kernel_rfl) (by simp) ?_
      refine AllReadyIn.cons rfl (fun K hK => ?_) ?_
      · go_simp
        refine hK _ _ ?_; clear hK K
        refine wpAnyIn_ready (rs := [2]) (by kernel_rfl) (by simp) ?_
        refine AllReadyIn.cons rfl (fun K hK => ?_) ?_
        · go_simp
          refine ⟨trivial, ?_⟩
          refine (CallsIn.inRound l (callsIn_wide.2 (bytesClone_any W.drew pv M (cutAt p x.1) HL.out hM0 (by omega) HRP.out))).mono ?_
          rintro e w1 ⟨v1, g1, rfl, hg1, hg2, hown1, hb1⟩
          rw [← HL.out] at hown1
          obtain ⟨sa, sc, rfl⟩ := ownsRow.form_ hown1
          have HOWN1 := Lib.hid hown1; have HG1 : Hid (∀ b, (Value.slice sa (cutAt p x.1).length sc).ownBlock = some b → W.drew.heap.size ≤ b) := Lib.hid (fun b hb => by rw [hg1] at hb; cases hb; exact hg2); have HB1 := Lib.hid hb1
          have hc1 := (HB1.out.cell (p := ⟨w.heap.size, 0, none⟩) hbx).trans (show W.drew.cell? ⟨w.heap.size, 0, none⟩ = some v from hc); clear hown1 hg1 hg2 hb1
          have hc1a := (((Below.refl w1.heap.size w1).alloc (Nat.le_refl _) (.cells #[.slice sa (cutAt p x.1).length sc] 28)).cell (p := ⟨w.heap.size, 0, none⟩) (World.block_lt_of_cell? _ _ hc1)).trans hc1
          refine hK _ _ ?_; clear hK K
          refine wpAnyIn_ready (rs := [3]) (by kernel_rfl) (by simp) ?_
          refine AllReadyIn.cons rfl (fun K hK => ?_) ?_
          · go_simp
            refine hK _ _ ?_; clear hK K
            refine wpAnyIn_ready (rs := [4]) (by kernel_rfl) (by simp) ?_
            have hx1 := ownsRow.keptBy H1D.out ((Kept.ofFresh HB1.out (fun _ => False)).alloc (.cells #[.slice sa (cutAt p x.1).length sc] 28)) (fun _ _ h => h)
            refine AllReadyIn.appendRow rfl (by rfl) (.tmp 8) (.tmp 11) 27 (by rfl) 28 Tryz.infoSlU8 Tryz.underlying27 rfl (by decide) _ (pre.map fun k => cutAt p k.1).length us rfl ?_ _ 1 [.slice sa (cutAt p x.1).length sc] rfl ?_ rfl (by simp [Value.oneCell']) (by rw [List.length_map]; unfold maxLen; omega) (by rw [List.length_map]; omega) ?_
            · exact hx1
            · exact Row.lit _ #[.slice sa (cutAt p x.1).length sc] 28 1 (by unfold maxLen; omega)
            intro x' w2 hown2 hc2
            obtain ⟨hct, hk2⟩ := CutTold.step (wr := W.drew) H1D.out H2.out H3D.out H4.out H5.out hsz3 HB1.out HOWN1.out HG1.out _ hown2 hc2
            obtain ⟨xa, xc, rfl⟩ := ownsRow.form_ hown2
            have HCT := Lib.hid hct; have HK2 := Lib.hid ((Kept.drew (Kept.refl _ W)).trans hk2); clear hct hk2 hown2 hc2
            have hv2 : Boxed w2 w.heap.size 27 v := HK2.out.heap HV.out (fun h => by have := H2.out _ h; omega)
            have hc3 := hv2.cell; have hf3 := hv2.frozen
            refine wpAnyIn_ready (rs := [5]) (by kernel_rfl) (by simp) ?_
            refine AllReadyIn.cons rfl (fun K hK => ?_) ?_
            · go_simp
              refine hK _ _ ?_; clear hK K
              refine wpAnyIn_done (by kernel_rfl) ?_ _
              exact cut_end hsz HV.out H1.out H2.out HK2.out (by simpa using HCT.out) HBW.out hWsz
            exact AllReadyIn.nil
          exact AllReadyIn.nil
        exact AllReadyIn.nil
      refine AllReadyIn.cons rfl (fun K hK => ?_) ?_
      · go_simp
        refine ⟨trivial, ?_⟩
        refine (CallsIn.inRound l (callsIn_wide.2 (bytesClone_any W.drew pv M (cutAt p x.1) HL.out hM0 (by omega) HRP.out))).mono ?_
        rintro e w1 ⟨v1, g1, rfl, hg1, hg2, hown1, hb1⟩
        rw [← HL.out] at hown1
        obtain ⟨sa, sc, rfl⟩ := ownsRow.form_ hown1
        have HOWN1 := Lib.hid hown1; have HG1 : Hid (∀ b, (Value.slice sa (cutAt p x.1).length sc).ownBlock = some b → W.drew.heap.size ≤ b) := Lib.hid (fun b hb => by rw [hg1] at hb; cases hb; exact hg2); have HB1 := Lib.hid hb1
        have hc1 := (HB1.out.cell (p := ⟨w.heap.size, 0, none⟩) hbx).trans (show W.drew.cell? ⟨w.heap.size, 0, none⟩ = some v from hc); clear hown1 hg1 hg2 hb1
        have hc1a := (((Below.refl w1.heap.size w1).alloc (Nat.le_refl _) (.cells #[.slice sa (cutAt p x.1).length sc] 28)).cell (p := ⟨w.heap.size, 0, none⟩) (World.block_lt_of_cell? _ _ hc1)).trans hc1
        refine hK _ _ ?_; clear hK K
        refine wpAnyIn_ready (rs := [0, 3]) (by kernel_rfl) (by simp) ?_
        refine AllReadyIn.cons rfl (fun K hK => ?_) ?_
        · go_simp
          refine hK _ _ ?_; clear hK K
          refine wpAnyIn_ready (rs := [3]) (by kernel_rfl) (by simp) ?_
          refine AllReadyIn.cons rfl (fun K hK => ?_) ?_
          · go_simp
            refine hK _ _ ?_; clear hK K
            refine wpAnyIn_ready (rs := [4]) (by kernel_rfl) (by simp) ?_
            have hx1 := ownsRow.keptBy H1D.out ((Kept.ofFresh HB1.out (fun _ => False)).alloc (.cells #[.slice sa (cutAt p x.1).length sc] 28)) (fun _ _ h => h)
            refine AllReadyIn.appendRow rfl (by rfl) (.tmp 8) (.tmp 11) 27 (by rfl) 28 Tryz.infoSlU8 Tryz.underlying27 rfl (by decide) _ (pre.map fun k => cutAt p k.1).length us rfl ?_ _ 1 [.slice sa (cutAt p x.1).length sc] rfl ?_ rfl (by simp [Value.oneCell']) (by rw [List.length_map]; unfold maxLen; omega) (by rw [List.length_map]; omega) ?_
            · exact hx1
            · exact Row.lit _ #[.slice sa (cutAt p x.1).length sc] 28 1 (by unfold maxLen; omega)
            intro x' w2 hown2 hc2
            obtain ⟨hct, hk2⟩ := CutTold.step (wr := W.drew) H1D.out H2.out H3D.out H4.out H5.out hsz3 HB1.out HOWN1.out HG1.out _ hown2 hc2
            obtain ⟨xa, xc, rfl⟩ := ownsRow.form_ hown2
            have HCT := Lib.hid hct; have HK2 := Lib.hid ((Kept.drew (Kept.refl _ W)).trans hk2); clear hct hk2 hown2 hc2
            have hv2 : Boxed w2 w.heap.size 27 v := HK2.out.heap HV.out (fun h => by have := H2.out _ h; omega)
            have hc3 := hv2.cell; have hf3 := hv2.frozen
            refine wpAnyIn_ready (rs := [5]) (by kernel_rfl) (by simp) ?_
            refine AllReadyIn.cons rfl (fun K hK => ?_) ?_
            · go_simp
              refine hK _ _ ?_; clear hK K
              refine wpAnyIn_done (by kernel_rfl) ?_ _
              exact cut_end hsz HV.out H1.out H2.out HK2.out (by simpa using HCT.out) HBW.out hWsz
            exact AllReadyIn.nil
          exact AllReadyIn.nil
        refine AllReadyIn.cons rfl (fun K hK => ?_) ?_
        · go_simp
          refine hK _ _ ?_; clear hK K
          refine wpAnyIn_ready (rs := [0]) (by kernel_rfl) (by simp) ?_
          refine AllReadyIn.cons rfl (fun K hK => ?_) ?_
          · go_simp
            refine hK _ _ ?_; clear hK K
            refine wpAnyIn_ready (rs := [4]) (by kernel_rfl) (by simp) ?_
            have hx1 := ownsRow.keptBy H1D.out ((Kept.ofFresh HB1.out (fun _ => False)).alloc (.cells #[.slice sa (cutAt p x.1).length sc] 28)) (fun _ _ h => h)
            refine AllReadyIn.appendRow rfl (by rfl) (.tmp 8) (.tmp 11) 27 (by rfl) 28 Tryz.infoSlU8 Tryz.underlying27 rfl (by decide) _ (pre.map fun k => cutAt p k.1).length us rfl ?_ _ 1 [.slice sa (cutAt p x.1).length sc] rfl ?_ rfl (by simp [Value.oneCell']) (by rw [List.length_map]; unfold maxLen; omega) (by rw [List.length_map]; omega) ?_
            · exact hx1
            · exact Row.lit _ #[.slice sa (cutAt p x.1).length sc] 28 1 (by unfold maxLen; omega)
            intro x' w2 hown2 hc2
            obtain ⟨hct, hk2⟩ := CutTold.step (wr := W.drew) H1D.out H2.out H3D.out H4.out H5.out hsz3 HB1.out HOWN1.out HG1.out _ hown2 hc2
            obtain ⟨xa, xc, rfl⟩ := ownsRow.form_ hown2
            have HCT := Lib.hid hct; have HK2 := Lib.hid ((Kept.drew (Kept.refl _ W)).trans hk2); clear hct hk2 hown2 hc2
            have hv2 : Boxed w2 w.heap.size 27 v := HK2.out.heap HV.out (fun h => by have := H2.out _ h; omega)
            have hc3 := hv2.cell; have hf3 := hv2.frozen
            refine wpAnyIn_ready (rs := [5]) (by kernel_rfl) (by simp) ?_
            refine AllReadyIn.cons rfl (fun K hK => ?_) ?_
            · go_simp
              refine hK _ _ ?_; clear hK K
              refine wpAnyIn_done (by kernel_rfl) ?_ _
              exact cut_end hsz HV.out H1.out H2.out HK2.out (by simpa using HCT.out) HBW.out hWsz
            exact AllReadyIn.nil
          exact AllReadyIn.nil
        exact AllReadyIn.nil
      exact AllReadyIn.nil
    exact AllReadyIn.nil
  case done =>
    rintro D ys W hD hys ⟨⟨⟨v, hv, hct⟩, hWsz⟩, hB⟩ hK
    have hc := hv.cell
    have HCT := Lib.hid hct; have HBW := Lib.hid hB; clear hct hB
    gi_wp2
    refine ⟨by simp, .inl ⟨_, _, rfl, run_takeDeferred hK, ?_⟩⟩
    refine ⟨_, results_tmp rfl _ _ _, v, rfl, ?_, ?_⟩
    · have hl : (ys.map fun k => cutAt p k.1) = cuts p (cutN n) := by rw [cuts, ← hys, List.map_map]; rfl
      have hct := HCT.out
      rw [hl] at hct
      have hct2 := hct.kept (Kept.ofGrown (grownBy_putObj' W D (.deferred none))) (fun b hb _ cs t z h => by cases hb; rw [hK] at h; cases h)
      obtain ⟨us, T, q1, q2, q3, q4, q5⟩ := hct2
      exact ⟨us, T, q1, fun b hb => by have := q2 b hb; omega, q3, fun b hb => by have := q4 b hb; omega, q5⟩
    · exact HBW.out.trans (belowK_b (w := w) (Nat.le_refl _) W D _ _ (by omega) hK rfl rfl)
  case stop =>
    rintro D c pre W _ _ h _
    exact h.elim

end Go.Proofs.YtmhmhpdpiikjiaaGreat
