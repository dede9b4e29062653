/- The law ChunkCuts. -/
import Derived.Test.YtmhmhpdpiikjiaaGreatLawB
import Derived.Test.YtmhmhpdpiikjiaaGreatRefE
import Derived.Test.YtmhmhpdpiikjiaaGreatBdCut
namespace Go.Proofs.YtmhmhpdpiikjiaaGreat
open Go.RowKit

/-- append, guarded by what has been found to be so. -/
theorem wpList_append_row_g {P : Program} {w : World} {ops : Array Oper} {rest : List Oper} {o : Oper} {a : Act} {Q : Exit → Act → World → Prop} (hgd : Region.wanted o (yielded ops a.tmps) = true) (s x : Operand) (t : TypeId)
    (ho : o.op = .call { callee := .builtin .append, args := #[s, x], argTypes := #[t, t] })
    (e : TypeId) {z : Value} {size bytes : Nat} (hinfo : (P.info? e).map (fun i => (i.zero, i.size, i.bytes)) = some (some z, size, bytes)) (ht : P.underlying t = some (.slice e)) (hzs : z.cells.size = size) (hsz : 0 < size)
    (v : Value) (n : Nat) (xs : List Value) (hs : a.eval s = v) (hown : w.ownsRow 0 e size v n xs)
    (xv : Value) (m : Nat) (news : List Value) (hxv : a.eval x = xv) (hx : Row w xv m news) (hl : news.length = m * size) (h1 : ∀ u ∈ news, u.oneCell' = true)
    (h63 : n + m ≤ maxLen) (hbytes : (n + m) * bytes ≤ 140737488355328)
    (h : ∀ v' w', w'.ownsRow 0 e size v' (n + m) (xs ++ news) → AppCase w w' v v' → (v' = .slice none 0 0 ↔ v = .slice none 0 0 ∧ m = 0) → wpList P ops Q rest (a.put o.dst v') w') : wpList P ops Q (o :: rest) a w := by
  obtain ⟨i, hi, hz, hsize, hby⟩ := info_parts hinfo
  obtain ⟨v', w', hr, h2, h3, h4⟩ := run_append_row (P := P) w t o.type e i z size bytes ht hi hz hsize hby hzs hsz v n xs hown xv m news hl hx h1 h63 hbytes
  refine wpList_step fun K hK => ?_
  rw [if_pos hgd]
  unfold Oper.wp execOp
  simp only [ho, resolve, invoke, builtin, Sem.run_bind, Sem.run_pure, Result.andThen_ok, List.map_toArray, List.map_cons, List.map_nil, hs, hxv, hr]
  exact hK _ _ (h v' w' h2 h3 h4)
theorem CutTold.rows {w : World} {b0 : Nat} {x : Value} {ps : List (List Int)} (h : CutTold w b0 x ps) : RowsU8 w x ps := by
  obtain ⟨us, T, h1, -, h3, -, -⟩ := h
  obtain ⟨hl, -, L, -, h4⟩ := h3
  exact ⟨us, hl, World.ownsRow.row h1, fun k hk hk' => (h4 k hk hk').1.row⟩
theorem ToldL.append {w : World} {T T' : Nat → Prop} {us us' : List Value} {ps ps' : List (List Int)} (h : ToldL w T us ps) (h' : ToldL w T' us' ps') (hd : ∀ b, T b → ¬ T' b) : ToldL w (fun b => T b ∨ T' b) (us ++ us') (ps ++ ps') := by
  obtain ⟨h1, h2, L, h3, h4⟩ := h
  obtain ⟨k1, k2, L', k3, k4⟩ := h'
  refine ⟨by simp [h1, k1], fun b hb => hb.elim (h2 b) (k2 b), fun b => match L b with | some j => some j | none => (L' b).map (· + us.length), fun b hb => ?_, fun j hj hj' => ?_⟩
  · cases hL : L b with
    | some j => exact Or.inl (h3 b (by rw [hL]; simp))
    | none =>
      dsimp only at hb
      rw [hL] at hb
      refine Or.inr (k3 b ?_)
      intro e; rw [e] at hb; exact hb rfl
  · by_cases hjl : j < us.length
    · rw [List.getElem_append_left hjl, List.getElem_append_left (by omega)]
      have h5 := h4 j hjl (by omega)
      refine ⟨h5.1, fun b hb => ?_⟩
      have := h5.2 b hb
      dsimp only
      rw [this]
    · have e1 : (us ++ us')[j] = us'[j - us.length]'(by simp at hj; omega) := List.getElem_append_right (by omega)
      have e2 : (ps ++ ps')[j] = ps'[j - us.length]'(by simp at hj'; omega) := by rw [List.getElem_append_right (by omega)]; simp [h1]
      rw [e1, e2]
      have h5 := k4 (j - us.length) (by simp at hj; omega) (by simp at hj'; omega)
      refine ⟨h5.1, fun b hb => ?_⟩
      have h6 := h5.2 b hb
      have hT' : T' b := k3 b (by rw [h6]; simp)
      have hL : L b = none := by
        cases hL : L b with
        | none => rfl
        | some i => exact absurd hT' (hd b (h3 b (by rw [hL]; simp)))
      dsimp only
      rw [hL, h6]
      simp; omega

theorem sameRows_yes (w : World) (v1 v2 : Value) (xss : List (List Int)) (r1 : RowsU8 w v1 xss) (r2 : RowsU8 w v2 xss) :
    Calls Tryz.prog 25 #[v1, v2] w fun e w' => e = .returned (.bool true) ∧ Quiet w w' := by
  have := sameRows_any w v1 v2 xss xss r1 r2
  simpa using this
theorem cuts_small (p : List Int) (k : Nat) : ∀ q ∈ cuts p k, q.length ≤ 1024 := by
  intro q hq
  obtain ⟨i, -, rfl⟩ := List.mem_map.1 hq
  rw [cutAt_len]; omega

set_option maxRecDepth 100000 in
set_option maxHeartbeats 2000000 in
theorem chunkCuts_any (w : World) (v : Value) (n : Nat) (p : List Int) (hp : p.length = n) (hr : Row w v n (ints .u8 p)) :
    Calls Tryz.prog 4 #[v] w fun e w' => e = .returned (.bool true) ∧ Below w.heap.size w w' := by
  have hle := hr.le
  have hblk : ∀ b, v.ownBlock = some b → 0 < n → b < w.heap.size := fun b hb h0 => by
    obtain ⟨b', h1, h2⟩ := hr.lt (by simpa [hp] using h0)
    rw [hb] at h1; cases h1; exact h2
  have HR := Lib.hid hr; have HP := Lib.hid hp; have HBk := Lib.hid hblk
  obtain ⟨va, vc, rfl, -⟩ := hr
  clear hp hblk
  by_cases hn : n ≤ 50000
  · go_enter Tryz.func4, Tryz.ntmps4
    have hnz : ¬ (50000 : Int) < (n : Int) := by omega
    go_wp2_with fail
    refine (lentBytes_any w _ n p HP.out (by omega) HR.out).mono ?_
    rintro e w1 ⟨v1, g1, rfl, h1, h2, h3, h4⟩
    have HG1 := Lib.hid h1; have HG2 := Lib.hid h2; have HL1 := Lib.hid h3; have HB1 := Lib.hid h4; have HGl : Hid (g1 < w1.heap.size) := Lib.hid (by obtain ⟨-, -, g, hv, hh⟩ := h3; rw [hv] at h1; cases h1; exact lt_of_block hh); clear h1 h2 h3 h4
    go_wp2_with fail
    refine (cut_any w1 v1 n p HP.out HL1.out.row (by omega)).mono ?_
    rintro e w2 ⟨x, rfl, h1, h2⟩
    have HC2 := Lib.hid h1; have HB2 := Lib.hid h2; clear h1 h2
    have HR2 := Lib.hid ((HR.out.below HB1.out).below HB2.out)
    go_wp2_with fail
    refine (refCut_any w2 _ n p HP.out HR2.out (by omega)).mono ?_
    rintro e w3 ⟨y, rfl, h1, h2⟩
    have HC3 := Lib.hid h1; have HB3 := Lib.hid h2; clear h1 h2
    go_wp2_with fail
    refine (sameRows_yes w3 _ _ _ (HC2.out.below HB3.out).rows HC3.out.rows).mono ?_
    rintro e w4 ⟨rfl, hq4⟩
    have hb14 : Below w1.heap.size w1 w4 := HB2.out.trans ((HB3.out.mono HB2.out.size).trans (hq4.below _))
    have hb24 : Below w2.heap.size w2 w4 := HB3.out.trans (hq4.below _)
    have HB24 := Lib.hid hb24; have HB14 := Lib.hid hb14; have HL4 := Lib.hid (HL1.out.kept (Kept.ofFresh hb14 (fun _ => False)) (fun _ _ h => h)); have HR4 := Lib.hid ((HR.out.below HB1.out).below (hb14)); clear hq4 hb14 hb24
    go_wp2_with fail
    refine (keptBytes_yes w4 v1 _ n p HL4.out HR4.out).mono ?_
    rintro e w5 ⟨rfl, hq5⟩
    have HQ5 := Lib.hid hq5; have HL5 := Lib.hid (HL4.out.kept (hq5.kept (fun _ => False)) (fun _ _ h => h)); clear hq5
    go_wp2_with fail
    refine (cut_any w5 v1 n p HP.out HL5.out.row (by omega)).mono ?_
    rintro e w6 ⟨x2, rfl, h1, h2⟩
    have hb26 : Below w2.heap.size w2 w6 := HB24.out.trans ((HQ5.out.below _).trans (h2.mono (Nat.le_trans HB24.out.size (by rw [HQ5.out.heap]; exact Nat.le_refl _))))
    obtain ⟨us, T, d1, d2, d3, d4, d5⟩ := HC2.out
    obtain ⟨us2, T2, c1, c2, c3, c4, c5⟩ := h1
    have hw25 : w2.heap.size ≤ w5.heap.size := by rw [HQ5.out.heap]; exact HB24.out.size
    have hw12 := HB2.out.size
    have hxlt : ∀ b, x.ownBlock = some b → b < w2.heap.size := fun b hb => (d1.lt b hb).2
    have hTlt : ∀ b, T b → b < w2.heap.size := fun b hb => d3.lt b hb
    have a1 := ownsRow.keptBy d1 (Kept.ofFresh hb26 (fun _ => False)) (fun _ _ h => h)
    have a3 := d3.kept (Kept.ofFresh hb26 (fun _ => False)) (fun _ h => h.elim)
    obtain ⟨xa, xc, rfl⟩ := ownsRow.form_ a1
    obtain ⟨ya, yc, rfl⟩ := ownsRow.form_ c1
    have hcl : (cuts p (cutN n)).length ≤ 50 := by rw [cuts_len]; unfold cutN; omega
    have ha3 := a3.append c3 (fun b h h' => by have := hTlt b h; have := c4 b h'; omega)
    have hlen1 := a3.len
    have hlen2 := c3.len
    have hus : ∀ u ∈ us2, u.oneCell' = true := fun u hu => by
      obtain ⟨j, hj, rfl⟩ := List.mem_iff_getElem.1 hu
      obtain ⟨-, -, L, -, hf⟩ := c3
      obtain ⟨ua, uc, h⟩ := (hf j hj (by omega)).1.form_
      rw [h]; rfl
    have HA1 := Lib.hid a1; have HC1 := Lib.hid c1; have HA3 := Lib.hid ha3; have HB6 := Lib.hid h2; have HUS := Lib.hid hus; have HXL := Lib.hid hxlt; have HTL := Lib.hid hTlt; have HD2 := Lib.hid d2; have HD4 := Lib.hid d4; have HD5 := Lib.hid d5; have HC4 := Lib.hid c4; have HL12 := Lib.hid (show us.length = (cuts p (cutN n)).length ∧ us2.length = (cuts p (cutN n)).length from ⟨hlen1, hlen2⟩)
    have hb16 : Below w1.heap.size w1 w6 := HB2.out.trans (hb26.mono HB2.out.size)
    have HB16 := Lib.hid hb16
    clear a1 a3 c1 c2 c3 c4 c5 d1 d2 d3 d4 d5 h2 ha3 hlen1 hlen2 hus hxlt hTlt hb26 hb16
    generalize hq : cuts p (cutN n) = ps at *
    have HQS := Lib.hid hq; clear hq
    go_wp2_with (at_builtin; refine wpList_append_row_g (by rfl) (.tmp 23) (.tmp 25) 27 rfl 28 Tryz.infoSlU8 Tryz.underlying27 rfl (by decide) (.slice xa ps.length xc) ps.length us rfl HA1.out (.slice ya ps.length yc) ps.length us2 rfl (World.ownsRow.row HC1.out) (by have := HL12.out; omega) HUS.out (by unfold maxLen; omega) (by omega) ?_; intro x3 w7 hr7 hc7 _)
    have hk7 : Kept (fun b => (Value.slice xa ps.length xc).ownBlock = some b) w6 w7 := Kept.ofGrown hc7.grown |>.mono (fun _ h => h)
    have ht7 := HA3.out.kept hk7 (fun b hb => by
      rintro (h | h)
      · exact HD5.out b hb h
      · have := HXL.out b hb; have := HC4.out b h; omega)
    obtain ⟨za, zc, rfl⟩ := ownsRow.form_ hr7
    have HR7 := Lib.hid (World.ownsRow.row hr7); have HK7 := Lib.hid hk7; have HT7 := Lib.hid ht7; clear hr7 hk7 ht7 hc7
    go_wp2_with fail
    have hln : ∀ q ∈ ps ++ ps, q.length ≤ 1099511627776 := fun q hq => by
      have h := cuts_small p (cutN n)
      rw [HQS.out] at h
      have := h q (by simpa using hq); omega
    refine (apartTold w7 _ (us ++ us2) (ps ++ ps) _ (by have := HL12.out; rw [List.length_append, this.1, this.2]; exact HR7.out) HT7.out (by have := HL12.out; simp; omega) hln).mono ?_
    rintro e w8 ⟨rfl, hk8⟩
    have hw6 : w5.heap.size ≤ w6.heap.size := HB6.out.size
    have hk18 : Kept (fun b => w1.heap.size ≤ b) w1 w8 := ((Kept.ofFresh HB16.out _).thenOwn (HK7.out) (fun b hb => Or.inl (HD2.out b hb))).thenOwn hk8 (fun b hb => by
      rcases hb with h | h
      · exact Or.inl (HD4.out b h)
      · have := HC4.out b h; right; omega)
    have HK18 := Lib.hid hk18; clear hk18 hk8 hln
    have HL8 := Lib.hid (HL1.out.kept HK18.out (fun b hb h => by rw [HG1.out] at hb; cases hb; have := HGl.out; omega))
    have hb18 : Below w1.heap.size w1 w8 := HK18.out.fresh (fun i hi h => by omega)
    have HB18 := Lib.hid hb18; clear hb18
    have HR8 := Lib.hid ((HR.out.below HB1.out).below HB18.out)
    go_wp2_with fail
    refine (keptBytes_yes w8 v1 _ n p HL8.out HR8.out).mono ?_
    rintro e w9 ⟨rfl, hq9⟩
    have HQ9 := Lib.hid hq9; clear hq9
    go_wp2_with fail
    refine (awake_any w9).mono ?_
    rintro e w10 ⟨rfl, hb10⟩
    have HB10 := Lib.hid hb10; clear hb10
    go_wp2_with fail
    go_ret
    have e1 : w1.heap.size ≤ w9.heap.size := by rw [HQ9.out.heap]; exact HB18.out.size
    exact ⟨rfl, HB1.out.trans (((HB18.out.trans (HQ9.out.below _)).trans (HB10.out.mono e1)).mono HB1.out.size)⟩
  · go_enter Tryz.func4, Tryz.ntmps4
    have hnz : (50000 : Int) < (n : Int) := by omega
    go_wp2_with fail
    refine (awake_any w).mono ?_
    rintro e w1 ⟨rfl, h1⟩
    have H1 := Lib.hid h1; clear h1
    go_wp2_with fail
    go_ret
    exact ⟨rfl, H1.out⟩

end Go.Proofs.YtmhmhpdpiikjiaaGreat
