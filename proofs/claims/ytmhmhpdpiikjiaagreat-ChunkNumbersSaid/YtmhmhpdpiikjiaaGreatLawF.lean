/- The law ChunkLives. -/
import Derived.Test.YtmhmhpdpiikjiaaGreatLawE
import Derived.Deep.CutRange
namespace Go.Proofs.YtmhmhpdpiikjiaaGreat
open Go.RowKit

theorem Row.keptNZ {S : Nat → Prop} {w w' : World} {v : Value} {n : Nat} {ys : List Value} (h : Row w v n ys) (k : Kept S w w') (hs : 0 < ys.length → ∀ b, v.ownBlock = some b → ¬ S b) : Row w' v n ys := by
  by_cases h0 : 0 < ys.length
  · exact h.keptBy k (hs h0)
  · obtain ⟨a, c, rfl, h1, h2, h3, h4⟩ := h
    exact ⟨a, c, rfl, h1, h2, h3, fun j hj => absurd hj (by omega)⟩

/-- A step in its own block. -/
def DoAt (w : World) (D : Nat) (d : DoM) : Prop := w.heap[D]? = some (.cells (cellsD d).toArray 30 (0, 0))
theorem DoAt.cell {w : World} {D : Nat} {d : DoM} (h : DoAt w D d) : w.cell? ⟨D, 0, none⟩ = some (.int .i64 d.op) ∧ w.cell? ⟨D, 1, none⟩ = some (.int .i64 d.ver) ∧ w.cell? ⟨D, 2, none⟩ = some (.int .i64 d.pos) ∧ w.cell? ⟨D, 3, none⟩ = some (.int .i64 d.whole) ∧ w.cell? ⟨D, 4, none⟩ = some (.bool d.full) ∧ w.cell? ⟨D, 5, none⟩ = some d.pv := by
  refine ⟨?_, ?_, ?_, ?_, ?_, ?_⟩ <;> (rw [cell_of_row w D _ _ _ _ h]; rfl)

/-- What holds at the head of the loop. -/
def LivesAt (w : World) (A B k : Nat) (tv : Value) (wr : World) : Prop := ∃ m l O O' T us ps, LivesI w wr A B k m tv l l O O' T us ps ∧ GoodC l ∧ l.length ≤ k

set_option maxRecDepth 100000 in
set_option maxHeartbeats 4000000 in
theorem chunkLives_any (w : World) (v : Value) (ds : List DoM) (h : DosAt w v ds) :
    Calls Tryz.prog 3 #[v] w fun e w' => e = .returned (.bool true) ∧ Below w.heap.size w w' := by
  obtain ⟨a, c, rfl, hdl, hcell, hok⟩ := h
  have HC := Lib.hid hcell; have HOk := Lib.hid hok; clear hcell hok
  go_enter Tryz.func3, Tryz.ntmps3
  go_wp2_with fail
  refine (progNew_any _).mono ?_
  rintro e w1 ⟨A, rfl, hA, ⟨O, hb, hO⟩, hb1⟩
  have HA := Lib.hid hb; have HO := Lib.hid hO; have HB1 := Lib.hid hb1; clear hb hO hb1
  go_wp2_with fail
  refine (refNew_any _).mono ?_
  rintro e w2 ⟨B, rfl, hB, hrb, hb2⟩
  have hw1 := HB1.out.size
  have hst : LivesAt w A B 0 (.slice none 0 0) w2 := ⟨0, [], O, fun b => b = B, fun _ => False, [], [], ⟨HA.out.kept (Kept.ofFresh hb2 (fun _ => False)) (fun _ h => h.elim), hrb, fun b hb => ⟨HO.out b hb, fun e => by have := HA.out.lt b hb; omega, fun h => h, by simp [Value.ownBlock]⟩, fun b hb => ⟨by omega, fun h => h, by simp [Value.ownBlock]⟩, fun _ h => h.elim, by simp [Value.ownBlock], ToldL.nil _, World.ownsRow_nil _ _ _ _, by simp, HB1.out.trans (hb2.mono hw1), Nat.le_refl _, Nat.le_refl _⟩, GoodC.nil, Nat.le_refl _⟩
  have HSt := Lib.hid hst; clear hst hb2 hrb hA hB
  go_wp2_with fail
  go_loopw [5, 6] (fun tv iv wr => ∃ k : Nat, k ≤ ds.length ∧ k ≤ 120 ∧ iv = .int .i64 k ∧ LivesAt w A B k tv wr) (fun _ iv _ => ds.length - (intOf iv).toNat)
  case atStart => exact ⟨0, by omega, by omega, rfl, HSt.out⟩
  case round =>
    obtain ⟨k, hk, hk2, rfl, hl⟩ := hrel
    have HL := Lib.hid hl; clear hl
    by_cases hkd : k < ds.length
    · by_cases hk120 : k < 120
      · obtain ⟨m, l, Oa, Ob, T, us, ps, hI, hg, hln⟩ := HL.out
        obtain ⟨b, off, rfl, hcd⟩ := HC.out k hkd
        have hdok := HOk.out ds[k] (List.getElem_mem hkd)
        generalize ds[k] = d at hcd hdok
        obtain ⟨op, ver, pos, whole, full, pv, pc⟩ := d
        obtain ⟨o1, o2, o3, o4, h8, hrow⟩ := hdok
        dsimp only at o1 o2 o3 o4 h8 hrow
        have HRow := Lib.hid hrow
        obtain ⟨pa, pcap, rfl, -⟩ := hrow
        have hbl : b < w.heap.size := World.block_lt_of_cell? _ _ (show w.cell? ⟨b, off + (k * 6 + 0), none⟩ = some (.int .i64 op) from hcd 0 (by omega))
        have hcw : ∀ j, j < 6 → wr.cell? ⟨b, off + (k * 6 + j), none⟩ = (cellsD ⟨op, ver, pos, whole, full, .slice pa pc.length pcap, pc⟩)[j]? := fun j hj => (hI.bel.cell (p := ⟨b, off + (k * 6 + j), none⟩) hbl).trans (hcd j hj)
        have c0 : wr.cell? ⟨b, off + k * 6, none⟩ = some (.int .i64 op) := hcw 0 (by omega)
        have c1 : wr.cell? ⟨b, off + k * 6 + 1, none⟩ = some (.int .i64 ver) := hcw 1 (by omega)
        have c2 : wr.cell? ⟨b, off + k * 6 + 2, none⟩ = some (.int .i64 pos) := hcw 2 (by omega)
        have c3 : wr.cell? ⟨b, off + k * 6 + 3, none⟩ = some (.int .i64 whole) := hcw 3 (by omega)
        have c4 : wr.cell? ⟨b, off + k * 6 + 4, none⟩ = some (.bool full) := hcw 4 (by omega)
        have c5 : wr.cell? ⟨b, off + k * 6 + 5, none⟩ = some (.slice pa pc.length pcap) := hcw 5 (by omega)
        have HI := Lib.hid hI; have HG := Lib.hid hg; have HLn := Lib.hid hln; have O1 := Lib.hid o1; have O2 := Lib.hid o2; have O3 := Lib.hid o3; have O4 := Lib.hid o4; have H8 := Lib.hid h8; clear hI hg hln hcd hcw o1 o2 o3 o4 h8
        have hkz : (k : Int) < (ds.length : Int) := by omega
        have hkz2 : (k : Int) < 120 := by omega
        go_upto_region 7 with (fail)
        obtain ⟨wa, hwa⟩ : ∃ wa, wr.alloc (.cells #[.int .i64 op, .int .i64 ver, .int .i64 pos, .int .i64 whole, .bool full, .slice pa pc.length pcap] 30) = wa := ⟨_, rfl⟩
        rw [hwa]
        have hba : Below wr.heap.size wr wa := by rw [← hwa]; exact (Below.refl _ wr).alloc (Nat.le_refl _) _
        have hda : DoAt wa wr.heap.size ⟨op, ver, pos, whole, full, .slice pa pc.length pcap, pc⟩ := by rw [← hwa]; exact heap_alloc_new wr _
        have hIa := HI.out.below hba
        have hfD := HI.out.fresh (Nat.le_refl wr.heap.size)
        clear hwa
        generalize wr.heap.size = D at hda hfD ⊢
        obtain ⟨-, d1, d2, d3, d4, d5⟩ := hda.cell
        have d0 := hda.cell.1
        have HDa := Lib.hid hda; have HIa := Lib.hid hIa; have HfD := Lib.hid hfD; clear hda hIa hfD hba c0 c1 c2 c3 c4 c5
        by_cases hp3 : pc.length ≤ 3000
        · have hp3z : ¬ (3000 : Int) < (pc.length : Int) := by omega
          go_wp2_with fail
          refine (pick_any wa op 5 O1.out (by omega) (by omega)).mono ?_
          rintro e w' ⟨rfl, rfl⟩
          generalize pickI op 5 = pk
          go_upto_if 39 with (fail)
          go_cut [5] from 39 to 100 (fun tv' wc => LivesAt w A B (k + 1) tv' wc)
          case first =>
            by_cases hpk : pk = 4
            · have e1 : (pk == 4) = true := by simp [hpk]
              have HPk := Lib.hid hpk; clear hpk
              have HId := Lib.hid (HIa.out.kept (Kept.drew (Kept.refl (fun _ => False) wa)) (fun _ h => h.elim))
              go_wp2_with fail
              go_region_with (first
                | (go_at_call 10; refine (progDrop_any _ Oa A m l ver HId.out.ba HG.out O2.out).mono ?_; rintro e wb ⟨rfl, hb, hk⟩; have HIb := Lib.hid (HId.out.moveA hb (fun _ h => Or.inl h) hk HId.out.hm); have hdb : DoAt wb D _ := hk.heap HDa.out (fun h => HfD.out.2.1 h); obtain ⟨-, b1, -⟩ := hdb.cell; clear hdb hb hk)
                | (go_at_call 11; refine (refDrop_any _ Ob B l ver HIb.out.rb (by have := HLn.out; omega)).mono ?_; rintro e wc2 ⟨rfl, Ob2, g1, g2, g3⟩; have HIc := Lib.hid (HIb.out.moveB g1 g2 (g3.mono (fun b h => by rw [h]; exact HIb.out.rb.own))); clear g1 g2 g3))
              all_goals
                go_wp2_with fail
                go_meet
                case rel => exact ⟨m, (dropE l ver).1, Oa, Ob2, T, us, ps, HIc.out.step, HG.out.dropE ver, by have := dropE_length l ver; have := HLn.out; omega⟩
            · have e1 : (pk == 4) = false := by simp [hpk]
              have HPk := Lib.hid hpk; clear hpk
              have hrA : Row wa (.slice pa pc.length pcap) pc.length (ints .u8 pc) := HRow.out.below HIa.out.bel
              have HRA := Lib.hid hrA; clear hrA
              go_wp2_with fail
              refine (piece_any wa op ver pos whole full _ pc HRA.out (by omega)).mono ?_
              rintro e w3 ⟨q, rfl, hq1, hq2, hb3⟩
              have h8q := pieceL_8 (full := full) H8.out
              have hql := pieceL_len full pc
              have hqf : 0 < (pieceL full pc).length → ∀ b, q.ownBlock = some b → b < w3.heap.size ∧ (b < w.heap.size ∨ Free w u5 Oa Ob T b) := fun h0 b hb => by
                obtain ⟨b', e1, e2⟩ := hq1.lt (by simpa using h0)
                rw [hb] at e1; cases e1
                refine ⟨e2, ?_⟩
                rcases hq2 b hb with ⟨h1, h2⟩ | h1
                · left
                  obtain ⟨b', e1, e2⟩ := HRow.out.lt (by rw [h2] at h0; simpa using h0)
                  rw [h1] at hb
                  rw [hb] at e1; cases e1; exact e2
                · right; exact HIa.out.fresh h1
              obtain ⟨qa, qc, rfl, -⟩ := id hq1
              generalize hpq : pieceL full pc = pq at hq1 h8q hql hqf
              clear hpq
              have HI3 := Lib.hid (HIa.out.below hb3); have HD3 := Lib.hid (show DoAt w3 D _ from hb3.block D (lt_of_block HDa.out) |>.trans HDa.out); have HQ1 := Lib.hid hq1; have HQF := Lib.hid hqf; have H8Q := Lib.hid h8q; clear hq1 hq2 hb3 h8q hqf d0 d1 d2 d3 d4 d5
              go_wp2_with fail
              refine (lentBytes_any w3 _ pq.length pq rfl (by omega) HQ1.out).mono ?_
              rintro e w4 ⟨vin, g, rfl, hg1, hg2, hL4, hb4⟩
              have hI4 := HI3.out.below hb4
              have hfg : Free w u5 Oa Ob T g := HI3.out.fresh hg2
              have hD4 : DoAt w4 D _ := hb4.block D (lt_of_block HD3.out) |>.trans HD3.out
              obtain ⟨-, d1, d2, d3, -, -⟩ := hD4.cell
              have hgl : g < w4.heap.size := by obtain ⟨-, -, g', hv, hh⟩ := hL4; rw [hv] at hg1; cases hg1; exact lt_of_block hh
              have HI4 := Lib.hid hI4; have HFg := Lib.hid hfg; have HD4 := Lib.hid hD4; have HL4 := Lib.hid hL4; have HG1 := Lib.hid hg1; have HQ4 := Lib.hid (HQ1.out.below hb4); have HS34 := Lib.hid hb4.size; clear hI4 hfg hD4 hL4 hg1 hg2 hb4
              go_wp2_with fail
              refine (progPut_any w4 Oa A m l ver pos whole vin pq HI4.out.ba HG.out HL4.out.row (fun b hb hO => by rw [HG1.out] at hb; cases hb; exact HFg.out.2.1 hO) H8Q.out (by have := HI4.out.hm; omega)).mono ?_
              rintro e w5 ⟨x, rfl, hx, Oa2, hA5, hO5, hx5, hk5⟩
              have hI5 := (HI4.out.step).moveA hA5 hO5 hk5 (by have := HI4.out.hm; omega)
              have hD5 : DoAt w5 D _ := hk5.heap HD4.out (fun h => HfD.out.2.1 h)
              obtain ⟨-, b1, b2, b3, -, -⟩ := hD5.cell
              have HI5 := Lib.hid hI5
              have HfD5 := Lib.hid (Free.moveA HI4.out hO5 HfD.out (lt_of_block HD4.out))
              have HFg5 := Lib.hid (Free.moveA HI4.out hO5 HFg.out hgl)
              have HQ5 := Lib.hid (HQ4.out.keptNZ hk5 (fun h0 b hb hO => by
                rcases (HQF.out (by simpa using h0) b hb).2 with h | h
                · have := (HI4.out.oO b hO).1; omega
                · exact h.2.1 hO))
              have HQF5 : Hid (0 < pq.length → ∀ b, (Value.slice qa pq.length qc).ownBlock = some b → b < w4.heap.size ∧ (b < w.heap.size ∨ Free w u5 Oa2 Ob T b)) := Lib.hid (fun h0 b hb => by
                have h1 := HQF.out h0 b hb
                have h2 := HS34.out
                refine ⟨by omega, h1.2.imp_right (fun h => Free.moveA HI4.out hO5 h (by omega))⟩)
              have HL5 := Lib.hid (HL4.out.kept hk5 (fun b hb hO => by rw [HG1.out] at hb; cases hb; exact HFg.out.2.1 hO))
              have hS5 := hk5.size
              have HXg : Hid (∀ b, x.ownBlock = some b → b ≠ g) := Lib.hid (fun b hb e => by have := (hx5 b hb).1; omega)
              have HX5 := Lib.hid hx; have HXf : Hid (∀ b, x.ownBlock = some b → Free w u5 Oa2 Ob T b) := Lib.hid (fun b hb => by
                have h1 := hx5 b hb
                have f := HI4.out.fresh h1.1
                exact ⟨f.1, h1.2, f.2.2⟩)
              have HD5 := Lib.hid hD5
              generalize hr : putC l ver pos whole pq = r at HI5 HX5
              obtain ⟨l2, out, err⟩ := r
              dsimp only at HI5 HX5
              have HR := Lib.hid hr
              clear hA5 hO5 hx5 hk5 hI5 hD5 hx hr d1 d2 d3
              dsimp only
              go_wp2_with fail
              refine (refPut_any w5 Ob B l ver pos whole _ pq HI5.out.rb HG.out HQ5.out (fun h0 e => by
                rcases (HQF5.out h0 B e).2 with h | h
                · have := (HI5.out.oO' B HI5.out.rb.own).1; omega
                · exact h.2.2.1 HI5.out.rb.own) H8Q.out (by have := HLn.out; omega)).mono ?_
              rw [HR.out]
              rintro e w6 ⟨y, rfl, hy, hyf, Ob2, hB6, hO6, hk6⟩
              dsimp only at hy hB6
              have hI6 := HI5.out.moveB hB6 hO6 hk6
              have hx6 := HX5.out.keptBy hk6 (fun b hb hO => (HXf.out b hb).2.2.1 hO)
              obtain ⟨xa, xc, rfl⟩ := hx6.form_
              have hxf6 : ∀ b, (Value.slice xa out.length xc).ownBlock = some b → Free w u5 Oa2 Ob2 T b := fun b hb => Free.moveB HI5.out hO6 (HXf.out b hb) (HX5.out.lt b hb)
              have hfg6 := Free.moveB HI5.out hO6 HFg5.out (by omega)
              have HI6 := Lib.hid hI6; have HX6 := Lib.hid hx6; have HXf6 := Lib.hid hxf6; have HFg6 := Lib.hid hfg6
              have HY6 := Lib.hid (World.ownsRow.row hy)
              have HL6 := Lib.hid (HL5.out.kept hk6 (fun b hb hO => by rw [HG1.out] at hb; cases hb; exact HFg5.out.2.2.1 hO))
              have HQ6 := Lib.hid (HQ5.out.keptNZ hk6 (fun h0 b hb hO => by
                rcases (HQF5.out (by simpa using h0) b hb).2 with h | h
                · have := (HI5.out.oO' b hO).1; omega
                · exact h.2.2.1 hO))
              have hsm : out.length ≤ 40960 := by have := putC_out (v := ver) (a := pos) (n := whole) HG.out H8Q.out; rw [HR.out] at this; exact this
              have HGl : Hid (GoodC l2) := Lib.hid (by have := HG.out.put (v := ver) (a := pos) (n := whole) H8Q.out; rw [HR.out] at this; exact this)
              have HLl : Hid (l2.length ≤ k + 1) := Lib.hid (by have := putC_length l ver pos whole pq; rw [HR.out] at this; have h := HLn.out; simp only at this; omega)
              obtain ⟨ya, yc, rfl⟩ := ownsRow.form_ hy
              clear hI6 hx6 hxf6 hfg6 hy hyf hB6 hO6 hk6 b1 b2 b3
              dsimp only
              have e3 : (err != err) = false := by simp
              go_wp2_with fail
              refine (sameBytes_yes w6 _ _ _ _ out out rfl rfl HX6.out.row HY6.out rfl).mono ?_
              rintro e w7 ⟨rfl, hq7⟩
              have kq7 := hq7.kept (fun _ => False)
              have HI7 := Lib.hid (HI6.out.kept kq7 (fun _ h => h.elim)); have HX7 := Lib.hid (HX6.out.keptBy kq7 (fun _ _ h => h)); have HL7 := Lib.hid (HL6.out.kept kq7 (fun _ _ h => h)); have HQ7 := Lib.hid (HQ6.out.keptNZ kq7 (fun _ _ _ h => h)); clear kq7 hq7
              go_wp2_with fail
              refine (keptBytes_yes w7 vin _ pq.length pq HL7.out HQ7.out).mono ?_
              rintro e w8 ⟨rfl, hq8⟩
              have kq8 := hq8.kept (fun _ => False)
              have HI8 := Lib.hid (HI7.out.kept kq8 (fun _ h => h.elim)); have HX8 := Lib.hid (HX7.out.keptBy kq8 (fun _ _ h => h)); have HL8 := Lib.hid (HL7.out.kept kq8 (fun _ _ h => h)); clear kq8 hq8
              go_wp2_with fail
              refine (overBytes_any w8 vin pq.length pq HL8.out).mono ?_
              rintro e w9 ⟨rfl, hk9⟩
              have HI9 := Lib.hid (HI8.out.kept hk9 (fun b hb => by rw [HG1.out] at hb; cases hb; exact HFg6.out))
              have HX9 := Lib.hid (HX8.out.keptBy hk9 (fun b hb h => by rw [HG1.out] at h; cases h; exact HXg.out _ hb rfl)); clear hk9
              have hus := HI9.out.hus
              by_cases h0 : 0 < out.length
              · have h0z : (0 : Int) < (out.length : Int) := by omega
                have HTv := Lib.hid (ownsRow.keptBy HI9.out.tvr ((Kept.refl (fun _ => False) w9).alloc (.cells #[.slice xa out.length xc] 28)) (fun _ _ h => h))
                go_wp2_with (at_builtin; refine wpList_append_row rfl (.tmp 97) (.tmp 99) 27 rfl 28 Tryz.infoSlU8 Tryz.underlying27 rfl (by decide) u5 us.length us rfl HTv.out _ 1 [.slice xa out.length xc] rfl (Row.lit w9 #[.slice xa out.length xc] 28 1 (by unfold maxLen; omega)) rfl (by simp [Value.oneCell']) (by unfold maxLen; omega) (by omega) ?_; intro tv2 w10 hr10 hc10 _)
                have HI10 := Lib.hid (HI9.out.tell HX9.out HXf6.out hsm (by have := HI.out.hus; omega) _ hr10 hc10); clear hr10 hc10
                go_wp2_with fail
                go_meet
                case rel => exact ⟨m + 1, l2, Oa2, Ob2, _, _, _, HI10.out, HGl.out, HLl.out⟩
              · have h0z : ¬ (0 : Int) < (out.length : Int) := by omega
                go_wp2_with fail
                go_meet
                case rel => exact ⟨m + 1, l2, Oa2, Ob2, T, us, ps, HI9.out, HGl.out, HLl.out⟩
          case rest =>
          clear HRow HI HG HLn HDa HIa HfD d0 d1 d2 d3 d4 d5
          obtain ⟨m2, l2, Oa2, Ob2, T2, us2, ps2, hI, hg, hln⟩ := hcut
          have HI := Lib.hid hI; have HG := Lib.hid hg; have HLn := Lib.hid hln; clear hI hg hln
          have hxl : (openL l2).length ≤ 1000 := by have h1 := openL_length l2; have h2 := HLn.out; omega
          go_wp2_with fail
          refine (progOpen_any wc Oa2 A m2 l2 HI.out.ba (by have := HI.out.hm; omega)).mono ?_
          rintro e w3 ⟨o, rfl, h1, h2, h3⟩
          have HO3 := Lib.hid h1; have HOf := Lib.hid h2; have HB3 := Lib.hid h3; have HI3 := Lib.hid (HI.out.below h3); clear h1 h2 h3
          go_wp2_with fail
          refine (refOpen_any w3 Ob2 B l2 HI3.out.rb (by have := HLn.out; omega)).mono ?_
          rintro e w4 ⟨o2, rfl, h1, h2, h3⟩
          have HP4 := Lib.hid (World.ownsRow.row h1); have HB4 := Lib.hid h3; have HI4 := Lib.hid (HI3.out.below h3); have HO4 := Lib.hid (ownsRow.keptBy HO3.out (Kept.ofFresh h3 (fun _ => False)) (fun _ _ h => h)); clear h1 h2 h3
          go_wp2_with fail
          refine (sameInts_yes w4 _ _ _ _ (openL l2) (openL l2) rfl rfl (World.ownsRow.row HO4.out) HP4.out rfl).mono ?_
          rintro e w5 ⟨rfl, hq5⟩
          have kq5 := hq5.kept (fun _ => False)
          have HI5 := Lib.hid (HI4.out.kept kq5 (fun _ h => h.elim)); have HO5 := Lib.hid (ownsRow.keptBy HO4.out kq5 (fun _ _ h => h)); have HZ5 : Hid (w3.heap.size ≤ w5.heap.size) := Lib.hid (Nat.le_trans HB4.out.size kq5.size); clear kq5 hq5
          go_wp2_with fail
          refine (progOpen_any w5 Oa2 A m2 l2 HI5.out.ba (by have := HI.out.hm; omega)).mono ?_
          rintro e w6 ⟨o3, rfl, h1, h2, h3⟩
          have hlt0 : ∀ b, o.ownBlock = some b → b < w3.heap.size := fun b hb => (HO3.out.lt b hb).2
          have hlt3 : ∀ b, o3.ownBlock = some b → w5.heap.size ≤ b ∧ b < w6.heap.size := fun b hb => ⟨h2 b hb, (h1.lt b hb).2⟩
          have HLt0 := Lib.hid hlt0; have HLt3 := Lib.hid hlt3
          have HO6 := Lib.hid (ownsRow.keptBy HO5.out (Kept.ofFresh h3 (fun _ => False)) (fun _ _ h => h)); have HP6 := Lib.hid h1; have HI6 := Lib.hid (HI5.out.below h3); have HZ6 := Lib.hid h3.size
          obtain ⟨oa, oc, rfl⟩ := ownsRow.form_ HO6.out
          obtain ⟨pa3, pc3, rfl⟩ := ownsRow.form_ h1
          clear h1 h2 h3 hlt0 hlt3
          obtain ⟨L, hL⟩ : ∃ L : Nat → Option Nat, L = fun b => if (Value.slice oa (openL l2).length oc).ownBlock = some b then some 0 else if (Value.slice pa3 (openL l2).length pc3).ownBlock = some b then some 1 else none := ⟨_, rfl⟩
          have hL1 : ∀ b, (Value.slice oa (openL l2).length oc).ownBlock = some b → L b = some 0 := fun b hb => by rw [hL]; simp only; rw [if_pos hb]
          have hL2 : ∀ b, (Value.slice pa3 (openL l2).length pc3).ownBlock = some b → L b = some 1 := fun b hb => by
            have h1 := HLt3.out b hb; have h2 := HZ5.out
            rw [hL]; simp only; rw [if_neg (fun e => by have := HLt0.out b e; omega), if_pos hb]
          have hL3 : ∀ b, L b ≠ none → wc.heap.size ≤ b ∧ b < w6.heap.size := fun b hb => by
            rw [hL] at hb; simp only at hb
            have z5 := HZ5.out; have z6 := HZ6.out; have z3 := HB3.out.size
            split at hb
            · rename_i h; have h1 := HLt0.out b h; have h2 := HOf.out b h; exact ⟨h2, by omega⟩
            · split at hb
              · rename_i h; have h1 := HLt3.out b h; exact ⟨by omega, h1.2⟩
              · exact absurd rfl hb
          have HL1 := Lib.hid hL1; have HL2 := Lib.hid hL2; have HL3 := Lib.hid hL3; clear hL hL1 hL2 hL3
          go_wp2_with fail
          refine (apartInts_any _ _ 2 (fun j => match j with | 0 => (.slice oa (openL l2).length oc) | _ => (.slice pa3 (openL l2).length pc3)) (fun _ => (openL l2).length) L (Row.lit w6 #[.slice oa (openL l2).length oc, .slice pa3 (openL l2).length pc3] 41 2 (by unfold maxLen; omega)) (fun j hj => ?fam) (by omega) (fun _ _ => by omega) (fun b hb => by have := (HL3.out b hb).2; simp; omega)).mono ?_
          case fam =>
            have ka : Kept (fun _ => False) w6 (w6.alloc (.cells #[.slice oa (openL l2).length oc, .slice pa3 (openL l2).length pc3] 41)) := (Kept.refl _ w6).alloc _
            match j, hj with
            | 0, _ => exact ⟨_, (WRow.ofOwns HO6.out).keptBy ka (fun _ _ h => h), fun b hb => HL1.out b hb⟩
            | 1, _ => exact ⟨_, (WRow.ofOwns HP6.out).keptBy ka (fun _ _ h => h), fun b hb => HL2.out b hb⟩
          rintro e w8 ⟨rfl, hk8, -⟩
          have HI8 := Lib.hid ((HI6.out.below ((Below.refl _ w6).alloc (Nat.le_refl _) _)).kept hk8 (fun b hb => HI.out.fresh (HL3.out b hb).1)); clear hk8
          go_wp2_with fail
          go_roundw
          case rel => exact ⟨k + 1, by omega, by omega, by go_num, m2, l2, Oa2, Ob2, T2, us2, ps2, HI8.out, HG.out, HLn.out⟩
          case measure => show ds.length - ((k : Int) + 1).toNat < ds.length - (k : Int).toNat; omega
        · have hp3z : (3000 : Int) < (pc.length : Int) := by omega
          go_wp2_with fail
          refine (awake_any wa).mono ?_
          rintro e w3 ⟨rfl, hb3⟩
          have HB3 := Lib.hid hb3; clear hb3
          go_wp2_with fail
          go_ret
          exact ⟨rfl, HIa.out.bel.trans (HB3.out.mono HIa.out.bel.size)⟩
      · obtain rfl : k = 120 := by omega
        have hkz : ((120 : Nat) : Int) < (ds.length : Int) := by omega
        obtain ⟨m, l, Oa, Ob, T, us, ps, hI, hg, hln⟩ := HL.out
        go_wp2_with fail
        refine (apartTold wr u5 us ps T (World.ownsRow.row hI.tvr) hI.told (by have := hI.hus; omega) (fun p hp => by have := hI.small p hp; omega)).mono ?_
        rintro e w3 ⟨rfl, hk3⟩
        have HB3 := Lib.hid (hI.bel.trans (hk3.below w.heap.size hI.bel.size (fun i hi hs => by have := (hI.oT i hs).1; omega))); clear hk3 hI hg hln
        go_wp2_with fail
        refine (awake_any w3).mono ?_
        rintro e w4 ⟨rfl, hb4⟩
        have HB4 := Lib.hid hb4; clear hb4
        go_wp2_with fail
        go_ret
        exact ⟨rfl, HB3.out.trans (HB4.out.mono HB3.out.size)⟩
    · obtain rfl : k = ds.length := by omega
      obtain ⟨m, l, Oa, Ob, T, us, ps, hI, hg, hln⟩ := HL.out
      go_wp2_with fail
      refine (apartTold wr u5 us ps T (World.ownsRow.row hI.tvr) hI.told (by have := hI.hus; omega) (fun p hp => by have := hI.small p hp; omega)).mono ?_
      rintro e w3 ⟨rfl, hk3⟩
      have HB3 := Lib.hid (hI.bel.trans (hk3.below w.heap.size hI.bel.size (fun i hi hs => by have := (hI.oT i hs).1; omega))); clear hk3 hI hg hln
      go_wp2_with fail
      refine (awake_any w3).mono ?_
      rintro e w4 ⟨rfl, hb4⟩
      have HB4 := Lib.hid hb4; clear hb4
      go_wp2_with fail
      go_ret
      exact ⟨rfl, HB3.out.trans (HB4.out.mono HB3.out.size)⟩

end Go.Proofs.YtmhmhpdpiikjiaaGreat
