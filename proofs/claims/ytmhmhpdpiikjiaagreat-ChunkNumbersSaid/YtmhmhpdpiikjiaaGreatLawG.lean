/- The law ChunkNumbers. -/
import Derived.Test.YtmhmhpdpiikjiaaGreatLawF
import Derived.Deep.RegionHeld3
import Derived.Deep.CutBlock
import Derived.Deep.CutRange
namespace Go.Proofs.YtmhmhpdpiikjiaaGreat
open Go.RowKit

theorem Tryz.infoDo : (Tryz.prog.info? 30).map (fun i => (i.zero, i.size, i.bytes)) = some (some (.agg #[.int .i64 0, .int .i64 0, .int .i64 0, .int .i64 0, .bool false, .slice none 0 0]), 6, 64) := by kernel_rfl

theorem cellsD_len (d : DoM) : (cellsD d).length = 6 := rfl
/-- Steps in a row of one's own. -/
theorem dosAt_of {w : World} {v : Value} {ds : List DoM} {a : Option Addr} {c : Nat} (hv : v = .slice a ds.length c) (hl : ds.length ≤ 1099511627776)
    (hcell : ∀ j, j < (ds.flatMap cellsD).length → ∃ g, a = some ⟨g, 0, none⟩ ∧ w.cell? ⟨g, j, none⟩ = (ds.flatMap cellsD)[j]?) (hok : ∀ d ∈ ds, d.Ok w) : DosAt w v ds := by
  refine ⟨a, c, hv, by omega, fun i hi => ?_, hok⟩
  have hfl : (ds.flatMap cellsD).length = ds.length * 6 := flatR_len cellsD_len ds
  obtain ⟨g, rfl, -⟩ := hcell (i * 6) (by omega)
  refine ⟨g, 0, rfl, fun j hj => ?_⟩
  obtain ⟨g', e, h⟩ := hcell (i * 6 + j) (by omega)
  simp only [Option.some.injEq, Addr.mk.injEq, and_true] at e
  subst e
  rw [Nat.zero_add, h, flatR_get cellsD_len ds i j hi hj]

/-- A piece that a closed step bears: none, or a block of its own. -/
def PcAt (w : World) (v : Value) (p : List Int) : Prop := (v = .slice none 0 0 ∧ p = []) ∨ ∃ g n cs, v = .slice (some ⟨g, 0, none⟩) n n ∧ w.heap[g]? = some (.cells cs 5 (0, 0)) ∧ cs.toList = ints .u8 p ∧ p.length = n ∧ n ≤ 1099511627776
theorem PcAt.row {w : World} {v : Value} {p : List Int} (h : PcAt w v p) : Row w v p.length (ints .u8 p) := by
  rcases h with ⟨rfl, rfl⟩ | ⟨g, n, cs, rfl, hg, hc, hn, hle⟩
  · exact Row.nil w
  · subst hn
    refine ⟨_, p.length, rfl, Nat.le_refl _, by unfold maxLen; omega, by simp, fun j hj => ⟨g, 0, rfl, ?_⟩⟩
    rw [Nat.zero_add, cell_of_row w g j cs _ _ hg, ← hc]; simp
theorem PcAt.kept {w w' : World} {v : Value} {p : List Int} (h : PcAt w v p) {S : Nat → Prop} (k : Kept S w w') (hS : ∀ b, S b → ∀ cs z, w.heap[b]? ≠ some (.cells cs 5 z)) : PcAt w' v p := by
  rcases h with h | ⟨g, n, cs, rfl, hg, r⟩
  · exact Or.inl h
  · exact Or.inr ⟨g, n, cs, rfl, k.heap hg (fun hs => hS g hs _ _ hg), r⟩

/-- A step of the closed law. -/
structure DoM.Good (w : World) (d : DoM) : Prop where
  op : Int64 d.op
  ver : Int64 d.ver
  pos : Int64 d.pos
  whole : Int64 d.whole
  by8 : Bytes8 d.pc
  row : PcAt w d.pv d.pc
theorem DoM.Good.ok {w : World} {d : DoM} (h : d.Good w) : d.Ok w := ⟨h.op, h.ver, h.pos, h.whole, h.by8, h.row.row⟩
theorem DoM.Good.kept {w w' : World} {d : DoM} (h : d.Good w) {S : Nat → Prop} (k : Kept S w w') (hS : ∀ b, S b → ∀ cs z, w.heap[b]? ≠ some (.cells cs 5 z)) : d.Good w' := ⟨h.op, h.ver, h.pos, h.whole, h.by8, h.row.kept k hS⟩

def numsL : List Int := [-9223372036854775808, -1, 0, 1, 2, 3, 39, 40, 41, 1073741823, 1073741824, 1073741825, 9223372036854775807]
theorem numsL_64 (i : Nat) (h : i < 13) : Int64 (numsL.getD i 0) := by
  have : ∀ i, i < 13 → Int64 (numsL.getD i 0) := by
    intro i hi
    unfold Int64
    match i, hi with
    | 0, _ => decide
    | 1, _ => decide
    | 2, _ => decide
    | 3, _ => decide
    | 4, _ => decide
    | 5, _ => decide
    | 6, _ => decide
    | 7, _ => decide
    | 8, _ => decide
    | 9, _ => decide
    | 10, _ => decide
    | 11, _ => decide
    | 12, _ => decide
  exact this i h
theorem wrap_64 (x : Int) : Int64 (IntKind.i64.wrap x) := by unfold Int64; rw [IntKind.wrap_i64]; omega

/-- The four steps that a round lays. -/
def dosK (x z y : Int) (g : Nat) : List DoM := [⟨0, x, z, y, false, .slice (some ⟨g, 0, none⟩) 1 1, [1]⟩, ⟨0, x, y, 40, true, .slice none 0 0, []⟩, ⟨0, 3, x, y, true, .slice none 0 0, []⟩, ⟨4, y, 0, 0, false, .slice none 0 0, []⟩]
theorem dosK_len (x z y : Int) (g : Nat) : ((dosK x z y g).flatMap cellsD).length = 4 * 6 := rfl
theorem dosK_one (x z y : Int) (g : Nat) : ∀ u ∈ (dosK x z y g).flatMap cellsD, u.oneCell' = true := by
  intro u hu
  simp only [dosK, cellsD, List.flatMap_cons, List.flatMap_nil, List.append_nil, List.cons_append, List.nil_append, List.mem_cons, List.not_mem_nil, or_false] at hu
  rcases hu with h | h | h | h | h | h | h | h | h | h | h | h | h | h | h | h | h | h | h | h | h | h | h | h <;> (rw [h]; rfl)
theorem Row.lit' (w : World) (cs : Array Value) (e : TypeId) (n g : Nat) (hg : g = w.heap.size) (h : n ≤ maxLen) : Row ((w.alloc (.cells cs e)).drew) (.slice (some ⟨g, 0, none⟩) n n) n cs.toList := by
  subst hg; exact Quiet.row ((Quiet.refl _).drew) (Row.lit w cs e n h)
theorem small64 (x : Int) (h : 0 ≤ x ∧ x ≤ 100) : Int64 x := ⟨by omega, by omega⟩
theorem nums_step {w wr w2 : World} {la : Option Addr} {lc n : Nat} {ds : List DoM} {x z y : Int} {v2 : Value} {o : Obj} {C : Array Value} (h1 : wr.ownsRow 0 30 6 (.slice la n lc) n (ds.flatMap cellsD)) (h2 : ∀ b, (Value.slice la n lc).ownBlock = some b → w.heap.size < b) (h3 : ∀ d ∈ ds, d.Good wr) (h4 : Below w.heap.size w wr)
    (h5 : wr.heap[w.heap.size]? = some (.cells C 3 (0, 0))) (hx : Int64 x) (hz : Int64 z) (hy : Int64 y) (hc : AppCase (((wr.alloc (.cells #[.int .u8 1] 5)).alloc o).drew) w2 (.slice la n lc) v2) :
    (∀ b, v2.ownBlock = some b → w.heap.size < b) ∧ (∀ d ∈ ds ++ dosK x z y wr.heap.size, d.Good w2) ∧ Below w.heap.size w w2 ∧ w2.heap[w.heap.size]? = some (.cells C 3 (0, 0)) := by
  have hlt := lt_of_block h5
  have hsz : (((wr.alloc (.cells #[.int .u8 1] 5)).alloc o).drew).heap.size = wr.heap.size + 2 := by simp
  have hbl : ∀ b, (Value.slice la n lc).ownBlock = some b → b < wr.heap.size := fun b hb => (h1.lt b hb).2
  have k0 : Kept (fun b => (Value.slice la n lc).ownBlock = some b) (((wr.alloc (.cells #[.int .u8 1] 5)).alloc o).drew) w2 := (Kept.ofGrown hc.grown).mono (fun _ h => h)
  have kk : Kept (fun b => (Value.slice la n lc).ownBlock = some b) wr w2 := (((Kept.refl _ wr).alloc _).alloc _).drew.trans k0
  refine ⟨fun b hb => ?_, fun d hd => ?_, h4.trans (kk.below _ h4.size (fun i hi e => by have := h2 i e; omega)), kk.heap h5 (fun e => by have := h2 _ e; omega)⟩
  · rcases hc with ⟨c1, -⟩ | ⟨c1, -⟩
    · exact h2 b (by rw [← c1]; exact hb)
    · rw [c1] at hb; cases hb; omega
  · rcases List.mem_append.1 hd with h | h
    · refine (h3 d h).kept kk (fun b hb cs z hh => ?_)
      obtain ⟨-, -, -, cur, h6, -⟩ := ownsRow.someOf h1 hb
      rw [h6] at hh
      simp only [Option.some.injEq, Obj.cells.injEq] at hh
      exact absurd hh.2.1 (by decide)
    · have hp : w2.heap[wr.heap.size]? = some (.cells #[.int .u8 1] 5 (0, 0)) := by
        rw [k0.block _ (by rw [hsz]; omega) (fun e => by have := hbl _ e; omega)]
        exact (Below.heap_alloc (wr.alloc (.cells #[.int .u8 1] 5)) o _ (by simp)).trans (heap_alloc_new wr _)
      have hn : PcAt w2 (.slice none 0 0) [] := Or.inl ⟨rfl, rfl⟩
      have e8 : Bytes8 [] := fun _ h => by cases h
      simp only [dosK, List.mem_cons, List.not_mem_nil, or_false] at h
      rcases h with rfl | rfl | rfl | rfl
      · exact ⟨small64 0 (by omega), hx, hz, hy, one8 1 (by omega), Or.inr ⟨_, 1, _, rfl, hp, rfl, rfl, by omega⟩⟩
      · exact ⟨small64 0 (by omega), hx, hy, small64 40 (by omega), e8, hn⟩
      · exact ⟨small64 0 (by omega), small64 3 (by omega), hx, hy, e8, hn⟩
      · exact ⟨small64 4 (by omega), hy, small64 0 (by omega), small64 0 (by omega), e8, hn⟩

theorem heap_alloc2 (w : World) (o1 o2 : Obj) : ((w.alloc o1).alloc o2).heap[w.heap.size + 1]? = some o2 := by
  have := heap_alloc_new (w.alloc o1) o2
  rw [World.size_alloc] at this; exact this
theorem heap_alloc1 (w : World) (o1 o2 : Obj) : ((w.alloc o1).alloc o2).heap[w.heap.size]? = some o1 :=
  (Below.heap_alloc (w.alloc o1) o2 _ (by simp)).trans (heap_alloc_new w o1)
theorem below_alloc2 (w : World) (o1 o2 : Obj) : Below w.heap.size w ((w.alloc o1).alloc o2) := ((Below.refl _ w).alloc (Nat.le_refl _) _).alloc (by simp) _
/-- Two steps, as a literal gives them. -/
theorem dos2_at {W : World} {g : Nat} {d1 d2 : DoM} (hg : W.heap[g]? = some (.cells ([d1, d2].flatMap cellsD).toArray 30 (0, 0))) (h1 : d1.Good W) (h2 : d2.Good W) : DosAt W (.slice (some ⟨g, 0, none⟩) 2 2) [d1, d2] :=
  dosAt_of (a := some ⟨g, 0, none⟩) (c := 2) rfl (by simp) (fun j hj => ⟨g, rfl, by rw [cell_of_row W g j _ _ _ hg]; simp⟩) (by intro d hd; simp only [List.mem_cons, List.not_mem_nil, or_false] at hd; rcases hd with rfl | rfl; exact h1.ok; exact h2.ok)
theorem cut_row (w : World) (C : Array Value) (M : Nat) (hC : C.toList = ints .u8 (List.replicate M 0)) (hM : M ≤ 1099511627776) : Row (w.alloc (.cells C 5)) (.slice (some ⟨w.heap.size, 0, none⟩) M M) M (ints .u8 (List.replicate M 0)) := by
  rw [← hC]; exact Row.lit w C _ M (by unfold maxLen; omega)
theorem mul_small (K n : Nat) (hK : K ≤ 1027) (hn : n < 2) : ∃ M : Nat, wrap64 ((K : Int) * (2 - (n : Int))) = (M : Int) ∧ M ≤ 2054 := by
  rcases (show n = 0 ∨ n = 1 by omega) with rfl | rfl
  · have e : (K : Int) * (2 - ((0 : Nat) : Int)) = (K : Int) * 2 := by simp
    exact ⟨K * 2, by rw [e, IntWalk.wrap64_in _ ⟨by omega, by omega⟩]; omega, by omega⟩
  · have e : (K : Int) * (2 - ((1 : Nat) : Int)) = (K : Int) := by simp
    exact ⟨K, by rw [e, IntWalk.wrap64_in _ ⟨by omega, by omega⟩], by omega⟩
theorem rep8 (n : Nat) : Bytes8 (List.replicate n 0) := by intro y hy; have := List.eq_of_mem_replicate hy; omega

set_option maxRecDepth 100000 in
set_option maxHeartbeats 2000000 in
theorem chunkNumbers_any (w : World) : Calls Tryz.prog 5 #[] w fun e w' => e = .returned (.bool true) ∧ Below w.heap.size w w' := by
  go_enter Tryz.func5, Tryz.ntmps5
  have hdef : (ints .i64 numsL).toArray = #[Value.int .i64 (-9223372036854775808), Value.int .i64 (-1), Value.int .i64 0, Value.int .i64 1, Value.int .i64 2, Value.int .i64 3, Value.int .i64 39, Value.int .i64 40, Value.int .i64 41, Value.int .i64 1073741823, Value.int .i64 1073741824, Value.int .i64 1073741825, Value.int .i64 9223372036854775807] := rfl
  have HDef := Lib.hid hdef; clear hdef
  go_wp2_with fail
  rw [← HDef.out]
  have hnums : (w.alloc (.cells (ints .i64 numsL).toArray 3)).heap[w.heap.size]? = some (.cells (ints .i64 numsL).toArray 3 (0, 0)) := heap_alloc_new w _
  have hb0 : Below w.heap.size w (w.alloc (.cells (ints .i64 numsL).toArray 3)) := (Below.refl _ w).alloc (Nat.le_refl _) _
  generalize w.alloc (.cells (ints .i64 numsL).toArray 3) = w0 at hnums hb0 ⊢
  have HN := Lib.hid hnums; have HB0 := Lib.hid hb0; clear hnums hb0
  have hnum : ∀ (W : World), W.heap[w.heap.size]? = some (.cells (ints .i64 numsL).toArray 3 (0, 0)) → ∀ i, i < 13 → W.cell? ⟨w.heap.size, i, none⟩ = some (.int .i64 (numsL.getD i 0)) := by
    intro W hW i hi
    rw [cell_of_row W w.heap.size i _ _ _ hW]
    have hl : numsL.length = 13 := rfl
    simp [List.getElem?_map, List.getElem?_eq_getElem (show i < numsL.length by omega), List.getD_eq_getElem?_getD]
  have HNum := Lib.hid hnum; clear hnum
  go_loopw [2] (fun iv wr => ∃ i : Nat, i ≤ 13 ∧ iv = .int .i64 i ∧ Below w.heap.size w wr ∧ wr.heap[w.heap.size]? = some (.cells (ints .i64 numsL).toArray 3 (0, 0))) (fun iv _ => 13 - (RowKit.intOf iv).toNat)
  case atStart => exact ⟨0, by omega, rfl, HB0.out, HN.out⟩
  case round =>
    obtain ⟨i, hi, rfl, hb, hn⟩ := hrel
    have HB := Lib.hid hb; have HNr := Lib.hid hn; clear hb hn
    by_cases hi13 : i < 13
    · have hiz : (0 : Int) ≤ (i : Int) := Int.natCast_nonneg _
      have hiz2 : (i : Int) < 13 := by omega
      have hx64 := numsL_64 i hi13
      obtain ⟨wo, rfl⟩ : ∃ wo : World, wo = wr := ⟨_, rfl⟩
      have hxo := fun (W : World) h => HNum.out W h i hi13
      generalize numsL.getD i 0 = x at hx64 hxo
      have HX64 := Lib.hid hx64; have HXo := Lib.hid hxo; clear hx64 hxo
      go_wp2_with fail
      go_loopw [3, 4] (fun lv kv wk => ∃ (k n : Nat) (ds : List DoM), k ≤ 13 ∧ kv = .int .i64 k ∧ Hid (ds.length = n ∧ n = 4 * k) ∧ wk.ownsRow 0 30 6 lv n (ds.flatMap cellsD) ∧ (∀ b, lv.ownBlock = some b → w.heap.size < b) ∧ (∀ d ∈ ds, d.Good wk) ∧ Below w.heap.size w wk ∧ wk.heap[w.heap.size]? = some (.cells (ints .i64 numsL).toArray 3 (0, 0))) (fun _ kv _ => 13 - (RowKit.intOf kv).toNat)
      case atStart => exact ⟨0, 0, [], by omega, rfl, Lib.hid ⟨rfl, rfl⟩, World.ownsRow_nil _ _ _ _, by simp [Value.ownBlock], by simp, HB.out, HNr.out⟩
      case round =>
        obtain ⟨k, n, ds, hk, rfl, HD, h1, h2, h3, h4, h5⟩ := hrel
        have H1 := Lib.hid h1; have H2 := Lib.hid h2; have H3 := Lib.hid h3; have H4 := Lib.hid h4; have H5 := Lib.hid h5
        have hx := HXo.out _ h5
        have hn52 : n ≤ 52 := by have := HD.out; omega
        have hwk : w.heap.size < wr.heap.size := lt_of_block h5
        clear h1 h2 h3 h4 h5
        by_cases hk13 : k < 13
        · have hy := HNum.out _ H5.out k hk13
          have hy64 := numsL_64 k hk13
          generalize numsL.getD k 0 = y at hy hy64
          have HY64 := Lib.hid hy64; clear hy64
          obtain ⟨la, lc, rfl⟩ := ownsRow.form_ H1.out
          go_wp2_with fail
          have hkb : wr.cell? ⟨w.heap.size, k, none⟩ = some (.int .i64 y) := hy
          have hkz : (0 : Int) ≤ (k : Int) := Int.natCast_nonneg _
          have hkz2 : (k : Int) < 13 := by omega
          go_region_held3 (fun w' => w'.cell? ⟨w.heap.size, i, none⟩ = some (.int .i64 x) ∧ w'.cell? ⟨w.heap.size, k, none⟩ = some (.int .i64 y))
            (go_keep)
            ((refine step_append_row rfl _ _ 22 rfl 30 Tryz.infoDo Tryz.underlying22 rfl (by decide) (.slice la n lc) n (ds.flatMap cellsD) rfl (ownsRow.keptBy H1.out (((Kept.refl (fun _ => False) wr).alloc _).alloc _).drew (fun _ _ h => h)) (.slice (some ⟨wr.heap.size + 1, 0, none⟩) 4 4) 4 ((dosK x (IntKind.i64.wrap (y - 1)) y wr.heap.size).flatMap cellsD) rfl (Row.lit' _ _ _ 4 (wr.heap.size + 1) (by simp) (by unfold maxLen; omega)) (dosK_len _ _ _ _) (dosK_one _ _ _ _) (by unfold maxLen; omega) (by omega) ?_
              intro v2 w2 hr2 hc2 _
              obtain ⟨g1, g2, g3, g4⟩ := nums_step H1.out H2.out H3.out H4.out H5.out HX64.out (wrap_64 (y - 1)) HY64.out hc2
              have hx2 := HXo.out _ g4
              have hy2 : w2.cell? ⟨w.heap.size, k, none⟩ = some (.int .i64 y) := by rw [← hkb]; exact (World.cell?_of_block (w := wr) (a := ⟨w.heap.size, k, none⟩) (g4.trans H5.out.symm))
              have HR2 := Lib.hid hr2; have G1 := Lib.hid g1; have G2 := Lib.hid g2; have G3 := Lib.hid g3; have G4 := Lib.hid g4; clear hr2 hc2 g1 g2 g3 g4))
          all_goals
            go_wp2_with fail
            go_roundw
            case rel => exact ⟨k + 1, n + 4, ds ++ dosK x (IntKind.i64.wrap (y - 1)) y wr.heap.size, by omega, by go_num, Lib.hid (by have := HD.out; simp [dosK]; omega), by rw [List.flatMap_append]; exact HR2.out, G1.out, G2.out, G3.out, G4.out⟩
            case measure => show 13 - ((k : Int) + 1).toNat < 13 - (k : Int).toNat; omega
        · obtain rfl : k = 13 := by omega
          obtain ⟨hdn, hn4⟩ := HD.out
          subst hdn
          obtain ⟨la, lc, rfl⟩ := ownsRow.form_ H1.out
          have hdos : DosAt wr (.slice la ds.length lc) ds := by
            obtain ⟨a', c', e, hs⟩ := ownsRow.shape H1.out
            cases e
            exact dosAt_of rfl (by have := hn4; omega) (fun j hj => hs j (by rw [← H1.out.1]; exact hj)) (fun d hd => (H3.out d hd).ok)
          have HN4 := Lib.hid hn4; have HDos := Lib.hid hdos; clear hn4 hdos
          go_wp2_with fail
          refine (chunkLives_any wr _ ds HDos.out).mono ?_
          rintro e w3 ⟨rfl, hb3⟩
          have HB3 := Lib.hid hb3; clear hb3 hx
          go_wp2_with fail
          go_roundw
          case rel => exact ⟨i + 1, by omega, by go_num, H4.out.trans (HB3.out.mono H4.out.size), (HB3.out.block _ hwk).trans H5.out⟩
          case measure => show 13 - ((i : Int) + 1).toNat < 13 - (i : Int).toNat; omega
    · have hi13z : ¬ (i : Int) < 13 := by omega
      go_upto_block 4 with (fail)
      have hmkA : ∀ K : Nat, K ≤ 1027 → ∀ w' : World, (Instr.makeSlice 28 (.int .i64 (K : Int)) (.int .i64 (K : Int))).run Tryz.prog w' = .ok (.slice (some ⟨w'.heap.size, 0, none⟩) K K) (w'.alloc (.cells (ints .u8 (List.replicate K 0)).toArray 5)) := fun K hK w' => run_make_u8 w' K K rfl (by omega)
      have HMk := Lib.hid hmkA; clear hmkA
      have HBel : Hid (Below w.heap.size w wr) := HB
      clear HNr HB HNum HN HB0 HDef
      go_wp2_with fail
      go_loopw [5] (fun nv wk => ∃ n : Nat, n ≤ 2 ∧ nv = .int .i64 n ∧ Below w.heap.size w wk) (fun nv _ => 2 - (RowKit.intOf nv).toNat)
      case atStart => exact ⟨0, by omega, rfl, HBel.out⟩
      case round =>
        obtain ⟨n, hn, rfl, hb⟩ := hrel
        have HBn := Lib.hid hb; clear hb HBel
        by_cases hn2 : n < 2
        · have hnz : (0 : Int) ≤ (n : Int) := Int.natCast_nonneg _
          have hnz2 : (n : Int) < 2 := by omega
          obtain ⟨wo, rfl⟩ : ∃ wo : World, wo = wr := ⟨_, rfl⟩
          go_wp2_with fail
          go_loopw [6] (fun kv wk => ∃ K : Nat, 1022 ≤ K ∧ K ≤ 1027 ∧ kv = .int .i64 K ∧ Below w.heap.size w wk) (fun kv _ => 1027 - (RowKit.intOf kv).toNat)
          case atStart => exact ⟨1022, by omega, by omega, rfl, HBn.out⟩
          case round =>
            obtain ⟨K, hK1, hK2, rfl, hb⟩ := hrel
            have HBk := Lib.hid hb; clear hb
            by_cases hK : K < 1027
            · have hKz : (K : Int) < 1027 := by omega
              have hKz1 : (1022 : Int) ≤ (K : Int) := by omega
              have hmk := HMk.out K (by omega)
              have hCs : (ints .u8 (List.replicate K 0)).toArray.toList = ints .u8 (List.replicate K 0) := rfl
              generalize (ints .u8 (List.replicate K 0)).toArray = C at hmk hCs
              have HCs := Lib.hid hCs; clear hCs
              go_wp2_with fail
              refine (chunkLives_any _ _ [⟨0, 1, n, 2, false, .slice (some ⟨wr.heap.size, 0, none⟩) K K, List.replicate K 0⟩, ⟨0, 1, 1 - n, 2, true, .slice none 0 0, []⟩] (dos2_at (g := wr.heap.size + 1) (heap_alloc2 _ _ _)
                ⟨small64 0 (by omega), small64 1 (by omega), small64 n (by omega), small64 2 (by omega), rep8 K, Or.inr ⟨_, K, C, rfl, heap_alloc1 _ _ _, HCs.out, by simp, by omega⟩⟩
                ⟨small64 0 (by omega), small64 1 (by omega), small64 (1 - n) (by omega), small64 2 (by omega), (fun _ h => by cases h), Or.inl ⟨rfl, rfl⟩⟩)).mono ?_
              rintro e w3 ⟨rfl, hb3⟩
              have hb3' : Below wr.heap.size wr w3 := (below_alloc2 wr _ _).trans (hb3.mono (by simp; omega))
              have HB3 := Lib.hid hb3'; clear hb3 hb3' hmk
              obtain ⟨M, hM, hM2⟩ := mul_small K n (by omega) hn2
              have hmk2 := fun w' : World => run_make_u8 w' _ M hM (by omega)
              have hCs2 : (ints .u8 (List.replicate M 0)).toArray.toList = ints .u8 (List.replicate M 0) := rfl
              generalize (ints .u8 (List.replicate M 0)).toArray = C2 at hmk2 hCs2
              have HCs2 := Lib.hid hCs2; clear hCs2 hM
              go_wp2_with fail
              refine (chunkCuts_any _ _ M (List.replicate M 0) (by simp) (cut_row w3 C2 M HCs2.out (by omega))).mono ?_
              rintro e w4 ⟨rfl, hb4⟩
              have hb4' : Below w3.heap.size w3 w4 := ((Below.refl _ w3).alloc (Nat.le_refl _) _).trans (hb4.mono (by simp))
              have HB4 := Lib.hid (HB3.out.trans (hb4'.mono HB3.out.size)); clear hb4 hb4' hmk2
              go_wp2_with fail
              go_roundw
              case rel => exact ⟨K + 1, by omega, by omega, by go_num, HBk.out.trans (HB4.out.mono HBk.out.size)⟩
              case measure => show 1027 - ((K : Int) + 1).toNat < 1027 - (K : Int).toNat; omega
            · obtain rfl : K = 1027 := by omega
              go_wp2_with fail
              go_roundw
              case rel => exact ⟨n + 1, by omega, by go_num, HBk.out⟩
              case measure => show 2 - ((n : Int) + 1).toNat < 2 - (n : Int).toNat; omega
        · obtain rfl : n = 2 := by omega
          have hCs : (ints .u8 (List.replicate 40960 0)).toArray.toList = ints .u8 (List.replicate 40960 0) := rfl
          have hmk3 := fun w' : World => run_make_u8 w' 40960 40960 (by omega) (by omega)
          generalize (ints .u8 (List.replicate 40960 0)).toArray = C3 at hmk3 hCs
          have HCs := Lib.hid hCs; clear hCs
          go_wp2_with fail
          refine (chunkCuts_any wr _ 0 [] rfl (Row.nil _)).mono ?_
          rintro e w3 ⟨rfl, hb3⟩
          have HB3 := Lib.hid (HBn.out.trans (hb3.mono HBn.out.size)); clear hb3
          go_wp2_with fail
          refine (chunkCuts_any _ _ 40960 (List.replicate 40960 0) List.length_replicate (cut_row w3 C3 40960 HCs.out (by omega))).mono ?_
          rintro e w4 ⟨rfl, hb4⟩
          have hb4' : Below w3.heap.size w3 w4 := ((Below.refl _ w3).alloc (Nat.le_refl _) _).trans (hb4.mono (by simp))
          have HB4 := Lib.hid (HB3.out.trans (hb4'.mono HB3.out.size)); clear hb4 hb4' hmk3
          go_wp2_with fail
          refine (chunkLives_any _ _ [⟨0, 1, 0, 1, false, .slice none 0 0, []⟩, ⟨0, 1, 0, 1, false, .slice (some ⟨w4.heap.size, 0, none⟩) 1 1, [7]⟩] (dos2_at (g := w4.heap.size + 1) (heap_alloc2 _ _ _)
            ⟨small64 0 (by omega), small64 1 (by omega), small64 0 (by omega), small64 1 (by omega), (fun _ h => by cases h), Or.inl ⟨rfl, rfl⟩⟩
            ⟨small64 0 (by omega), small64 1 (by omega), small64 0 (by omega), small64 1 (by omega), one8 7 (by omega), Or.inr ⟨_, 1, #[.int .u8 7], rfl, heap_alloc1 _ _ _, rfl, rfl, by omega⟩⟩)).mono ?_
          rintro e w5 ⟨rfl, hb5⟩
          have hb5' : Below w4.heap.size w4 w5 := (below_alloc2 w4 _ _).trans (hb5.mono (by simp; omega))
          have HB5 := Lib.hid (HB4.out.trans (hb5'.mono HB4.out.size)); clear hb5 hb5'
          go_wp2_with fail
          refine (awake_any w5).mono ?_
          rintro e w6 ⟨rfl, hb6⟩
          have HB6 := Lib.hid hb6; clear hb6
          go_wp2_with fail
          go_ret
          exact ⟨rfl, HB5.out.trans (HB6.out.mono HB5.out.size)⟩

end Go.Proofs.YtmhmhpdpiikjiaaGreat
