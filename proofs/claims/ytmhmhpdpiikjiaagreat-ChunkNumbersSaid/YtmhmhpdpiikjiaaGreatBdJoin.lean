/- bytes.Join of lists of one byte or more, with nothing between. -/
import Derived.Test.YtmhmhpdpiikjiaaGreatRefC
import Derived.Test.YtmhmhpdpiikjiaaGreatWRow
import Derived.Lib.MakeNoZero
import Derived.Laws.Externs
import Derived.Laws.CopyOwn
namespace Go.Proofs.YtmhmhpdpiikjiaaGreat
open Go.RowKit

theorem makeNoZero_any (w : World) (T : Nat) (hT : T ≤ 281474976710656) : ∃ cs : Array Value, (callFunc 69 #[.int .i64 (T : Int)]).run Tryz.prog w = .ok (.value (.slice (some ⟨w.heap.size, 0, none⟩) T cs.size)) ((w.alloc (.cells cs 5)).drewN 2) ∧ T ≤ cs.size ∧ (T ≤ maxLen → cs.size ≤ maxLen) := by
  obtain ⟨cs, h1, h2, h3⟩ := Lib.run_makeNoZero (P := Tryz.prog) w #[3] 28 5 Tryz.underlying28 T hT
  refine ⟨cs, ?_, h2, h3⟩
  rw [run_callFunc_extern Tryz.func69 (by kernel_rfl) (by kernel_rfl) (by kernel_rfl) (e := Extern.BytealgMakeNoZero.makeNoZero #[3] #[28]) (by kernel_rfl), h1]
  rfl

theorem Tryz.sizeU8 : (Tryz.prog.info? 5).map (·.size) = some 1 := by kernel_rfl
theorem Row.getI {w : World} {b o n c : Nat} {k : IntKind} {q : List Int} (h : Row w (.slice (some ⟨b, o, none⟩) n c) n (ints k q)) (j : Nat) (a : Int) (ha : q[j]? = some a) : w.cell? ⟨b, o + j, none⟩ = some (.int k a) := by
  obtain ⟨a1, c1, h3, -, -, -, h4⟩ := h
  simp only [Value.slice.injEq, true_and] at h3
  obtain ⟨rfl, rfl⟩ := h3
  have hj := (List.getElem?_eq_some_iff.1 ha).1
  obtain ⟨b', o', h5, h6⟩ := h4 j (by simpa using hj)
  simp only [Option.some.injEq, Addr.mk.injEq, and_true] at h5
  obtain ⟨rfl, rfl⟩ := h5
  rw [h6]; simp [ha]
theorem flat_succ (qs : List (List Int)) (i : Nat) (h : i < qs.length) : (qs.take (i + 1)).flatten = (qs.take i).flatten ++ qs[i] := by
  rw [List.take_succ_eq_append_getElem h, List.flatten_append]; simp
theorem flat_le (qs : List (List Int)) (i : Nat) : (qs.take i).flatten.length ≤ qs.flatten.length := by
  have h : (qs.take i).flatten ++ (qs.drop i).flatten = qs.flatten := by rw [← List.flatten_append, List.take_append_drop]
  rw [← h, List.length_append]; omega
theorem splice_take {α : Type} (L : List α) (off : Nat) (cs : List α) (h : off + cs.length ≤ L.length) : (splice L off cs).take (off + cs.length) = L.take off ++ cs := by
  unfold splice
  rw [← List.append_assoc]
  refine List.take_left' ?_
  rw [List.length_append, List.length_take, Nat.min_eq_left (by omega)]

/-- What is to be joined. -/
structure Parts (w : World) (b off n : Nat) (us : List Value) (qs : List (List Int)) : Prop where
  lu : us.length = n
  lq : qs.length = n
  cell : ∀ i (h : i < us.length), w.cell? ⟨b, off + i, none⟩ = some us[i]
  row : ∀ i (h : i < us.length) (h' : i < qs.length), Row w us[i] qs[i].length (ints .u8 qs[i]) ∧ 1 ≤ qs[i].length ∧ qs[i].length ≤ 1024
  lt : 0 < n → b < w.heap.size
theorem Parts.at {w : World} {b off n : Nat} {us : List Value} {qs : List (List Int)} (h : Parts w b off n us qs) (i : Nat) (hi : i < n) :
    ∃ b' o' c' q, qs[i]? = some q ∧ w.cell? ⟨b, off + i, none⟩ = some (.slice (some ⟨b', o', none⟩) q.length c') ∧ Row w (.slice (some ⟨b', o', none⟩) q.length c') q.length (ints .u8 q) ∧ 1 ≤ q.length ∧ q.length ≤ 1024 ∧ (qs.take (i + 1)).flatten = (qs.take i).flatten ++ q := by
  have h1 : i < us.length := by rw [h.lu]; exact hi
  have h2 : i < qs.length := by rw [h.lq]; exact hi
  obtain ⟨hr, h3, h4⟩ := h.row i h1 h2
  obtain ⟨b', o', c', hv⟩ := hr.some_of (by simp; omega)
  refine ⟨b', o', c', qs[i], by simp [h2], ?_, ?_, h3, h4, flat_succ qs i h2⟩
  · rw [h.cell i h1, hv]
  · rw [hv] at hr; exact hr
theorem flat_bound {qs : List (List Int)} (h : ∀ q ∈ qs, q.length ≤ 1024) : qs.flatten.length ≤ qs.length * 1024 := by
  induction qs with
  | nil => simp
  | cons q r ih =>
    have h1 := h q (by simp)
    have h2 := ih (fun x hx => h x (by simp [hx]))
    simp only [List.flatten_cons, List.length_append, List.length_cons]
    omega

set_option maxRecDepth 100000 in
set_option maxHeartbeats 4000000 in
theorem join_any (w : World) (b off c n : Nat) (us : List Value) (qs : List (List Int)) (hP : Parts w b off n us qs) (hn1 : 1 ≤ n) (hn2 : n ≤ 40) (hc : n ≤ c) :
    Calls Tryz.prog 43 #[.slice (some ⟨b, off, none⟩) n c, .slice none 0 0] w fun e w' => ∃ x, e = .returned x ∧ WRow w' 5 x qs.flatten.length (ints .u8 qs.flatten) ∧ (∀ g, x.ownBlock = some g → w.heap.size ≤ g) ∧ Below w.heap.size w w' := by
  have hT : qs.flatten.length ≤ 40960 := by
    have := flat_bound (qs := qs) (fun q hq => by
      obtain ⟨i, hi, rfl⟩ := List.mem_iff_getElem.1 hq
      exact (hP.row i (by rw [hP.lu, ← hP.lq]; exact hi) hi).2.2)
    rw [hP.lq] at this
    omega
  have hall : (qs.take n).flatten = qs.flatten := by rw [← hP.lq, List.take_length]
  have hfle := fun i => flat_le qs i
  generalize qs.flatten = Z at hT hall hfle ⊢
  have HP := Lib.hid hP; have HAll := Lib.hid hall; have HFle := Lib.hid hfle; clear hP hall hfle
  have hblt := HP.out.lt hn1
  go_enter Tryz.func43, Tryz.ntmps43
  by_cases h1 : n = 1
  · subst h1
    obtain ⟨b0, o0, c0, q0, hq0, hcell0, hrow0, hl1, hl2, hfl⟩ := HP.out.at 0 (by omega)
    have HR0 := Lib.hid hrow0
    have HF : Hid (Z = q0) := Lib.hid (by rw [← HAll.out, hfl]; simp)
    rw [Nat.add_zero] at hcell0
    clear hrow0 hfl hq0
    go_wp2_with (at_builtin; refine wpList_append_row rfl _ _ 28 rfl 5 Tryz.infoU8 Tryz.underlying28 rfl (by decide) _ 0 [] rfl (World.ownsRow_nil _ _ _ _) (.slice (some ⟨b0, o0, none⟩) q0.length c0) q0.length (ints .u8 q0) rfl HR0.out (by simp) (ints_one _ _) ?a1 ?a2 ?aK)
    case a1 => unfold maxLen; omega
    case a2 => omega
    intro v' w1 hown hc1 _
    obtain ⟨hb1, hf1⟩ := AppCase.fresh (w := w) (Below.refl _ _) hc1 (fun b hb => by simp [Value.ownBlock] at hb)
    have HO := Lib.hid hown; have HB1 := Lib.hid hb1; have HF1 := Lib.hid hf1; clear hown hc1 hb1 hf1
    go_wp2_with fail
    go_ret
    exact ⟨_, rfl, by rw [HF.out]; exact WRow.ofOwns HO.out, HF1.out, HB1.out⟩
  · have f0 : ((n : Int) == 0) = false := beq_eq_false_iff_ne.2 (by omega)
    have f1 : ((n : Int) == 1) = false := beq_eq_false_iff_ne.2 (by omega)
    have h2n : 2 ≤ n := by omega
    generalize hT0 : Z.length = T at hT ⊢
    have HT0 := Lib.hid hT0; clear hT0
    go_wp2_with fail
    go_loop [5, 44] (fun s5 s44 => ∃ i : Nat, i ≤ n ∧ s44 = .int .i64 i ∧ s5 = .int .i64 ((qs.take i).flatten.length : Nat)) (fun _ s44 => n - (intOf s44).toNat)
    case atStart => exact ⟨0, by omega, rfl, rfl⟩
    case round =>
      obtain ⟨i, hi, rfl, rfl⟩ := hrel
      by_cases hlt : i < n
      · obtain ⟨b0, o0, c0, q0, hq0, hcell0, hrow0, hl1, hl2, hfl⟩ := HP.out.at i hlt
        have hle := HFle.out (i + 1)
        rw [HT0.out, hfl, List.length_append] at hle
        have hfl' : (qs.take (i + 1)).flatten.length = (qs.take i).flatten.length + q0.length := by rw [hfl, List.length_append]
        generalize (qs.take i).flatten.length = acc at hle hfl' ⊢
        have HFL := Lib.hid hfl'
        clear hrow0 hfl hfl' hq0
        have hb : ¬ (9223372036854775807 - (acc : Int) < (q0.length : Int)) := by omega
        go_wp2_with fail
        go_round
        case rel => exact ⟨i + 1, by omega, by go_num, by rw [HFL.out]; go_num⟩
        case measure => simp [intOf]; omega
      · obtain rfl : n = i := by omega
        rw [HAll.out, HT0.out]
        obtain ⟨cs, hcall, hTc, hcsm⟩ := makeNoZero_any w T (by omega)
        have i0 : (0 : Int) ≤ (T : Int) := by omega
        have i1 : (T : Int) ≤ (cs.size : Int) := by omega
        have hcsm' := hcsm (by unfold maxLen; omega)
        have hbW : Below w.heap.size w ((w.alloc (.cells cs 5)).drewN 2) := ((Below.refl _ w).alloc (Nat.le_refl _) _).trans below_of_drewN
        have hgW : ((w.alloc (.cells cs 5)).drewN 2).heap[w.heap.size]? = some (.cells cs.toList.toArray 5 (0, 0)) := by rw [Array.toArray_toList]; exact heap_alloc_new w _
        obtain ⟨b0, o0, c0, q0, hq0, hcell0, hrow0, hl1, hl2, hfl⟩ := HP.out.at 0 (by omega)
        rw [Nat.add_zero] at hcell0
        have hcell1 := (hbW.cell (p := ⟨b, off, none⟩) hblt).trans hcell0
        have hle := HFle.out 1
        rw [HT0.out, hfl, List.length_append] at hle
        have HR0 := Lib.hid hrow0; have HBW := Lib.hid hbW; have HGW := Lib.hid hgW; have HFL0 := Lib.hid hfl
        clear hrow0 hbW hgW hfl hq0 hcell0
        have hT1 : 0 < T := by simp at hle; omega
        go_wp2_with (refine wpList_copy_splice rfl _ _ 28 28 rfl 5 Tryz.underlying28 Tryz.sizeU8 (some ⟨w.heap.size, 0, none⟩) (some ⟨b0, o0, none⟩) T T q0.length c0 rfl rfl w.heap.size 0 cs.toList 5 HGW.out (ints .u8 q0) ?n1 ?p1 ?f1 (ints_one _ _) w.heap.size w HBW.out (Nat.le_refl _) ?K1)
        case n1 => simp at hle; exact (Nat.min_eq_left hle).symm
        case p1 =>
          intro _ j a ha
          have h6 := HR0.out.getI j a ha
          exact (((Below.refl _ w).alloc (Nat.le_refl _) _).cell (p := ⟨b0, o0 + j, none⟩) (World.block_lt_of_cell? _ _ h6)).trans h6
        case f1 => simp at hle; omega
        intro w1 hg1 hb1
        have HB1 := Lib.hid hb1; clear hb1
        have hq0T : q0.length ≤ T := by simp at hle; exact hle
        have HF0 : Hid ((qs.take 1).flatten = q0) := Lib.hid (by have := HFL0.out; simpa using this)
        have HCUR : Hid (∃ cur : List Value, w1.heap[w.heap.size]? = some (.cells cur.toArray 5 (0, 0)) ∧ cur.length = cs.size ∧ cur.take q0.length = ints .u8 q0) := Lib.hid ⟨_, hg1.out, by rw [length_splice]; simp; simp; omega, by have := splice_take cs.toList 0 (ints .u8 q0) (by simp; omega); simpa using this⟩
        clear hg1 hle HGW HBW HR0 hcell1 HFL0 hcall
        go_wp2_with fail
        go_loopw [9, 72] (fun s9 s72 wr => ∃ (j : Nat) (acc : List Int), j ≤ n - 1 ∧ s72 = .int .i64 j ∧ s9 = .int .i64 acc.length ∧ Hid (acc = (qs.take (j + 1)).flatten) ∧ Hid (∃ cur : List Value, wr.heap[w.heap.size]? = some (.cells cur.toArray 5 (0, 0)) ∧ cur.length = cs.size ∧ cur.take acc.length = ints .u8 acc) ∧ Hid (Below w.heap.size w wr)) (fun _ s72 _ => n - (intOf s72).toNat)
        case atStart => exact ⟨0, q0, by omega, rfl, rfl, Lib.hid HF0.out.symm, HCUR, HB1⟩
        case round =>
          obtain ⟨j, acc, hj, rfl, rfl, HA, HC, HBr⟩ := hrel
          by_cases hjn : j < n - 1
          · have hjz : (j : Int) < ((n - 1 : Nat) : Int) := by omega
            obtain ⟨b1, o1, c1, q1, hq1, hcell1, hrow1, hl3, hl4, hfl⟩ := HP.out.at (j + 1) (by omega)
            rw [show off + (j + 1) = off + 1 + j by omega] at hcell1
            have hcell2 := (HBr.out.cell (p := ⟨b, off + 1 + j, none⟩) hblt).trans hcell1
            have hle := HFle.out (j + 1 + 1)
            rw [HT0.out, hfl, ← HA.out, List.length_append] at hle
            have HFL := Lib.hid hfl; have HR1 := Lib.hid hrow1
            clear hq1 hcell1 hrow1 hfl
            obtain ⟨cur, hg, hcl, hct⟩ := HC.out
            have HG := Lib.hid hg; have HCL := Lib.hid hcl; have HCT := Lib.hid hct
            clear hg hcl hct
            have haT : acc.length < T := by omega
            go_wp2_with (first
              | (refine wpList_copy_nothing rfl _ _ 28 28 rfl 5 Tryz.underlying28 Tryz.sizeU8 _ none _ _ 0 0 rfl rfl (Nat.zero_min _) ?_)
              | (refine wpList_copy_splice rfl _ _ 28 28 rfl 5 Tryz.underlying28 Tryz.sizeU8 (some ⟨w.heap.size, acc.length, none⟩) (some ⟨b1, o1, none⟩) (T - acc.length) (T - acc.length) q1.length c1 rfl rfl w.heap.size acc.length cur 5 HG.out (ints .u8 q1) ?n2 ?p2 ?f2 (ints_one _ _) w.heap.size w HBr.out (Nat.le_refl _) ?K2))
            case n2 => rw [List.length_map]; exact (Nat.min_eq_left (by omega)).symm
            case p2 =>
              intro _ j a ha
              have h6 := HR1.out.getI j a ha
              exact (HBr.out.cell (p := ⟨b1, o1 + j, none⟩) (World.block_lt_of_cell? _ _ h6)).trans h6
            case f2 => rw [HCL.out]; simp; omega
            intro w2 hg2 hb2
            have hl2' : acc.length + (ints .u8 q1).length ≤ cur.length := by rw [HCL.out, List.length_map]; omega
            have HC2 : Hid (∃ cur : List Value, w2.heap[w.heap.size]? = some (.cells cur.toArray 5 (0, 0)) ∧ cur.length = cs.size ∧ cur.take (acc ++ q1).length = ints .u8 (acc ++ q1)) := Lib.hid ⟨_, hg2.out, by rw [length_splice _ _ _ hl2', HCL.out], by
              have h7 := splice_take cur acc.length (ints .u8 q1) hl2'
              rw [HCT.out, List.length_map] at h7
              rw [List.length_append, h7]; simp⟩
            have HB2 := Lib.hid hb2
            clear hg2 hb2 HG HCL HCT HC HBr HR1 hcell2
            go_wp2_with fail
            go_roundw
            case rel => exact ⟨j + 1, acc ++ q1, by omega, by go_num, by simp, Lib.hid (by rw [HFL.out, HA.out]), HC2, HB2⟩
            case measure => simp [intOf]; omega
          · have hjz : ¬ (((n - 1 : Nat) : Int) < ((n - 1 : Nat) : Int)) := by omega
            obtain rfl : j = n - 1 := by omega
            go_wp2_with fail
            go_ret
            have hacc : acc = Z := by rw [HA.out, show n - 1 + 1 = n by omega, HAll.out]
            have hlenT : acc.length = T := by rw [hacc]; exact HT0.out
            obtain ⟨cur, hg, hcl, hct⟩ := HC.out
            refine ⟨_, rfl, ?_, ?_, HBr.out⟩
            · show WRow wr 5 (.slice (some ⟨w.heap.size, 0, none⟩) T T) T (ints .u8 Z)
              rw [← hacc]
              exact ⟨by rw [List.length_map, hlenT], Or.inr ⟨_, T, cur.toArray, rfl, hg, Nat.le_refl _, by unfold maxLen; omega, by rw [List.size_toArray, hcl]; exact hTc, by rw [← hlenT]; exact hct⟩⟩
            · intro g hg'
              cases hg'
              exact Nat.le_refl _

end Go.Proofs.YtmhmhpdpiikjiaaGreat
