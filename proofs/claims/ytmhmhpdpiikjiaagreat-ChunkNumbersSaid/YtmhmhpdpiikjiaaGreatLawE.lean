/- The law's pieces: a step's piece, and steps in memory. -/
import Derived.Test.YtmhmhpdpiikjiaaGreatLawD
import Derived.Deep.RegionLaw
import Derived.IntWalk
namespace Go.Proofs.YtmhmhpdpiikjiaaGreat
open Go.RowKit

theorem made_u8 (n : Nat) : (madeCells (Value.int .u8 0).cells (n * 1)).toList = ints .u8 (List.replicate n 0) := by
  unfold ints madeCells
  rw [List.map_replicate, Array.toList_map, List.eq_replicate_iff]
  refine ⟨by simp, fun b hb => ?_⟩
  obtain ⟨i, -, rfl⟩ := List.mem_map.1 hb
  have h1 : (Value.int IntKind.u8 0).cells.size = 1 := rfl
  have h2 : i % (Value.int IntKind.u8 0).cells.size = 0 := by rw [h1, Nat.mod_one]
  rw [h2]
  rfl

/-- What make lays. -/
theorem ownsRow_alloc (w : World) (C : Array Value) (e : TypeId) (n : Nat) (hC : C.size = n) (hn : n ≤ maxLen) : (w.alloc (.cells C e)).ownsRow 0 e 1 (.slice (some ⟨w.heap.size, 0, none⟩) n n) n C.toList :=
  ⟨by simp [hC], .inr ⟨w.heap.size, n, C, rfl, Nat.zero_le _, heap_alloc_new w _, Nat.le_refl _, hn, by omega, List.take_of_length_le (by simp [hC])⟩⟩
theorem ownsRow_alloc' (w : World) (C : Array Value) (e : TypeId) (n g : Nat) (hg : g = w.heap.size) (hC : C.size = n) (hn : n ≤ maxLen) : (w.alloc (.cells C e)).drew.ownsRow 0 e 1 (.slice (some ⟨g, 0, none⟩) n n) n C.toList := by
  subst hg
  exact ownsRow.keptBy (ownsRow_alloc w C e n hC hn) (Kept.drew (Kept.refl (fun _ => False) _)) (fun _ _ h => h)
theorem run_make_u8 (w : World) (k : Int) (n : Nat) (hk : k = (n : Int)) (hn : n ≤ 1099511627776) : (Instr.makeSlice 28 (.int .i64 k) (.int .i64 k)).run Tryz.prog w = .ok (.slice (some ⟨w.heap.size, 0, none⟩) n n) (w.alloc (.cells (ints .u8 (List.replicate n 0)).toArray 5)) := by
  obtain ⟨i, hi, hz, hsize, hby⟩ := info_parts Tryz.infoU8
  subst hk
  rw [run_make w 28 5 i _ Tryz.underlying28 hi hz .i64 .i64 _ _ (by omega) (Int.le_refl _) (by rw [hby]; omega) (by omega), hsize, Int.toNat_natCast]
  have h : madeCells (Value.int IntKind.u8 0).cells (n * 1) = (ints .u8 (List.replicate n 0)).toArray := by rw [← made_u8 n, Array.toArray_toList]
  rw [h]
/-- A step's piece. -/
def pieceL (full : Bool) (p : List Int) : List Int := if full then List.replicate (1024 - min p.length 1024) 0 ++ p else p
theorem pieceL_8 {full : Bool} {p : List Int} (h : Bytes8 p) : Bytes8 (pieceL full p) := by
  unfold pieceL
  split
  · intro x hx
    rcases List.mem_append.1 hx with h1 | h1
    · have := List.eq_of_mem_replicate h1; omega
    · exact h x h1
  · exact h
theorem pieceL_len (full : Bool) (p : List Int) : (pieceL full p).length ≤ p.length + 1024 := by
  unfold pieceL
  split
  · simp; omega
  · omega

/-- What piece tells. -/
def PieceOf (w w' : World) (pv : Value) (p q : List Int) (e : Ending) : Prop :=
  ∃ x, e = .returned x ∧ Row w' x q.length (ints .u8 q) ∧ (∀ b, x.ownBlock = some b → (x = pv ∧ q = p) ∨ w.heap.size ≤ b) ∧ Below w.heap.size w w'

set_option maxHeartbeats 1000000 in
theorem piece_no (w : World) (op v a n : Int) (pv : Value) (p : List Int) (hp : Row w pv p.length (ints .u8 p)) :
    Calls Tryz.prog 12 #[.agg #[.int .i64 op, .int .i64 v, .int .i64 a, .int .i64 n, .bool false, pv]] w fun e w' => PieceOf w w' pv p p e := by
  have HP := Lib.hid hp
  obtain ⟨pa, pc, rfl, -⟩ := hp
  go_enter Tryz.func12, Tryz.ntmps12
  go_wp2_with fail
  go_ret
  exact ⟨_, rfl, HP.out.below ((Below.refl _ w).alloc (Nat.le_refl _) _), fun b h => Or.inl ⟨rfl, rfl⟩, (Below.refl _ w).alloc (Nat.le_refl _) _⟩

set_option maxHeartbeats 1000000 in
theorem piece_yes (w : World) (op v a n : Int) (pv : Value) (p : List Int) (hp : Row w pv p.length (ints .u8 p)) (hpl : p.length ≤ 1099511627776) :
    Calls Tryz.prog 12 #[.agg #[.int .i64 op, .int .i64 v, .int .i64 a, .int .i64 n, .bool true, pv]] w fun e w' => PieceOf w w' pv p (pieceL true p) e := by
  have HP := Lib.hid hp
  obtain ⟨pa, pc, rfl, -⟩ := hp
  have hwr : IntKind.i64.wrap (1024 - min (p.length : Int) 1024) = ((1024 - min p.length 1024 : Nat) : Int) := by rw [IntWalk.i64_in _ (by omega)]; omega
  have hmk := fun w' : World => run_make_u8 w' _ (1024 - min p.length 1024) hwr (by omega)
  have hpq : pieceL true p = List.replicate (1024 - min p.length 1024) 0 ++ p := rfl
  have HPQ := Lib.hid hpq; clear hpq hwr
  generalize hN : 1024 - min p.length 1024 = N at hmk HPQ
  have hNle : N ≤ 1024 := by omega
  clear hN
  generalize hC : (ints .u8 (List.replicate N 0)).toArray = C at hmk
  have hCs : C.size = N := by rw [← hC]; simp
  have hCl : C.toList = ints .u8 (List.replicate N 0) := by rw [← hC]
  have HCS := Lib.hid hCs; have HCL := Lib.hid hCl; clear hC hCs hCl
  go_enter Tryz.func12, Tryz.ntmps12
  go_wp2_with fail
  go_region_law
    (refine step_append_row rfl _ _ 28 rfl 5 Tryz.infoU8 Tryz.underlying28 rfl (by decide) (.slice (some ⟨w.heap.size + 1, 0, none⟩) N N) N C.toList rfl (ownsRow_alloc' _ C _ N (w.heap.size + 1) (by simp) HCS.out (by unfold maxLen; omega)) (.slice pa p.length pc) p.length (ints .u8 p) rfl (Row.below HP.out ((((Below.refl _ w).alloc (Nat.le_refl _) _).alloc (by simp) _).drew)) (by simp) (ints_one _ _) (by unfold maxLen; omega) (by omega) ?_
     intro v2 w2 hr2 hc2 _
     obtain ⟨a2, c2, rfl⟩ := ownsRow.form_ hr2
     obtain ⟨hb2, hf2⟩ := AppCase.fresh (w := w) ((((Below.refl _ w).alloc (Nat.le_refl _) _).alloc (by simp) _).drew) hc2 (fun b hb => by cases hb; simp)
     have HR2 := Lib.hid hr2; have HB2 := Lib.hid hb2; have HF2 := Lib.hid hf2; clear hr2 hc2 hb2 hf2)
  all_goals
    go_wp2_with fail
    go_ret
    refine ⟨.slice a2 (N + p.length) c2, rfl, ?_, fun b hb => Or.inr (HF2.out b hb), HB2.out⟩
    have := HR2.out
    rw [HCL.out] at this
    rw [HPQ.out, List.length_append, List.length_replicate]
    simpa using World.ownsRow.row this

theorem piece_any (w : World) (op v a n : Int) (full : Bool) (pv : Value) (p : List Int) (hp : Row w pv p.length (ints .u8 p)) (hpl : p.length ≤ 1099511627776) :
    Calls Tryz.prog 12 #[.agg #[.int .i64 op, .int .i64 v, .int .i64 a, .int .i64 n, .bool full, pv]] w fun e w' => PieceOf w w' pv p (pieceL full p) e := by
  cases full
  · exact piece_no w op v a n pv p hp
  · exact piece_yes w op v a n pv p hp hpl

/-- A step of a board, in memory. -/
structure DoM where
  op : Int
  ver : Int
  pos : Int
  whole : Int
  full : Bool
  pv : Value
  pc : List Int
def cellsD (d : DoM) : List Value := [.int .i64 d.op, .int .i64 d.ver, .int .i64 d.pos, .int .i64 d.whole, .bool d.full, d.pv]
structure DoM.Ok (w : World) (d : DoM) : Prop where
  op : Int64 d.op
  ver : Int64 d.ver
  pos : Int64 d.pos
  whole : Int64 d.whole
  by8 : Bytes8 d.pc
  row : Row w d.pv d.pc.length (ints .u8 d.pc)
/-- A list of steps. -/
def DosAt (w : World) (v : Value) (ds : List DoM) : Prop :=
  ∃ a c, v = .slice a ds.length c ∧ ds.length ≤ 9223372036854775807 ∧ (∀ i (h : i < ds.length), ∃ b off, a = some ⟨b, off, none⟩ ∧ ∀ j, j < 6 → w.cell? ⟨b, off + (i * 6 + j), none⟩ = (cellsD ds[i])[j]?) ∧ ∀ d ∈ ds, d.Ok w

end Go.Proofs.YtmhmhpdpiikjiaaGreat
