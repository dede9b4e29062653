/- The law's example, 'awake'. -/
import Derived.Test.YtmhmhpdpiikjiaaGreatLawA
import Derived.Lib.SlBytesConst
namespace Go.Proofs.YtmhmhpdpiikjiaaGreat
open Go.RowKit

/-- A board that lies above w0, apart from K. -/
def BoardK (w0 : World) (K : Nat → Prop) (w : World) (A m : Nat) (l : List Come) : Prop := ∃ O, BoardA w O A m l ∧ ∀ b, O b → w0.heap.size ≤ b ∧ ¬ K b
theorem BoardK.mono {w0 : World} {K K' : Nat → Prop} {w : World} {A m : Nat} {l : List Come} (h : BoardK w0 K w A m l) (hK : ∀ b, K' b → K b) : BoardK w0 K' w A m l := by
  obtain ⟨O, h1, h2⟩ := h; exact ⟨O, h1, fun b hb => ⟨(h2 b hb).1, fun h => (h2 b hb).2 (hK b h)⟩⟩
theorem BoardK.fresh {w0 : World} {K : Nat → Prop} {w w' : World} {A m : Nat} {l : List Come} (h : BoardK w0 K w A m l) (hb : Below w.heap.size w w') : BoardK w0 (fun b => K b ∨ w.heap.size ≤ b) w' A m l := by
  obtain ⟨O, h1, h2⟩ := h
  exact ⟨O, h1.kept (Kept.ofFresh hb (fun _ => False)) (fun _ h => h.elim), fun b hb => ⟨(h2 b hb).1, fun h => by rcases h with h | h; exact (h2 b hb).2 h; have := h1.lt b hb; omega⟩⟩

/-- Put, told of what stays. -/
def PutK (w0 : World) (K : Nat → Prop) (w : World) (A m : Nat) (l' : List Come) (out : List Int) (err : Int) (e : Ending) (w' : World) : Prop :=
  ∃ x, e = .returned (.tuple #[x, .int .i64 err]) ∧ WRow w' 5 x out.length (ints .u8 out) ∧ BoardK w0 K w' A m l' ∧ Kept (fun b => w0.heap.size ≤ b ∧ ¬ K b) w w'
theorem progPut_K (w0 w : World) (K : Nat → Prop) (A m : Nat) (l : List Come) (v a n : Int) (pv : Value) (p : List Int) (l' : List Come) (out : List Int) (err : Int) (hput : putC l v a n p = (l', out, err)) (h : BoardK w0 K w A m l) (hK : ∀ b, K b → b < w.heap.size) (g : GoodC l) (hp : Row w pv p.length (ints .u8 p)) (hpO : ∀ b, pv.ownBlock = some b → K b) (h8 : Bytes8 p) (hm : m ≤ 1099511627776) (hw : w0.heap.size ≤ w.heap.size) :
    Calls Tryz.prog 14 #[.pointer (some ⟨A, 0, none⟩), .int .i64 v, .int .i64 a, .int .i64 n, pv] w (PutK w0 K w A (m + 1) l' out err) := by
  obtain ⟨O, h1, h2⟩ := h
  refine (progPut_any w O A m l v a n pv p h1 g hp (fun b hb hO => (h2 b hO).2 (hpO b hb)) h8 hm).mono fun e w' => ?_
  rw [hput]
  rintro ⟨x, rfl, hx, O', h3, h4, h5, h6⟩
  refine ⟨x, rfl, hx, ⟨O', h3, fun b hb => ?_⟩, h6.mono h2⟩
  rcases h4 b hb with h | h
  · exact h2 b h
  · exact ⟨Nat.le_trans hw h, fun k => by have := hK b k; omega⟩

def aw1 : List Come := [⟨7, 1, 2, [98]⟩]
def zer : List Int := List.replicate 1024 0
theorem zer_len : zer.length = 1024 := List.length_replicate
theorem aw_1 : putC [] 7 1 2 [98] = (aw1, [], 0) := rfl
theorem aw_2 : putC aw1 7 1 2 [98] = (aw1, [], 0) := rfl
theorem aw_3 : putC aw1 7 1 2 [99] = (aw1, [], 7) := rfl
theorem aw_4 : putC aw1 7 0 2 [97] = (aw1, [], 2) := rfl
theorem aw_5 : putC aw1 7 0 2 zer = ([], zer ++ [98], 0) := by
  have h1 : zer.length = 1024 := zer_len
  unfold putC
  rw [h1]
  generalize zer = z
  rfl
theorem aw_g : GoodC aw1 := ⟨by simp [aw1]; rfl, by intro c hc; simp [aw1] at hc; subst hc; intro x hx; simp at hx; omega, by intro c hc; simp [aw1] at hc; subst hc; rfl⟩
theorem aw_o : openL aw1 = [7] := rfl
theorem one8 (x : Int) (h : 0 ≤ x ∧ x ≤ 255) : Bytes8 [x] := by intro y hy; simp at hy; omega
theorem zer8 : Bytes8 zer := by intro y hy; have := List.eq_of_mem_replicate hy; omega

theorem made_zer : (madeCells (Value.int .u8 0).cells (1024 * 1)).toList = ints .u8 zer := by
  unfold zer ints madeCells
  rw [List.map_replicate, Array.toList_map, List.eq_replicate_iff]
  refine ⟨by simp, fun b hb => ?_⟩
  obtain ⟨i, -, rfl⟩ := List.mem_map.1 hb
  have h1 : (Value.int IntKind.u8 0).cells.size = 1 := rfl
  have h2 : i % (Value.int IntKind.u8 0).cells.size = 0 := by rw [h1, Nat.mod_one]
  rw [h2]
  rfl

theorem Row.litz (w : World) (cs : Array Value) (e : TypeId) (z : Nat × Nat) (n : Nat) (h : n ≤ maxLen) : Row (w.alloc (.cells cs e z)) (.slice (some ⟨w.heap.size, 0, none⟩) n n) n cs.toList :=
  ⟨_, n, rfl, Nat.le_refl _, h, by simp, fun j _ => ⟨w.heap.size, 0, rfl, by rw [Nat.zero_add, cell_of_row _ _ _ cs e z (heap_alloc_new w _)]; simp⟩⟩
/-- Put of one byte, as a literal gives it. -/
theorem progPut_lit (w0 w : World) (K : Nat → Prop) (A m : Nat) (l : List Come) (v a n : Int) (x : Int) (l' : List Come) (err : Int) (hput : putC l v a n [x] = (l', [], err)) (h : BoardK w0 K w A m l) (hK : ∀ b, K b → b < w.heap.size) (g : GoodC l) (h8 : 0 ≤ x ∧ x ≤ 255) (hm : m ≤ 1000) (hw : w0.heap.size ≤ w.heap.size) :
    Calls Tryz.prog 14 #[.pointer (some ⟨A, 0, none⟩), .int .i64 v, .int .i64 a, .int .i64 n, .slice (some ⟨w.heap.size, 0, none⟩) 1 1] (w.alloc (.cells #[.int .u8 x] 5 (1, 2))) fun e w' =>
      ∃ xa xc, e = .returned (.tuple #[.slice xa 0 xc, .int .i64 err]) ∧ BoardK w0 K w' A (m + 1) l' ∧ (∀ b, K b → b < w'.heap.size) ∧ Below w0.heap.size w w' ∧ Kept (fun b => ¬ K b) w w' := by
  have hb : Below w.heap.size w (w.alloc (.cells #[.int .u8 x] 5 (1, 2))) := (Below.refl _ w).alloc (Nat.le_refl _) _
  refine (progPut_K w0 _ (fun b => K b ∨ b = w.heap.size) A m l v a n _ [x] l' [] err hput ((h.fresh hb).mono ?_) ?_ g (Row.litz w #[.int .u8 x] 5 (1, 2) 1 (by unfold maxLen; omega)) ?_ (one8 x h8) (by omega) (by simp; omega)).mono ?_
  · rintro b (k | k)
    · exact Or.inl k
    · right; omega
  · rintro b (k | k)
    · have := hK b k; simp; omega
    · simp; omega
  · intro b k; cases k; exact Or.inr rfl
  · rintro e w' ⟨y, rfl, hy, hk, hkk⟩
    obtain ⟨ya, yc, rfl⟩ := hy.form_
    have k1 : Kept (fun b => w0.heap.size ≤ b ∧ ¬ K b) w w' := ((Kept.refl _ w).alloc _).trans (hkk.mono (fun b h => ⟨h.1, fun k => h.2 (Or.inl k)⟩))
    exact ⟨ya, yc, rfl, hk.mono (fun b h => Or.inl h), fun b k => Nat.lt_of_lt_of_le (hK b k) k1.size, k1.below _ hw (fun i hi h => by omega), k1.mono (fun b h => h.2)⟩

/-- Open, told of what stays. -/
theorem progOpen_K (w0 w : World) (K : Nat → Prop) (A m : Nat) (l : List Come) (xs : List Int) (hx : openL l = xs) (h : BoardK w0 K w A m l) (hK : ∀ b, K b → b < w.heap.size) (hm : m ≤ 1000) :
    Calls Tryz.prog 19 #[.pointer (some ⟨A, 0, none⟩)] w fun e w' =>
      ∃ a c, e = .returned (.slice a xs.length c) ∧ w'.ownsRow 0 3 1 (.slice a xs.length c) xs.length (ints .i64 xs) ∧ BoardK w0 (fun b => K b ∨ (Value.slice a xs.length c).ownBlock = some b) w' A m l ∧ (∀ b, (K b ∨ (Value.slice a xs.length c).ownBlock = some b) → b < w'.heap.size) ∧ Below w.heap.size w w' := by
  obtain ⟨O, h1, h2⟩ := id h
  refine (progOpen_any w O A m l h1 (by omega)).mono fun e w' => ?_
  rintro ⟨v, rfl, h3, h4, h5⟩
  rw [hx] at h3
  obtain ⟨a, c, rfl⟩ := ownsRow.form_ h3
  refine ⟨a, c, rfl, h3, (h.fresh h5).mono ?_, ?_, h5⟩
  · rintro b (k | k)
    · exact Or.inl k
    · exact Or.inr (h4 b k)
  · rintro b (k | k)
    · exact Nat.lt_of_lt_of_le (hK b k) h5.size
    · exact (h3.lt b k).2

set_option maxRecDepth 100000 in
set_option maxHeartbeats 2000000 in
theorem awake_any (w : World) : Calls Tryz.prog 8 #[] w fun e w' => e = .returned (.bool true) ∧ Below w.heap.size w w' := by
  have kc := fun (w : World) (C : Array Value) (n c : Nat) => Lib.run_convert_bytes_const (P := Tryz.prog) w 28 5 C n c Tryz.underlying28 Tryz.underlying5
  go_enter Tryz.func8, Tryz.ntmps8
  go_wp2_with fail
  refine (progNew_any _).mono ?_
  rintro e w1 ⟨A, rfl, hA, ⟨O, hb, hO⟩, hbel⟩
  have HK1 : Hid (BoardK w (fun _ => False) w1 A 0 []) := Lib.hid ⟨O, hb, fun b h => ⟨hO b h, fun h => h⟩⟩
  have HB1 := Lib.hid hbel; clear hb hO hbel
  go_wp2_with fail
  refine (progPut_lit w w1 _ A 0 [] 7 1 2 98 aw1 0 aw_1 HK1.out (fun _ h => h.elim) GoodC.nil (by omega) (by omega) HB1.out.size).mono ?_
  rintro e w2 ⟨xa1, xc1, rfl, h1, -, h2, -⟩
  have HK2 := Lib.hid h1; have HB2 := Lib.hid (HB1.out.trans h2); clear h1 h2
  go_wp2_with fail
  refine (progOpen_K w w2 _ A 1 aw1 [7] aw_o HK2.out (fun _ h => h.elim) (by omega)).mono ?_
  rintro e w3 ⟨oa, oc, rfl, h0, h1, h1', h2⟩
  have HO3 := Lib.hid h0; have HK3 := Lib.hid (h1.mono (K' := fun b => (Value.slice oa [7].length oc).ownBlock = some b) (fun _ h => Or.inr h)); have HL3 : Hid (∀ b, (Value.slice oa [7].length oc).ownBlock = some b → b < w3.heap.size) := Lib.hid (fun b h => h1' b (Or.inr h)); have HB3 := Lib.hid (HB2.out.trans (h2.mono HB2.out.size)); clear h0 h1 h1' h2
  go_wp2_with fail
  refine (progPut_lit w w3 _ A 1 aw1 7 1 2 98 aw1 0 aw_2 HK3.out HL3.out aw_g (by omega) (by omega) HB3.out.size).mono ?_
  rintro e w4 ⟨xa2, xc2, rfl, h1, h1', h2, h3⟩
  have HK4 := Lib.hid h1; have HL4 := Lib.hid h1'; have HB4 := Lib.hid (HB3.out.trans h2); have HO4 := Lib.hid (ownsRow.keptBy HO3.out h3 (fun b h k => k h)); clear h1 h1' h2 h3
  go_wp2_with fail
  refine (progPut_lit w w4 _ A 2 aw1 7 1 2 99 aw1 7 aw_3 HK4.out HL4.out aw_g (by omega) (by omega) HB4.out.size).mono ?_
  rintro e w5 ⟨xa3, xc3, rfl, h1, h1', h2, h3⟩
  have HK5 := Lib.hid h1; have HL5 := Lib.hid h1'; have HB5 := Lib.hid (HB4.out.trans h2); have HO5 := Lib.hid (ownsRow.keptBy HO4.out h3 (fun b h k => k h)); clear h1 h1' h2 h3
  go_wp2_with fail
  refine (progPut_lit w w5 _ A 3 aw1 7 0 2 97 aw1 2 aw_4 HK5.out HL5.out aw_g (by omega) (by omega) HB5.out.size).mono ?_
  rintro e w6 ⟨xa4, xc4, rfl, h1, h1', h2, h3⟩
  have HK6 := Lib.hid h1; have HL6 := Lib.hid h1'; have HB6 := Lib.hid (HB5.out.trans h2); have HO6 := Lib.hid (ownsRow.keptBy HO5.out h3 (fun b h k => k h)); clear h1 h1' h2 h3
  go_wp2_with (at_make; refine wpList_make_len rfl _ _ 28 rfl 5 Tryz.infoU8 Tryz.underlying28 .i64 .i64 _ _ 1024 rfl rfl rfl rfl (by omega) (by unfold maxLen; omega) ?_; intro w7 hr7 hg7)
  rw [made_zer] at hr7
  have hb7 : Below w6.heap.size w6 w7 := (Kept.ofGrown hg7).fresh (fun i _ h => by cases h)
  have hk7 : BoardK w (fun b => (Value.slice oa [7].length oc).ownBlock = some b ∨ b = w6.heap.size) w7 A 4 aw1 := (HK6.out.fresh hb7).mono (fun b h => by
    rcases h with h | h
    · exact Or.inl h
    · right; omega)
  have hl7 : ∀ b, ((Value.slice oa [7].length oc).ownBlock = some b ∨ b = w6.heap.size) → b < w7.heap.size := by
    rintro b (h | h)
    · exact Nat.lt_of_lt_of_le (HL6.out b h) hb7.size
    · have := (hr7.lt w6.heap.size rfl).2; omega
  have HK7 := Lib.hid hk7; have HL7 := Lib.hid hl7; have HR7 := Lib.hid hr7; have HO7 := Lib.hid (ownsRow.keptBy HO6.out (Kept.ofFresh hb7 (fun _ => False)) (fun _ _ h => h)); have HB7 := Lib.hid (HB6.out.trans (hb7.mono HB6.out.size)); clear hk7 hl7 hr7 hb7 hg7
  go_wp2_with fail
  refine (progPut_K w w7 _ A 4 aw1 7 0 2 _ zer [] (zer ++ [98]) 0 aw_5 HK7.out HL7.out aw_g (by rw [zer_len]; exact World.ownsRow.row HR7.out) (fun b h => by cases h; exact Or.inr rfl) zer8 (by omega) HB7.out.size).mono ?_
  rintro e w8 ⟨y, rfl, hy, hk8, hkk⟩
  have hl : (zer ++ [98]).length = 1025 := by rw [List.length_append, zer_len]; rfl
  rw [hl] at hy
  obtain ⟨yg, yc, rfl⟩ := hy.some_ (by omega)
  have hyc : 1025 ≤ yc := by obtain ⟨_, _, he, h, -⟩ := hy.row; cases he; exact h
  have hc8 : w8.cell? ⟨yg, 1024, none⟩ = some (.int .u8 98) := by
    rw [hy.cellAt 1024 (by omega), List.getElem?_map, List.getElem?_append_right (by rw [zer_len]; omega), zer_len]; rfl
  have HO8 := Lib.hid (ownsRow.keptBy HO7.out hkk (fun b h k => k.2 (Or.inl h)))
  have HB8 := Lib.hid (HB7.out.trans (hkk.below w.heap.size HB7.out.size (fun i hi h => by omega)))
  have HK8 := Lib.hid hk8; clear hk8 hkk hy hl kc
  go_wp2_with (first
    | (go_at_call 20; refine (sameInts_yes _ _ _ 1 1 [7] [7] rfl rfl (World.ownsRow.row (ownsRow.keptBy HO8.out ((Kept.refl (fun _ => False) w8).alloc (.cells #[.int .i64 7] 3)) (fun _ _ h => h))) (Row.lit w8 #[.int .i64 7] 3 1 (by unfold maxLen; omega)) rfl).mono ?_; rintro e w9 ⟨rfl, hq⟩; have hb9 : Below w8.heap.size w8 w9 := ((Below.refl _ w8).alloc (Nat.le_refl _) _).trans (hq.below _); have HB9 := Lib.hid hb9; have HK9 := Lib.hid ((HK8.out.fresh hb9).mono (K' := fun _ => False) (fun _ h => h.elim)); clear hq hb9)
    | (go_at_call 19; refine (progOpen_K w w9 _ A 5 [] [] rfl HK9.out (fun _ h => h.elim) (by omega)).mono ?_; rintro e w10 ⟨pa, pc, rfl, -, -, -, hb10⟩; have HB10 := Lib.hid hb10; clear hb10))
  go_ret
  refine ⟨rfl, HB8.out.trans (HB9.out.mono HB8.out.size |>.trans (HB10.out.mono ?_))⟩
  exact Nat.le_trans HB8.out.size HB9.out.size

end Go.Proofs.YtmhmhpdpiikjiaaGreat
