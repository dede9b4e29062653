/- What the law ChunkLives keeps from step to step: two boards, what was told; no walk. Pick, piece. -/
import Derived.Test.YtmhmhpdpiikjiaaGreatLawC
import Derived.Test.YtmhmhpdpiikjiaaGreatApartI
namespace Go.Proofs.YtmhmhpdpiikjiaaGreat
open Go.RowKit

/-- Two boards and what was told lie above w, apart from each other. -/
structure LivesI (w wr : World) (A B k m : Nat) (tv : Value) (l1 l2 : List Come) (O O' T : Nat → Prop) (us : List Value) (ps : List (List Int)) : Prop where
  ba : BoardA wr O A m l1
  rb : RefB wr O' B l2
  oO : ∀ b, O b → w.heap.size ≤ b ∧ ¬ O' b ∧ ¬ T b ∧ tv.ownBlock ≠ some b
  oO' : ∀ b, O' b → w.heap.size ≤ b ∧ ¬ T b ∧ tv.ownBlock ≠ some b
  oT : ∀ b, T b → w.heap.size ≤ b ∧ tv.ownBlock ≠ some b
  otv : ∀ b, tv.ownBlock = some b → w.heap.size ≤ b
  told : ToldL wr T us ps
  tvr : wr.ownsRow 0 28 1 tv us.length us
  small : ∀ p ∈ ps, p.length ≤ 40960
  bel : Below w.heap.size w wr
  hm : m ≤ k
  hus : us.length ≤ k

/-- A block that is nobody's. -/
def Free (w : World) (tv : Value) (O O' T : Nat → Prop) (b : Nat) : Prop := w.heap.size ≤ b ∧ ¬ O b ∧ ¬ O' b ∧ ¬ T b ∧ tv.ownBlock ≠ some b

variable {w wr wr' : World} {A B k m : Nat} {tv : Value} {l1 l2 : List Come} {O O' T : Nat → Prop} {us : List Value} {ps : List (List Int)}
theorem LivesI.fresh (h : LivesI w wr A B k m tv l1 l2 O O' T us ps) {b : Nat} (hb : wr.heap.size ≤ b) : Free w tv O O' T b :=
  ⟨Nat.le_trans h.bel.size hb, fun k => by have := h.ba.lt b k; omega, fun k => by have := h.rb.lt b k; omega, fun k => by have := h.told.lt b k; omega, fun k => by have := (h.tvr.lt b k).2; omega⟩
theorem LivesI.kept (h : LivesI w wr A B k m tv l1 l2 O O' T us ps) {S : Nat → Prop} (kk : Kept S wr wr') (hS : ∀ b, S b → Free w tv O O' T b) : LivesI w wr' A B k m tv l1 l2 O O' T us ps :=
  ⟨h.ba.kept kk (fun b hb => (hS b hb).2.1), h.rb.kept kk (fun b hb => (hS b hb).2.2.1), h.oO, h.oO', h.oT, h.otv, h.told.kept kk (fun b hb => (hS b hb).2.2.2.1), ownsRow.keptBy h.tvr kk (fun b hb hs => (hS b hs).2.2.2.2 hb), h.small,
    h.bel.trans (kk.below _ h.bel.size (fun i hi hs => by have := (hS i hs).1; omega)), h.hm, h.hus⟩
theorem LivesI.below (h : LivesI w wr A B k m tv l1 l2 O O' T us ps) (kk : Below wr.heap.size wr wr') : LivesI w wr' A B k m tv l1 l2 O O' T us ps := h.kept (Kept.ofFresh kk (fun _ => False)) (fun _ h => h.elim)
theorem LivesI.step (h : LivesI w wr A B k m tv l1 l2 O O' T us ps) : LivesI w wr A B (k + 1) m tv l1 l2 O O' T us ps := ⟨h.ba, h.rb, h.oO, h.oO', h.oT, h.otv, h.told, h.tvr, h.small, h.bel, by have := h.hm; omega, by have := h.hus; omega⟩

/-- The program's board moves on. -/
theorem LivesI.moveA (h : LivesI w wr A B k m tv l1 l2 O O' T us ps) {O1 : Nat → Prop} {m' : Nat} {l' : List Come} (hb : BoardA wr' O1 A m' l') (hO : ∀ b, O1 b → O b ∨ wr.heap.size ≤ b) (hk : Kept O wr wr') (hm : m' ≤ k) : LivesI w wr' A B k m' tv l' l2 O1 O' T us ps :=
  ⟨hb, h.rb.kept hk (fun b hb hb' => (h.oO b hb).2.1 hb'), fun b hb => (hO b hb).elim (h.oO b) (fun h1 => let f := h.fresh h1; ⟨f.1, f.2.2.1, f.2.2.2.1, f.2.2.2.2⟩), h.oO', h.oT, h.otv, h.told.kept hk (fun b hb => (h.oO b hb).2.2.1), ownsRow.keptBy h.tvr hk (fun b hb hs => (h.oO b hs).2.2.2 hb), h.small,
    h.bel.trans (hk.below _ h.bel.size (fun i hi hs => by have := (h.oO i hs).1; omega)), hm, h.hus⟩
/-- The document's board moves on. -/
theorem LivesI.moveB (h : LivesI w wr A B k m tv l1 l2 O O' T us ps) {O1 : Nat → Prop} {l' : List Come} (hb : RefB wr' O1 B l') (hO : ∀ b, O1 b → O' b ∨ wr.heap.size ≤ b) (hk : Kept O' wr wr') : LivesI w wr' A B k m tv l1 l' O O1 T us ps :=
  ⟨h.ba.kept hk (fun b hb hb' => (h.oO b hb').2.1 hb), hb, fun b hb => ⟨(h.oO b hb).1, fun h1 => (hO b h1).elim (h.oO b hb).2.1 (fun h2 => (h.fresh h2).2.1 hb), (h.oO b hb).2.2⟩, fun b hb => (hO b hb).elim (h.oO' b) (fun h1 => let f := h.fresh h1; ⟨f.1, f.2.2.2.1, f.2.2.2.2⟩), h.oT, h.otv, h.told.kept hk (fun b hb => (h.oO' b hb).2.1), ownsRow.keptBy h.tvr hk (fun b hb hs => (h.oO' b hs).2.2 hb), h.small,
    h.bel.trans (hk.below _ h.bel.size (fun i hi hs => by have := (h.oO' i hs).1; omega)), h.hm, h.hus⟩
/-- One list more is told. -/
theorem LivesI.tell (h : LivesI w wr A B k m tv l1 l2 O O' T us ps) {x tv' : Value} {p : List Int} (hx : WRow wr 5 x p.length (ints .u8 p)) (hf : ∀ b, x.ownBlock = some b → Free w tv O O' T b) (hp : p.length ≤ 40960) (hk : us.length + 1 ≤ k) (obj : Obj)
    (h2 : wr'.ownsRow 0 28 1 tv' (us.length + 1) (us ++ [x])) (hc : AppCase (wr.alloc obj) wr' tv tv') : LivesI w wr' A B k m tv' l1 l2 O O' (fun b => T b ∨ x.ownBlock = some b) (us ++ [x]) (ps ++ [p]) := by
  have k1 : Kept (fun b => tv.ownBlock = some b) wr wr' := ((Kept.refl _ wr).alloc obj).trans ((Kept.ofGrown hc.grown).mono (fun _ h => h))
  have htv : ∀ b, tv'.ownBlock = some b → tv.ownBlock = some b ∨ wr.heap.size ≤ b := fun b hb => by
    rcases hc with ⟨c1, -⟩ | ⟨c1, -⟩
    · left; rw [← c1]; exact hb
    · right; rw [c1] at hb; simp at hb; omega
  have hne : ∀ b, (w.heap.size ≤ b) → tv.ownBlock ≠ some b → b < wr.heap.size → tv'.ownBlock ≠ some b := fun b _ h1 h2 h3 => by
    rcases htv b h3 with h4 | h4
    · exact h1 h4
    · omega
  refine ⟨h.ba.kept k1 (fun b hb hO => (h.oO b hO).2.2.2 hb), h.rb.kept k1 (fun b hb hO => (h.oO' b hO).2.2 hb), fun b hb => ⟨(h.oO b hb).1, (h.oO b hb).2.1, ?_, hne b (h.oO b hb).1 (h.oO b hb).2.2.2 (h.ba.lt b hb)⟩, fun b hb => ⟨(h.oO' b hb).1, ?_, hne b (h.oO' b hb).1 (h.oO' b hb).2.2 (h.rb.lt b hb)⟩, ?_, ?_, ?_, by simpa using h2, ?_, ?_, h.hm, by simpa using hk⟩
  · rintro (h1 | h1)
    · exact (h.oO b hb).2.2.1 h1
    · exact (hf b h1).2.1 hb
  · rintro (h1 | h1)
    · exact (h.oO' b hb).2.1 h1
    · exact (hf b h1).2.2.1 hb
  · rintro b (h1 | h1)
    · exact ⟨(h.oT b h1).1, hne b (h.oT b h1).1 (h.oT b h1).2 (h.told.lt b h1)⟩
    · exact ⟨(hf b h1).1, hne b (hf b h1).1 (hf b h1).2.2.2.2 (hx.lt b h1)⟩
  · intro b hb
    rcases htv b hb with h1 | h1
    · exact h.otv b h1
    · exact Nat.le_trans h.bel.size h1
  · exact (h.told.snoc hx (fun b hb => (hf b hb).2.2.2.1)).kept k1 (fun b hb => by
      rintro (h1 | h1)
      · exact (h.oT b h1).2 hb
      · exact (hf b h1).2.2.2.2 hb)
  · intro q hq
    rcases List.mem_append.1 hq with h1 | h1
    · exact h.small q h1
    · rw [List.mem_singleton] at h1; subst h1; exact hp
  · exact h.bel.trans (k1.below _ h.bel.size (fun i hi hs => by have := h.otv i hs; omega))
/-- What is nobody's stays so. -/
theorem Free.moveA (_h : LivesI w wr A B k m tv l1 l2 O O' T us ps) {O1 : Nat → Prop} (hO : ∀ b, O1 b → O b ∨ wr.heap.size ≤ b) {b : Nat} (hf : Free w tv O O' T b) (hb : b < wr.heap.size) : Free w tv O1 O' T b :=
  ⟨hf.1, fun h1 => (hO b h1).elim hf.2.1 (fun h2 => by omega), hf.2.2⟩
theorem Free.moveB (_h : LivesI w wr A B k m tv l1 l2 O O' T us ps) {O1 : Nat → Prop} (hO : ∀ b, O1 b → O' b ∨ wr.heap.size ≤ b) {b : Nat} (hf : Free w tv O O' T b) (hb : b < wr.heap.size) : Free w tv O O1 T b :=
  ⟨hf.1, hf.2.1, fun h1 => (hO b h1).elim hf.2.2.1 (fun h2 => by omega), hf.2.2.2⟩

/-- The choice among n. -/
def pickI (k m : Int) : Int := if k.tmod m < 0 then k.tmod m + m else k.tmod m
set_option maxHeartbeats 400000 in
theorem pick_any (w : World) (k m : Int) (hk : Int64 k) (h1 : 1 ≤ m) (h2 : m ≤ 1000) :
    Calls Tryz.prog 9 #[.int .i64 k, .int .i64 m] w fun e w' => e = .returned (.int .i64 (pickI k m)) ∧ w = w' := by
  obtain ⟨k1, k2⟩ := hk
  have b1 : k.tmod m < m := Int.tmod_lt_of_pos _ (by omega)
  have b2 : -m < k.tmod m := Int.neg_lt_of_neg_lt (by have := Int.tmod_lt_of_pos (-k) (show 0 < m by omega); rw [Int.neg_tmod] at this; omega)
  have hm : (m == 0) = false := by simp; omega
  by_cases hneg : k.tmod m < 0
  · have hp : pickI k m = k.tmod m + m := by unfold pickI; rw [if_pos hneg]
    have HP := Lib.hid hp; clear hp
    go_enter Tryz.func9, Tryz.ntmps9
    go_wp2_with fail
    go_ret
    exact ⟨by rw [HP.out]; rfl, rfl⟩
  · have hp : pickI k m = k.tmod m := by unfold pickI; rw [if_neg hneg]
    have hnn : 0 ≤ k.tmod m := by omega
    have HP := Lib.hid hp; clear hp
    go_enter Tryz.func9, Tryz.ntmps9
    go_wp2_with fail
    go_ret
    exact ⟨by rw [HP.out]; rfl, rfl⟩

end Go.Proofs.YtmhmhpdpiikjiaaGreat
