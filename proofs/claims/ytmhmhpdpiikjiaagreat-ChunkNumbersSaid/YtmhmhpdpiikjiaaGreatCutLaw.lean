/- Pieces of a list of bytes, and lists of lists of bytes that lie apart. No function in sight. -/
import Derived.Test.YtmhmhpdpiikjiaaGreatFlatLaw
import Derived.Test.YtmhmhpdpiikjiaaGreatKitC
namespace Go.Proofs.YtmhmhpdpiikjiaaGreat
open Go.RowKit

/-- Piece k of the bytes p. -/
def cutAt (p : List Int) (k : Nat) : List Int := (p.drop (k * 1024)).take 1024
/-- The first k pieces. -/
def cuts (p : List Int) (k : Nat) : List (List Int) := (List.range k).map (cutAt p)
/-- All pieces. -/
def cutN (n : Nat) : Nat := (n + 1023) / 1024
theorem cuts_len (p : List Int) (k : Nat) : (cuts p k).length = k := by simp [cuts]
theorem cuts_succ (p : List Int) (k : Nat) : cuts p (k + 1) = cuts p k ++ [cutAt p k] := by simp [cuts, List.range_succ]
theorem cutAt_len (p : List Int) (k : Nat) : (cutAt p k).length = min 1024 (p.length - k * 1024) := by simp [cutAt]

/-- A part of a row of one-cell elements. -/
theorem Row.part {w : World} {b off n c i j : Nat} {ys : List Value} (h : Row w (.slice (some ⟨b, off, none⟩) n c) n ys) (hl : ys.length = n) (c' : Nat) (hij : i ≤ j) (hj : j ≤ n) (hc : j - i ≤ c') (hc' : c' ≤ maxLen) :
    Row w (.slice (some ⟨b, off + i, none⟩) (j - i) c') (j - i) ((ys.drop i).take (j - i)) := by
  obtain ⟨a, c1, h1, h2, h3, h4, h5⟩ := h
  simp only [Value.slice.injEq, true_and] at h1
  obtain ⟨rfl, rfl⟩ := h1
  refine ⟨_, c', rfl, hc, hc', by simp, fun k hk => ⟨b, off + i, rfl, ?_⟩⟩
  simp only [List.length_take, List.length_drop] at hk
  obtain ⟨b', off', h6, h7⟩ := h5 (i + k) (by omega)
  simp only [Option.some.injEq, Addr.mk.injEq, and_true] at h6
  obtain ⟨rfl, rfl⟩ := h6
  rw [Nat.add_assoc, h7, List.getElem?_take, if_pos (by omega), List.getElem?_drop]

theorem WRow.cells_ {w : World} {e : TypeId} {v : Value} {n b : Nat} {xs : List Value} (h : WRow w e v n xs) (hb : v.ownBlock = some b) : ∃ cs t z, w.heap[b]? = some (.cells cs t z) := by
  obtain ⟨-, -, -, cur, h1, -⟩ := h.someOf hb
  exact ⟨_, _, _, h1⟩
/-- Lists of bytes, told: each owned, in blocks of the set T that no other has. -/
structure ToldL (w : World) (T : Nat → Prop) (us : List Value) (ps : List (List Int)) : Prop where
  len : us.length = ps.length
  cells : ∀ b, T b → ∃ cs t z, w.heap[b]? = some (.cells cs t z)
  fam : ∃ L : Nat → Option Nat, (∀ b, L b ≠ none → T b) ∧ ∀ j (h : j < us.length) (h' : j < ps.length), Fam w 5 L j us[j] ps[j].length (ints .u8 ps[j])
theorem ToldL.lt {w : World} {T : Nat → Prop} {us : List Value} {ps : List (List Int)} (h : ToldL w T us ps) (b : Nat) (hb : T b) : b < w.heap.size := by
  obtain ⟨cs, t, z, h1⟩ := h.cells b hb
  exact (Array.getElem?_eq_some_iff.1 h1).1
theorem ownsRow.cells_ {w : World} {e : TypeId} {size : Nat} {v : Value} {n b : Nat} {xs : List Value} (h : w.ownsRow 0 e size v n xs) (hb : v.ownBlock = some b) : ∃ cs t z, w.heap[b]? = some (.cells cs t z) := by
  rcases h.2 with ⟨rfl, _⟩ | ⟨g, cap, cur, rfl, -, h3, -⟩
  · simp [Value.ownBlock] at hb
  · simp only [Value.ownBlock, Option.some.injEq] at hb
    subst hb
    exact ⟨_, _, _, h3⟩
theorem ToldL.nil (w : World) : ToldL w (fun _ => False) [] [] := ⟨rfl, fun _ h => h.elim, fun _ => none, fun _ h => absurd rfl h, fun _ h => absurd h (Nat.not_lt_zero _)⟩
theorem ToldL.kept {w w' : World} {T : Nat → Prop} {us : List Value} {ps : List (List Int)} (h : ToldL w T us ps) {S : Nat → Prop} (k : Kept S w w') (hS : ∀ b, S b → ¬ T b) : ToldL w' T us ps := by
  obtain ⟨h1, h0, L, h2, h3⟩ := h
  exact ⟨h1, fun b hb => by obtain ⟨cs, t, z, h4⟩ := h0 b hb; exact ⟨cs, t, z, k.heap h4 (fun hs => hS b hs hb)⟩, L, h2, fun j hj hj' => (h3 j hj hj').kept k fun b hb hL => hS b hb (h2 b (by rw [hL]; simp))⟩
/-- One list more, in a block that came later. -/
theorem ToldL.snoc {w : World} {T : Nat → Prop} {us : List Value} {ps : List (List Int)} {v : Value} {p : List Int} (h : ToldL w T us ps)
    (hv : WRow w 5 v p.length (ints .u8 p)) (hf : ∀ b, v.ownBlock = some b → ¬ T b) : ToldL w (fun b => T b ∨ v.ownBlock = some b) (us ++ [v]) (ps ++ [p]) := by
  obtain ⟨h1, h0, L, h2, h3⟩ := h
  refine ⟨by simp [h1], fun b hb => hb.elim (h0 b) (fun h => WRow.cells_ hv h), fun b => if v.ownBlock = some b then some us.length else L b, fun b hb => ?_, fun j hj hj' => ?_⟩
  · dsimp only at hb
    split at hb
    · next e => exact Or.inr e
    · exact Or.inl (h2 b hb)
  · simp only [List.length_append, List.length_cons, List.length_nil] at hj
    by_cases hjl : j < us.length
    · rw [List.getElem_append_left hjl, List.getElem_append_left (by omega)]
      have h4 := h3 j hjl (by omega)
      refine ⟨h4.1, fun b hb => ?_⟩
      have h5 := h4.2 b hb
      dsimp only
      rw [if_neg (fun e => hf b e (h2 b (by rw [h5]; simp)))]
      exact h5
    · obtain rfl : j = us.length := by omega
      refine ⟨?_, fun b hb => ?_⟩
      · simp only [List.getElem_append_right (Nat.le_refl us.length), Nat.sub_self, List.getElem_cons_zero]
        have : (ps ++ [p])[us.length]'hj' = p := by rw [List.getElem_append_right (by omega)]; simp [h1]
        rw [this]; exact hv
      · simp only [List.getElem_append_right (Nat.le_refl us.length), Nat.sub_self, List.getElem_cons_zero] at hb
        dsimp only
        rw [if_pos hb]

/-- Rows of bytes, told, with the blocks beyond b0 that they lie in. -/
def CutTold (w : World) (b0 : Nat) (x : Value) (ps : List (List Int)) : Prop :=
  ∃ us T, w.ownsRow 0 28 1 x ps.length us ∧ (∀ b, x.ownBlock = some b → b0 ≤ b) ∧ ToldL w T us ps ∧ (∀ b, T b → b0 ≤ b) ∧ ∀ b, x.ownBlock = some b → ¬ T b
theorem CutTold.nil (w : World) (b0 : Nat) : CutTold w b0 (.slice none 0 0) [] := ⟨[], _, World.ownsRow_nil _ _ _ _, by simp [Value.ownBlock], ToldL.nil _, fun _ h => h.elim, fun _ _ h => h⟩
theorem CutTold.kept {w w' : World} {b0 : Nat} {x : Value} {ps : List (List Int)} (h : CutTold w b0 x ps) {S : Nat → Prop} (k : Kept S w w') (hS : ∀ b, S b → b0 ≤ b → ∀ cs t z, w.heap[b]? ≠ some (.cells cs t z)) : CutTold w' b0 x ps := by
  obtain ⟨us, T, h1, h2, h3, h4, h5⟩ := h
  refine ⟨us, T, ownsRow.keptBy h1 k (fun b hb hs => ?_), h2, h3.kept k (fun b hs hb => ?_), h4, h5⟩
  · obtain ⟨cs, t, z, h6⟩ := ownsRow.cells_ h1 hb
    exact hS b hs (h2 b hb) cs t z h6
  · obtain ⟨cs, t, z, h6⟩ := h3.cells b hb
    exact hS b hs (h4 b hb) cs t z h6
theorem CutTold.below {w w' : World} {b0 : Nat} {x : Value} {ps : List (List Int)} (h : CutTold w b0 x ps) (k : Below w.heap.size w w') : CutTold w' b0 x ps :=
  h.kept (Kept.ofFresh k (fun _ => False)) (fun _ h => h.elim)
/-- One list more. -/
theorem CutTold.step {wr w1 w2 : World} {b0 : Nat} {x x' pv : Value} {ps : List (List Int)} {q : List Int} {us : List Value} {T : Nat → Prop} (h1x : wr.ownsRow 0 28 1 x ps.length us) (hx : ∀ b, x.ownBlock = some b → b0 ≤ b) (hT : ToldL wr T us ps) (hT0 : ∀ b, T b → b0 ≤ b) (hxT : ∀ b, x.ownBlock = some b → ¬ T b)
    (hw : b0 ≤ wr.heap.size) (h1 : Below wr.heap.size wr w1) (hp : w1.ownsRow 0 5 1 pv q.length (ints .u8 q)) (hpf : ∀ b, pv.ownBlock = some b → wr.heap.size ≤ b)
    (obj : Obj) (h2 : w2.ownsRow 0 28 1 x' (ps.length + 1) (us ++ [pv])) (hc : AppCase (w1.alloc obj) w2 x x') : CutTold w2 b0 x' (ps ++ [q]) ∧ Kept (fun b => x.ownBlock = some b) wr w2 := by
  have hs1 := h1.size
  have hxb : ∀ b, x.ownBlock = some b → b < wr.heap.size := fun b hb => (h1x.lt b hb).2
  have k1 : Kept (fun _ => False) wr w1 := Kept.ofFresh h1 _
  have k2 : Kept (fun b => x.ownBlock = some b) w1 w2 := ((Kept.refl _ w1).alloc obj).trans (Kept.ofGrown hc.grown)
  have hT1 := (hT.kept k1 (fun _ h => h.elim)).snoc (WRow.ofOwns hp) (fun b hb hTb => by have := hT.lt b hTb; have := hpf b hb; omega)
  have hT2 := hT1.kept k2 (fun b hb => by
    rintro (h | h)
    · exact hxT b hb h
    · have := hxb b hb; have := hpf b h; omega)
  have hx' : ∀ b, x'.ownBlock = some b → x.ownBlock = some b ∨ w1.heap.size < b + 1 := fun b hb => by
    rcases hc with ⟨c1, -⟩ | ⟨c1, -⟩
    · left; rw [← c1]; exact hb
    · right; rw [c1] at hb; simp at hb; omega
  refine ⟨⟨us ++ [pv], _, by simpa using h2, fun b hb => ?_, hT2, fun b hb => ?_, fun b hb => ?_⟩, (k1.mono (fun _ h => h.elim)).trans k2⟩
  · rcases hx' b hb with h | h
    · exact hx b h
    · omega
  · rcases hb with h | h
    · exact hT0 b h
    · have := hpf b h; omega
  · rcases hx' b hb with h | h
    · rintro (h3 | h3)
      · exact hxT b h h3
      · have := hxb b h; have := hpf b h3; omega
    · rintro (h3 | h3)
      · have := hT.lt b h3; omega
      · have := (hp.lt b h3).2; omega

end Go.Proofs.YtmhmhpdpiikjiaaGreat
