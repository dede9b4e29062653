/- Lists that lie apart: blocks bear labels, the number of the list they belong to. No program in sight. -/
import Derived.Test.YtmhmhpdpiikjiaaGreatWRow
import Derived.StillTailTactics
namespace Go.Proofs.YtmhmhpdpiikjiaaGreat
open Go.RowKit

def lenV : Value → Nat | .slice _ n _ => n | _ => 0
def lab (L : Nat → Option Nat) (j : Nat) (v : Value) : Prop := ∀ b, v.ownBlock = some b → L b = some j
/-- The first m marks of list j. -/
def mks (enc : Nat → Nat → Value) (j m : Nat) : List Value := (List.range m).map (enc j)
theorem mks_len (enc : Nat → Nat → Value) (j m : Nat) : (mks enc j m).length = m := by simp [mks]
theorem mks_succ (enc : Nat → Nat → Value) (j m : Nat) : mks enc j (m + 1) = mks enc j m ++ [enc j m] := by simp [mks, List.range_succ]
theorem mks_get (enc : Nat → Nat → Value) (j m i : Nat) (h : i < m) : (mks enc j m)[i]? = some (enc j i) := by simp [mks, h]
theorem mks_take (enc : Nat → Nat → Value) (j m k : Nat) (h : k ≤ m) : (mks enc j m).take k = mks enc j k := by
  simp [mks, ← List.map_take, List.take_range, Nat.min_eq_left h]

/-- List u, of label j, holds ys. -/
def Fam (w : World) (e : TypeId) (L : Nat → Option Nat) (j : Nat) (u : Value) (n : Nat) (ys : List Value) : Prop := WRow w e u n ys ∧ lab L j u

theorem Fam.kept {w w' : World} {e : TypeId} {L : Nat → Option Nat} {j n : Nat} {u : Value} {ys : List Value} (h : Fam w e L j u n ys) {S : Nat → Prop} (k : Kept S w w') (hS : ∀ b, S b → L b ≠ some j) : Fam w' e L j u n ys :=
  ⟨h.1.keptBy k fun b hb hs => hS b hs (h.2 b hb), h.2⟩
theorem Fam.relab {w : World} {e : TypeId} {L L' : Nat → Option Nat} {j n : Nat} {u : Value} {ys : List Value} (h : Fam w e L j u n ys) (hL : ∀ b, b < w.heap.size → L' b = L b) : Fam w e L' j u n ys :=
  ⟨h.1, fun b hb => by rw [hL b (h.1.lt b hb)]; exact h.2 b hb⟩
theorem Fam.row {w : World} {e : TypeId} {L : Nat → Option Nat} {j n : Nat} {u : Value} {ys : List Value} (h : Fam w e L j u n ys) : Row w u n ys := h.1.row
theorem Fam.len {w : World} {e : TypeId} {L : Nat → Option Nat} {j n : Nat} {u : Value} {ys : List Value} (h : Fam w e L j u n ys) : ys.length = n := by simpa using h.1.1
theorem Fam.lenV {w : World} {e : TypeId} {L : Nat → Option Nat} {j n : Nat} {u : Value} {ys : List Value} (h : Fam w e L j u n ys) : lenV u = n := by
  rcases h.1.2 with ⟨rfl, rfl⟩ | ⟨g, cap, cur, rfl, -⟩ <;> rfl
/-- A store at a place within. -/
theorem Fam.store {w : World} {e : TypeId} {L : Nat → Option Nat} {j n i : Nat} {u : Value} {ys : List Value} (h : Fam w e L j u n ys) (hi : i < n) :
    ∃ g c old, u = .slice (some ⟨g, 0, none⟩) n c ∧ L g = some j ∧ w.cell? ⟨g, i, none⟩ = some old ∧ ys[i]? = some old ∧ w.frozen? ⟨g, i, none⟩ = false ∧
      ∀ val, Fam (w.setCell ⟨g, i, none⟩ val) e L j u n (ys.set i val) ∧ Kept (fun b => L b = some j) w (w.setCell ⟨g, i, none⟩ val) := by
  rcases h.1.2 with ⟨rfl, rfl⟩ | ⟨g, cap, cur, rfl, -⟩
  · omega
  · have hl := h.len
    have hg := h.2 g rfl
    refine ⟨g, cap, ys[i]'(by omega), rfl, hg, ?_, by simp [hl, hi], h.1.frozenAt i, fun val => ⟨⟨(h.1.stored i val).1, h.2⟩, (h.1.stored i val).2.mono ?_⟩⟩
    · rw [h.1.cellAt i hi]; simp [hl, hi]
    · rintro b rfl
      exact hg
theorem take_set_snoc (ys : List Value) (i : Nat) (v : Value) (h : i < ys.length) : (ys.set i v).take (i + 1) = ys.take i ++ [v] := by
  rw [List.take_succ_eq_append_getElem (by simpa using h)]
  simp [List.take_set_of_le]

/-- Between the rounds of the first pass: lists 0 to k - 1 are marked. -/
def P1 (e : TypeId) (enc : Nat → Nat → Value) (L : Nat → Option Nat) (n : Nat) (u : Nat → Value) (ln : Nat → Nat) (w wr : World) (k : Nat) : Prop :=
  (∀ j, j < n → ∃ ys, Fam wr e L j (u j) (ln j) ys ∧ (j < k → ys = mks enc j (ln j))) ∧ Kept (fun b => L b ≠ none) w wr
/-- Within the round of list k: its first i places are marked. -/
def P1i (e : TypeId) (enc : Nat → Nat → Value) (L : Nat → Option Nat) (n : Nat) (u : Nat → Value) (ln : Nat → Nat) (w wr : World) (k i : Nat) : Prop :=
  (∀ j, j < n → j ≠ k → ∃ ys, Fam wr e L j (u j) (ln j) ys ∧ (j < k → ys = mks enc j (ln j))) ∧ (∃ ys, Fam wr e L k (u k) (ln k) ys ∧ ys.take i = mks enc k i) ∧ Kept (fun b => L b ≠ none) w wr
theorem P1.start {e : TypeId} {enc : Nat → Nat → Value} {L : Nat → Option Nat} {n : Nat} {u : Nat → Value} {ln : Nat → Nat} {w wr : World} {k : Nat} (h : P1 e enc L n u ln w wr k) (hk : k < n) : P1i e enc L n u ln w wr k 0 := by
  obtain ⟨h1, h2⟩ := h
  obtain ⟨ys, h3, -⟩ := h1 k hk
  exact ⟨fun j hj _ => h1 j hj, ⟨ys, h3, by simp [mks]⟩, h2⟩
theorem P1i.done {e : TypeId} {enc : Nat → Nat → Value} {L : Nat → Option Nat} {n : Nat} {u : Nat → Value} {ln : Nat → Nat} {w wr : World} {k i : Nat} (h : P1i e enc L n u ln w wr k i) (hi : ln k ≤ i) : P1 e enc L n u ln w wr (k + 1) := by
  obtain ⟨h1, ⟨ys, h2, h3⟩, h4⟩ := h
  refine ⟨fun j hj => ?_, h4⟩
  by_cases hjk : j = k
  · subst hjk
    refine ⟨ys, h2, fun _ => ?_⟩
    have h5 := congrArg (List.take (ln j)) h3
    rw [List.take_take, mks_take _ _ _ _ hi, Nat.min_eq_left hi, List.take_of_length_le (by rw [h2.len]; exact Nat.le_refl _)] at h5
    exact h5
  · obtain ⟨zs, h5, h6⟩ := h1 j hj hjk
    exact ⟨zs, h5, fun hlt => h6 (by omega)⟩
theorem P1i.store {e : TypeId} {enc : Nat → Nat → Value} {L : Nat → Option Nat} {n : Nat} {u : Nat → Value} {ln : Nat → Nat} {w wr : World} {k i : Nat} (h : P1i e enc L n u ln w wr k i) (hi : i < ln k) :
    ∃ g c old, u k = .slice (some ⟨g, 0, none⟩) (ln k) c ∧ L g = some k ∧ wr.cell? ⟨g, i, none⟩ = some old ∧ wr.frozen? ⟨g, i, none⟩ = false ∧ P1i e enc L n u ln w (wr.setCell ⟨g, i, none⟩ (enc k i)) k (i + 1) := by
  obtain ⟨h1, ⟨ys, h2, h3⟩, h4⟩ := h
  obtain ⟨g, c, old, q1, q2, q3, q4, q5, q6⟩ := h2.store hi
  refine ⟨g, c, old, q1, q2, q3, q5, fun j hj hjk => ?_, ⟨_, (q6 (enc k i)).1, ?_⟩, h4.setCell (Or.inl (by rw [q2]; simp)) _⟩
  · obtain ⟨zs, h5, h6⟩ := h1 j hj hjk
    exact ⟨zs, h5.kept (q6 (enc k i)).2 (fun b hb => by rw [hb]; simpa using fun h => hjk h.symm), h6⟩
  · rw [take_set_snoc _ _ _ (by rw [h2.len]; exact hi), h3, mks_succ]
theorem P1.kept {e : TypeId} {enc : Nat → Nat → Value} {L : Nat → Option Nat} {n : Nat} {u : Nat → Value} {ln : Nat → Nat} {w wr : World} {k : Nat} (h : P1 e enc L n u ln w wr k) : Kept (fun b => L b ≠ none) w wr := h.2
theorem P1i.kept {e : TypeId} {enc : Nat → Nat → Value} {L : Nat → Option Nat} {n : Nat} {u : Nat → Value} {ln : Nat → Nat} {w wr : World} {k i : Nat} (h : P1i e enc L n u ln w wr k i) : Kept (fun b => L b ≠ none) w wr := h.2.2
theorem P1i.quiet {e : TypeId} {enc : Nat → Nat → Value} {L : Nat → Option Nat} {n : Nat} {u : Nat → Value} {ln : Nat → Nat} {w wr wq : World} {k i : Nat} (h : P1i e enc L n u ln w wr k i) (q : Quiet wr wq) : P1i e enc L n u ln w wq k i := by
  obtain ⟨m, rfl⟩ := q
  exact ⟨h.1, h.2.1, h.2.2.drewN m⟩
theorem Fam.form {w : World} {e : TypeId} {L : Nat → Option Nat} {j n : Nat} {u : Value} {ys : List Value} (h : Fam w e L j u n ys) : ∃ a c, u = .slice a n c := by
  rcases h.1.2 with ⟨rfl, rfl⟩ | ⟨g, cap, cur, rfl, -⟩ <;> exact ⟨_, _, rfl⟩
/-- The cells of the list of lists, in a world in which labelled blocks alone have turned. -/
theorem Row.atK {w : World} {a : Option Addr} {n : Nat} {u : Nat → Value} {L : Nat → Option Nat} (hL : ∀ b, (match a with | some a => some a.block | none => none) = some b → L b = none)
    (h : ∀ j, j < ((List.range n).map u).length → ∃ b off, a = some ⟨b, off, none⟩ ∧ w.cell? ⟨b, off + j, none⟩ = ((List.range n).map u)[j]?) (wr : World) (q : Kept (fun b => L b ≠ none) w wr) (k : Nat) (hk : k < n) :
    ∃ b off, a = some ⟨b, off, none⟩ ∧ wr.cell? ⟨b, off + k, none⟩ = some (u k) := by
  obtain ⟨b, off, rfl, h2⟩ := h k (by simpa using hk)
  have h3 : w.cell? ⟨b, off + k, none⟩ = some (u k) := by rw [h2]; simp [hk]
  refine ⟨b, off, rfl, ?_⟩
  rw [q.cell (p := ⟨b, off + k, none⟩) (World.block_lt_of_cell? _ _ h3) (by simp [hL b rfl]), h3]

/-- An append onto list v leaves what list u holds, where u, if it is of v's label, is no longer than v. -/
theorem Fam.app {w w1 : World} {e : TypeId} {L : Nat → Option Nat} {j k n m m' : Nat} {u v v' : Value} {xs ys ys' : List Value} (hv : Fam w e L k v m ys) (hu : Fam w e L j u n xs) (hpre : j = k → n ≤ m)
    (h' : WRow w1 e v' m' ys') (hys : ys'.take m = ys) (hm : m ≤ m') (hc : AppCase w w1 v v') (hz : SizeKept w w1 v) : Fam w1 e L j u n xs := by
  rcases hc with ⟨c1, c2, c3⟩ | ⟨c1, -, c3⟩
  · by_cases hjk : j = k
    · subst hjk
      have hnm := hpre rfl
      cases hub : u.ownBlock with
      | none =>
        obtain ⟨rfl, rfl, rfl⟩ := hu.1.nilOf hub
        exact ⟨WRow.nil _ _, hu.2⟩
      | some g =>
        by_cases hvb : v.ownBlock = some g
        · obtain ⟨a1, a2, a3, cur, a4, a5, a6⟩ := hu.1.someOf hub
          obtain ⟨b1, b2, b3, cur2, b4, b5, b6⟩ := hv.1.someOf hvb
          obtain ⟨d1, d2, d3, cur3, d4, d5, d6⟩ := h'.someOf (c1.trans hvb)
          obtain ⟨cs', e1, e2⟩ := hz g cur e (0, 0) hvb a4
          rw [a4] at b4; rw [d4] at e1
          cases b4; cases e1
          refine ⟨⟨hu.1.1, .inr ⟨g, capOf u, cur3, a1, d4, a2, a3, by omega, ?_⟩⟩, hu.2⟩
          have h1 : cur3.toList.take n = ys'.take n := by rw [← d6, List.take_take, Nat.min_eq_left (by omega)]
          have h2 : ys'.take n = ys.take n := by rw [← hys, List.take_take, Nat.min_eq_left hnm]
          rw [h1, h2, ← b6, List.take_take, Nat.min_eq_left hnm, a6]
        · exact ⟨hu.1.keptBy (Kept.ofGrown c3) (fun b hb hs => by rw [hub] at hb; cases hb; exact hvb hs), hu.2⟩
    · exact hu.kept (Kept.ofGrown c3) (fun b hb hl => by rw [hv.2 b hb] at hl; exact hjk (Option.some.inj hl).symm)
  · exact hu.kept (Kept.ofGrown c3) (fun b hb => by simp at hb)

/-- Between the rounds of the second pass: the lists are marked, the first k have grown: what grew stands in the row at block G. -/
structure P2 (e eS : TypeId) (enc : Nat → Nat → Value) (L : Nat → Option Nat) (n : Nat) (u : Nat → Value) (ln : Nat → Nat) (D : Nat → Nat → List Value → Prop) (G : Nat) (w wr : World) (k : Nat) (L' : Nat → Option Nat) (gs : List Value) : Prop where
  ext : ∀ b, b < w.heap.size → L' b = L b
  lt : ∀ b, L' b ≠ none → b < wr.heap.size
  gown : wr.ownsRow 0 eS 1 (.slice (some ⟨G, 0, none⟩) n n) n gs
  gl : L' G = none
  gnew : w.heap.size ≤ G
  all : ∀ j, j < n → Fam wr e L' j (u j) (ln j) (mks enc j (ln j))
  done : ∀ j, j < k → ∃ g m ys, gs[j]? = some g ∧ Fam wr e L' j g m ys ∧ D j m ys
  kept : Kept (fun b => L b ≠ none) w wr

theorem P2.glen {e eS : TypeId} {enc : Nat → Nat → Value} {L : Nat → Option Nat} {n : Nat} {u : Nat → Value} {ln : Nat → Nat} {D : Nat → Nat → List Value → Prop} {G : Nat} {w wr : World} {k : Nat} {L' : Nat → Option Nat} {gs : List Value}
    (h : P2 e eS enc L n u ln D G w wr k L' gs) : gs.length = n := by simpa using h.gown.1
theorem P2.start {e eS : TypeId} {enc : Nat → Nat → Value} {L : Nat → Option Nat} {n : Nat} {u : Nat → Value} {ln : Nat → Nat} {w wr w2 : World} {gs : List Value} (D : Nat → Nat → List Value → Prop)
    (hlt : ∀ b, L b ≠ none → b < w.heap.size) (h : P1 e enc L n u ln w wr n) (hg : w2.ownsRow 0 eS 1 (.slice (some ⟨wr.heap.size, 0, none⟩) n n) n gs) (hgr : wr.grownBy w2 none) : P2 e eS enc L n u ln D wr.heap.size w w2 0 L gs := by
  have hk : Kept (fun _ => False) wr w2 := (Kept.ofGrown hgr).mono (by simp)
  refine ⟨fun _ _ => rfl, fun b hb => Nat.lt_of_lt_of_le (hlt b hb) (Nat.le_trans h.2.size hgr.size), hg, ?_, h.2.size, fun j hj => ?_, fun j hj => absurd hj (Nat.not_lt_zero j), h.2.thenOwn hk (fun i hi => hi.elim)⟩
  · cases hL : L wr.heap.size with
    | none => rfl
    | some j => have h1 := hlt wr.heap.size (by rw [hL]; simp); have h2 := h.2.size; omega
  · obtain ⟨ys, h1, h2⟩ := h.1 j hj
    rw [← h2 hj]
    exact h1.kept hk (fun b hb => hb.elim)
theorem P2.step {e eS : TypeId} {enc : Nat → Nat → Value} {L : Nat → Option Nat} {n : Nat} {u : Nat → Value} {ln : Nat → Nat} {D : Nat → Nat → List Value → Prop} {G : Nat} {w wr wq : World} {k : Nat} {L' : Nat → Option Nat} {gs : List Value}
    (h : P2 e eS enc L n u ln D G w wr k L' gs) {S : Nat → Prop} (q : Kept S wr wq) (hS : ∀ b, S b → b < wr.heap.size → L' b = none ∧ b ≠ G ∧ w.heap.size ≤ b) : P2 e eS enc L n u ln D G w wq k L' gs := by
  have hS' : ∀ j v m ys, Fam wr e L' j v m ys → Fam wq e L' j v m ys := fun j v m ys hf =>
    ⟨hf.1.keptBy q (fun b hb hs => by have h1 := (hS b hs (hf.1.lt b hb)).1; have h2 := hf.2 b hb; rw [h1] at h2; cases h2), hf.2⟩
  refine ⟨h.ext, fun b hb => Nat.lt_of_lt_of_le (h.lt b hb) q.size, ownsRow.keptBy h.gown q (fun b hb hs => ?_), h.gl, h.gnew, fun j hj => hS' _ _ _ _ (h.all j hj), fun j hj => ?_, h.kept.thenOwn (T := fun b => S b ∧ b < wr.heap.size) ⟨q.os, q.tape, q.output, q.size, fun i hi hs => q.block i hi (fun h => hs ⟨h, hi⟩)⟩ (fun i hi => Or.inr (hS i hi.1 hi.2).2.2)⟩
  · simp only [Value.ownBlock, Option.some.injEq] at hb
    subst hb
    exact (hS G hs (h.gown.lt G rfl).2).2.1 rfl
  · obtain ⟨g, m, ys, h1, h2, h3⟩ := h.done j hj
    exact ⟨g, m, ys, h1, hS' _ _ _ _ h2, h3⟩
/-- A new label. -/
def relab (L : Nat → Option Nat) (b k : Nat) : Nat → Option Nat := fun i => if i = b then some k else L i
theorem P2.relab {e eS : TypeId} {enc : Nat → Nat → Value} {L : Nat → Option Nat} {n : Nat} {u : Nat → Value} {ln : Nat → Nat} {D : Nat → Nat → List Value → Prop} {G : Nat} {w wr wq : World} {k : Nat} {L' : Nat → Option Nat} {gs : List Value}
    (h : P2 e eS enc L n u ln D G w wr k L' gs) (q : Kept (fun _ => False) wr wq) (hs : wr.heap.size < wq.heap.size) : P2 e eS enc L n u ln D G w wq k (relab L' wr.heap.size k) gs := by
  have hL : ∀ b, b < wr.heap.size → Go.Proofs.YtmhmhpdpiikjiaaGreat.relab L' wr.heap.size k b = L' b := fun b hb => by unfold Go.Proofs.YtmhmhpdpiikjiaaGreat.relab; rw [if_neg (by omega)]
  have hq := h.step q (fun b hb => hb.elim)
  have hF : ∀ j v m ys, Fam wr e L' j v m ys → Fam wq e (Go.Proofs.YtmhmhpdpiikjiaaGreat.relab L' wr.heap.size k) j v m ys := fun j v m ys hf => (hf.relab hL).kept q (fun b hb => hb.elim)
  refine ⟨fun b hb => by rw [hL b (Nat.lt_of_lt_of_le hb h.kept.size)]; exact h.ext b hb, fun b hb => ?_, hq.gown, by rw [hL G (h.gown.lt G rfl).2]; exact h.gl, h.gnew, fun j hj => hF _ _ _ _ (h.all j hj), fun j hj => ?_, hq.kept⟩
  · by_cases hbs : b = wr.heap.size
    · omega
    · have : L' b ≠ none := by unfold Go.Proofs.YtmhmhpdpiikjiaaGreat.relab at hb; rwa [if_neg hbs] at hb
      have := h.lt b this; omega
  · obtain ⟨g, m, ys, h1, h2, h3⟩ := h.done j hj
    exact ⟨g, m, ys, h1, hF _ _ _ _ h2, h3⟩
/-- An append onto a list of label k. -/
theorem P2.append {e eS : TypeId} {enc : Nat → Nat → Value} {L : Nat → Option Nat} {n : Nat} {u : Nat → Value} {ln : Nat → Nat} {D : Nat → Nat → List Value → Prop} {G : Nat} {w wr w1 : World} {k m : Nat} {L' : Nat → Option Nat} {gs news : List Value} {v v' : Value}
    (h : P2 e eS enc L n u ln D G w wr k L' gs) (hkn : k < n) (hv : Fam wr e L' k v m (mks enc k m)) (hm : ln k ≤ m) {m' : Nat} (hm' : m ≤ m') (h' : WRow w1 e v' m' (mks enc k m ++ news)) (hc : AppCase wr w1 v v') (hz : SizeKept wr w1 v) :
    ∃ L'', P2 e eS enc L n u ln D G w w1 k L'' gs ∧ Fam w1 e L'' k v' m' (mks enc k m ++ news) := by
  have htake : (mks enc k m ++ news).take m = mks enc k m := by rw [List.take_append_of_le_length (by rw [mks_len]; exact Nat.le_refl _), List.take_of_length_le (by rw [mks_len]; exact Nat.le_refl _)]
  have hc0 := hc
  rcases hc with ⟨c1, c2, c3⟩ | ⟨c1, c2, c3⟩
  · have hlabS : ∀ b, v.ownBlock = some b → L' b = some k := hv.2
    have hkS : Kept (fun b => v.ownBlock = some b) wr w1 := Kept.ofGrown c3
    refine ⟨L', ⟨h.ext, fun b hb => Nat.lt_of_lt_of_le (h.lt b hb) c3.size, ownsRow.keptBy h.gown hkS (fun b hb hs => ?_), h.gl, h.gnew, fun j hj => hv.app (h.all j hj) (fun e => by subst e; exact hm) h' htake hm' hc0 hz, fun j hj => ?_, h.kept.thenOwn hkS (fun i hi => ?_)⟩, ⟨h', fun b hb => hlabS b (by rw [← c1]; exact hb)⟩⟩
    · simp only [Value.ownBlock, Option.some.injEq] at hb
      subst hb
      have := hlabS G hs; rw [h.gl] at this; cases this
    · obtain ⟨g, m, ys, h1, h2, h3⟩ := h.done j hj
      exact ⟨g, m, ys, h1, h2.kept hkS (fun b hb hl => by rw [hlabS b hb] at hl; have := Option.some.inj hl; omega), h3⟩
    · by_cases hi2 : i < w.heap.size
      · left; rw [← h.ext i hi2, hlabS i hi]; simp
      · right; omega
  · have hk0 : Kept (fun _ => False) wr w1 := (Kept.ofGrown c3).mono (by simp)
    exact ⟨_, h.relab hk0 c2, h', fun b hb => by rw [c1] at hb; cases hb; simp [Go.Proofs.YtmhmhpdpiikjiaaGreat.relab]⟩
/-- What has grown is stored. -/
theorem P2.stored {e eS : TypeId} {enc : Nat → Nat → Value} {L : Nat → Option Nat} {n : Nat} {u : Nat → Value} {ln : Nat → Nat} {D : Nat → Nat → List Value → Prop} {G : Nat} {w wr : World} {k : Nat} {L' : Nat → Option Nat} {gs : List Value} {v : Value}
    (h : P2 e eS enc L n u ln D G w wr k L' gs) {m : Nat} {ys : List Value} (hkn : k < n) (hv : Fam wr e L' k v m ys) (hD : D k m ys) :
    (∃ old, wr.cell? ⟨G, k, none⟩ = some old) ∧ wr.frozen? ⟨G, k, none⟩ = false ∧ P2 e eS enc L n u ln D G w (wr.setCell ⟨G, k, none⟩ v) (k + 1) L' (gs.set k v) := by
  have hl := h.glen
  obtain ⟨s1, s2⟩ := h.gown.stored k v
  have hkG : Kept (fun b => b = G) wr (wr.setCell ⟨G, k, none⟩ v) := (Kept.ofGrown s2).mono (fun b hb => by simpa using hb.symm)
  have hF : ∀ j x m ys, Fam wr e L' j x m ys → Fam (wr.setCell ⟨G, k, none⟩ v) e L' j x m ys := fun j x m ys hf => hf.kept hkG (fun b hb => by subst hb; rw [h.gl]; simp)
  refine ⟨⟨gs[k]'(by omega), by rw [h.gown.cellAt k (by omega)]; simp [hl, hkn]⟩, h.gown.frozenAt k, ⟨h.ext, fun b hb => by simpa using h.lt b hb, s1, h.gl, h.gnew, fun j hj => hF _ _ _ _ (h.all j hj), fun j hj => ?_, h.kept.thenOwn hkG (fun i hi => Or.inr (by rw [hi]; exact h.gnew))⟩⟩
  by_cases hjk : j = k
  · subst hjk; exact ⟨v, m, ys, by simp [hl, hkn], hF _ _ _ _ hv, hD⟩
  · obtain ⟨g, m, ys, h1, h2, h3⟩ := h.done j (by omega)
    exact ⟨g, m, ys, by rw [List.getElem?_set_ne (by omega)]; exact h1, hF _ _ _ _ h2, h3⟩

/-- The third pass is over: the fourth begins. -/
theorem P2.again {e eS : TypeId} {enc : Nat → Nat → Value} {L : Nat → Option Nat} {n : Nat} {u : Nat → Value} {ln : Nat → Nat} {D : Nat → Nat → List Value → Prop} {G : Nat} {w wr : World} {k : Nat} {L' : Nat → Option Nat} {gs : List Value}
    (h : P2 e eS enc L n u ln D G w wr k L' gs) (D' : Nat → Nat → List Value → Prop) : P2 e eS enc L n u ln D' G w wr 0 L' gs :=
  ⟨h.ext, h.lt, h.gown, h.gl, h.gnew, h.all, fun j hj => absurd hj (Nat.not_lt_zero j), h.kept⟩
theorem P2.quiet {e eS : TypeId} {enc : Nat → Nat → Value} {L : Nat → Option Nat} {n : Nat} {u : Nat → Value} {ln : Nat → Nat} {D : Nat → Nat → List Value → Prop} {G : Nat} {w wr wq : World} {k : Nat} {L' : Nat → Option Nat} {gs : List Value}
    (h : P2 e eS enc L n u ln D G w wr k L' gs) (q : Quiet wr wq) : P2 e eS enc L n u ln D G w wq k L' gs := h.step (q.kept (fun _ => False)) (fun _ hb => hb.elim)
theorem P2.alloc {e eS : TypeId} {enc : Nat → Nat → Value} {L : Nat → Option Nat} {n : Nat} {u : Nat → Value} {ln : Nat → Nat} {D : Nat → Nat → List Value → Prop} {G : Nat} {w wr : World} {k : Nat} {L' : Nat → Option Nat} {gs : List Value}
    (h : P2 e eS enc L n u ln D G w wr k L' gs) (o : Obj) : P2 e eS enc L n u ln D G w (wr.alloc o) k L' gs := h.step ((Kept.refl (fun _ => False) wr).alloc o) (fun _ hb => hb.elim)
/-- What the second pass leaves of a list that has grown. -/
def Grew (enc : Nat → Nat → Value) (ln : Nat → Nat) (j m : Nat) (ys : List Value) : Prop := m = ln j + 64 ∧ ys = mks enc j (ln j + 64)
/-- What the fourth pass leaves. -/
def Grew2 (enc : Nat → Nat → Value) (ln : Nat → Nat) (j m : Nat) (ys : List Value) : Prop := ln j ≤ m ∧ ys.take (ln j) = mks enc j (ln j)
/-- A place of a list as a cell. -/
theorem Fam.cell {w : World} {e : TypeId} {L : Nat → Option Nat} {j n i : Nat} {u : Value} {ys : List Value} (h : Fam w e L j u n ys) (hi : i < n) : ∃ g c, u = .slice (some ⟨g, 0, none⟩) n c ∧ w.cell? ⟨g, i, none⟩ = ys[i]? := by
  obtain ⟨g, c, old, h1, h2, h3, h4, -⟩ := h.store hi
  exact ⟨g, c, h1, by rw [h3, h4]⟩

end Go.Proofs.YtmhmhpdpiikjiaaGreat
