/- What the walks of this family lean on: worlds that are kept but for some blocks; rows of cells that are read; append and make onto rows of one's own. No program in sight. -/
import Derived.WalkKit
import Derived.WalkSpells
import Derived.WalkLawsBesides
import Derived.Lib.Hide
import Derived.Outline
import Derived.Deep.QuietTactic
import Derived.BigQuiet
namespace Go.Proofs.YtmhmhpdpiikjiaaGreat
open Go.RowKit

/-- The streams are alike, no block is gone, and blocks outside S are as they were. -/
structure Kept (S : Nat → Prop) (w w' : World) : Prop where
  os : w'.os = w.os
  tape : w'.tape = w.tape
  output : w'.output = w.output
  size : w.heap.size ≤ w'.heap.size
  block : ∀ k, k < w.heap.size → ¬ S k → w'.heap[k]? = w.heap[k]?

theorem Kept.refl (S : Nat → Prop) (w : World) : Kept S w w := ⟨rfl, rfl, rfl, Nat.le_refl _, fun _ _ _ => rfl⟩
theorem Kept.trans {S : Nat → Prop} {a b c : World} (h : Kept S a b) (k : Kept S b c) : Kept S a c :=
  ⟨k.os.trans h.os, k.tape.trans h.tape, k.output.trans h.output, Nat.le_trans h.size k.size,
    fun i hi hs => (k.block i (Nat.lt_of_lt_of_le hi h.size) hs).trans (h.block i hi hs)⟩
/-- In steps: what the second step turns is of the first's S, or was made since. -/
theorem Kept.thenOwn {S T : Nat → Prop} {a b c : World} (h : Kept S a b) (k : Kept T b c) (hT : ∀ i, T i → S i ∨ a.heap.size ≤ i) : Kept S a c :=
  ⟨k.os.trans h.os, k.tape.trans h.tape, k.output.trans h.output, Nat.le_trans h.size k.size,
    fun i hi hs => (k.block i (Nat.lt_of_lt_of_le hi h.size) (fun ht => by rcases hT i ht with h1 | h1; exact hs h1; omega)).trans (h.block i hi hs)⟩
theorem Kept.mono {S T : Nat → Prop} {a b : World} (h : Kept S a b) (hT : ∀ i, S i → T i) : Kept T a b :=
  ⟨h.os, h.tape, h.output, h.size, fun i hi hs => h.block i hi fun g => hs (hT i g)⟩
theorem Kept.ofBelow {B : Nat} {a b : World} (h : Below B a b) (S : Nat → Prop) (hS : ∀ i, i < a.heap.size → ¬ S i → i < B) : Kept S a b :=
  ⟨h.os, h.tape, h.output, h.size, fun i hi hs => h.block i (hS i hi hs)⟩
theorem Kept.ofFresh {a b : World} (h : Below a.heap.size a b) (S : Nat → Prop) : Kept S a b := Kept.ofBelow h S fun _ hi _ => hi
theorem Kept.below {S : Nat → Prop} {a b : World} (h : Kept S a b) (B : Nat) (hB : B ≤ a.heap.size) (hS : ∀ i, i < B → ¬ S i) : Below B a b :=
  ⟨h.os, h.tape, h.output, h.size, fun i hi => h.block i (by omega) (hS i hi)⟩
theorem Kept.fresh {S : Nat → Prop} {a b : World} (h : Kept S a b) (hS : ∀ i, i < a.heap.size → ¬ S i) : Below a.heap.size a b := h.below _ (Nat.le_refl _) hS
theorem Kept.ofGrown {a b : World} {row : Option Nat} (h : a.grownBy b row) : Kept (fun k => row = some k) a b :=
  ⟨h.os, h.tape, h.output, h.size, fun i hi hs => h.block i hi fun e => hs e.symm⟩
theorem Kept.drewN {S : Nat → Prop} {a b : World} (h : Kept S a b) (n : Nat) : Kept S a (b.drewN n) := ⟨h.os, h.tape, h.output, h.size, h.block⟩
theorem Kept.drew {S : Nat → Prop} {a b : World} (h : Kept S a b) : Kept S a b.drew := ⟨h.os, h.tape, h.output, h.size, h.block⟩
theorem Kept.alloc {S : Nat → Prop} {a b : World} (h : Kept S a b) (o : Obj) : Kept S a (b.alloc o) :=
  h.trans ⟨rfl, rfl, rfl, by simp, fun k hk _ => Below.heap_alloc _ _ _ hk⟩
theorem Kept.setCell {S : Nat → Prop} {a b : World} (h : Kept S a b) {p : Addr} (hp : S p.block ∨ a.heap.size ≤ p.block) (u : Value) : Kept S a (b.setCell p u) :=
  h.thenOwn (T := fun k => k = p.block) ⟨rfl, rfl, rfl, by simp [World.setCell], fun k _ hs => Below.heap_setCell _ _ _ _ hs⟩ (by rintro i rfl; exact hp)
theorem Kept.cell {S : Nat → Prop} {w w' : World} (h : Kept S w w') {p : Addr} (hp : p.block < w.heap.size) (hs : ¬ S p.block) : w'.cell? p = w.cell? p := World.cell?_of_block (w := w) (h.block p.block hp hs)
theorem Kept.frozen {S : Nat → Prop} {w w' : World} (h : Kept S w w') {p : Addr} (hp : p.block < w.heap.size) (hs : ¬ S p.block) : w'.frozen? p = w.frozen? p := World.frozen?_of_block (w := w) (h.block p.block hp hs)
theorem Kept.heap {S : Nat → Prop} {w w' : World} (h : Kept S w w') {b : Nat} {o : Obj} (hb : w.heap[b]? = some o) (hs : ¬ S b) : w'.heap[b]? = some o :=
  (h.block b (lt_of_block hb) hs).trans hb
theorem below_of_drewN {w : World} {B n : Nat} : Below B w (w.drewN n) := ⟨rfl, rfl, rfl, Nat.le_refl _, fun _ _ => rfl⟩

/-- v is a slice of n elements whose cells, one behind the other, read as ys. -/
def Row (w : World) (v : Value) (n : Nat) (ys : List Value) : Prop :=
  ∃ a c, v = .slice a n c ∧ n ≤ c ∧ c ≤ maxLen ∧ (a = none → c = 0) ∧ ∀ j, j < ys.length → ∃ b off, a = some ⟨b, off, none⟩ ∧ w.cell? ⟨b, off + j, none⟩ = ys[j]?

theorem Row.nil (w : World) : Row w (.slice none 0 0) 0 [] := ⟨none, 0, rfl, Nat.le_refl _, Nat.zero_le _, fun _ => rfl, fun j hj => absurd hj (Nat.not_lt_zero j)⟩
theorem Row.kept {w w' : World} {v : Value} {n : Nat} {ys : List Value} (h : Row w v n ys)
    (hb : ∀ b, v.ownBlock = some b → b < w.heap.size → w'.heap[b]? = w.heap[b]?) : Row w' v n ys := by
  obtain ⟨a, c, rfl, h1, h2, h3, h4⟩ := h
  refine ⟨a, c, rfl, h1, h2, h3, fun j hj => ?_⟩
  obtain ⟨b, off, rfl, hc⟩ := h4 j hj
  refine ⟨b, off, rfl, ?_⟩
  rw [← hc]
  refine World.cell?_of_block (w := w) (a := ⟨b, off + j, none⟩) (hb b rfl ?_)
  have : w.cell? ⟨b, off + j, none⟩ = some ys[j] := by rw [hc]; simp [hj]
  exact World.block_lt_of_cell? _ _ this
theorem Row.lt {w : World} {v : Value} {n : Nat} {ys : List Value} (h : Row w v n ys) (h0 : 0 < ys.length) : ∃ b, v.ownBlock = some b ∧ b < w.heap.size := by
  obtain ⟨a, c, rfl, h1, h2, h3, h4⟩ := h
  obtain ⟨b, off, rfl, hc⟩ := h4 0 h0
  refine ⟨b, rfl, ?_⟩
  have : w.cell? ⟨b, off + 0, none⟩ = some ys[0] := by rw [hc]; simp [h0]
  exact World.block_lt_of_cell? _ _ this
theorem Row.keptBy {S : Nat → Prop} {w w' : World} {v : Value} {n : Nat} {ys : List Value} (h : Row w v n ys) (k : Kept S w w') (hs : ∀ b, v.ownBlock = some b → ¬ S b) : Row w' v n ys :=
  h.kept fun b hb hlt => k.block b hlt (hs b hb)
theorem Row.below {w w' : World} {v : Value} {n : Nat} {ys : List Value} (h : Row w v n ys) (k : Below w.heap.size w w') : Row w' v n ys :=
  h.kept fun b _ hlt => k.block b hlt
theorem Row.drewN {w : World} {v : Value} {n : Nat} {ys : List Value} (h : Row w v n ys) (k : Nat) : Row (w.drewN k) v n ys := h
theorem Row.le {w : World} {v : Value} {n : Nat} {ys : List Value} (h : Row w v n ys) : n ≤ 9223372036854775807 := by
  obtain ⟨a, c, rfl, h1, h2, -⟩ := h; unfold maxLen at h2; omega
/-- Element k of a row of one-cell elements. -/
theorem Row.at {α : Type} {w : World} {a : Option Addr} {enc : α → Value} {xs : List α}
    (h : ∀ j, j < (xs.map enc).length → ∃ b off, a = some ⟨b, off, none⟩ ∧ w.cell? ⟨b, off + j, none⟩ = (xs.map enc)[j]?) (k : Nat) (hk : k < xs.length) :
    ∃ b off, a = some ⟨b, off, none⟩ ∧ w.cell? ⟨b, off + k, none⟩ = some (enc xs[k]) := by
  obtain ⟨b, off, h1, h2⟩ := h k (by simpa using hk)
  exact ⟨b, off, h1, by rw [h2]; simp [hk]⟩
theorem World.ownsRow.row {w : World} {base : Nat} {e : TypeId} {size : Nat} {v : Value} {n : Nat} {xs : List Value} (h : w.ownsRow base e size v n xs) : Row w v n xs := by
  obtain ⟨hl, ⟨rfl, rfl⟩ | ⟨g, cap, cur, rfl, hb, hg, h1, h2, h3, h4⟩⟩ := h
  · have : xs = [] := List.eq_nil_of_length_eq_zero (by simpa using hl)
    subst this; exact Row.nil w
  · refine ⟨_, cap, rfl, h1, h2, (by simp), fun j hj => ⟨g, 0, rfl, ?_⟩⟩
    rw [cell_of_row w g _ cur e (0, 0) hg, ← h4, List.getElem?_take, if_pos (by omega)]
    simp


def capOf : Value → Nat | .slice _ _ c => c | _ => 0
/-- What an append has done: in place, or into the block that came next. -/
def AppCase (w w' : World) (v v' : Value) : Prop :=
  (v'.ownBlock = v.ownBlock ∧ capOf v' = capOf v ∧ w.grownBy w' v.ownBlock) ∨ (v'.ownBlock = some w.heap.size ∧ w.heap.size < w'.heap.size ∧ w.grownBy w' none)
theorem AppCase.grown {w w' : World} {v v' : Value} (h : AppCase w w' v v') : w.grownBy w' v.ownBlock := by
  rcases h with ⟨-, -, h⟩ | ⟨-, -, h⟩
  · exact h
  · exact ⟨h.os, h.tape, h.output, h.size, fun k hk _ => h.block k hk (by simp)⟩

theorem run_append_row {P : Program} (w : World) (t ty e : TypeId) (i : TypeInfo) (z : Value) (size bytes : Nat) (ht : P.underlying t = some (.slice e)) (hi : P.info? e = some i) (hz : i.zero = some z)
    (hsize : i.size = size) (hby : i.bytes = bytes) (hzs : z.cells.size = size) (hsz : 0 < size)
    (v : Value) (n : Nat) (xs : List Value) (hown : w.ownsRow 0 e size v n xs)
    (x : Value) (m : Nat) (news : List Value) (hl : news.length = m * size) (hx : Row w x m news) (h1 : ∀ u ∈ news, u.oneCell' = true)
    (h63 : n + m ≤ maxLen) (hbytes : (n + m) * bytes ≤ 140737488355328) :
    ∃ v' w', (Builtin.append_ #[t, t] ty #[v, x]).run P w = .ok v' w' ∧ w'.ownsRow 0 e size v' (n + m) (xs ++ news) ∧ AppCase w w' v v' ∧
      (v' = .slice none 0 0 ↔ v = .slice none 0 0 ∧ m = 0) := by
  obtain ⟨xa, xc, rfl, hx1, hx2, hx3, hx4⟩ := hx
  subst hsize
  subst hby
  have hsmall : n + m ≤ 9223372036854775807 := by simp only [maxLen] at h63; omega
  have hlen : (xs ++ news).length = (n + m) * i.size := by rw [List.length_append, hown.1, hl, Nat.add_mul]
  by_cases hm : m = 0
  · subst hm
    have hn : news = [] := List.eq_nil_of_length_eq_zero (by simpa using hl)
    subst hn
    refine ⟨v, w, ?_, by simpa using hown, Or.inl ⟨rfl, rfl, ⟨rfl, rfl, rfl, Nat.le_refl _, fun _ _ _ => rfl⟩⟩, by simp⟩
    rcases hown.2 with ⟨rfl, rfl⟩ | ⟨g, cap, cur, rfl, hbg, hg, hnc, hcm, hcs, htake⟩
    · cases xa <;> simp [Builtin.append_, run_underlying ht, sizeOf, typeInfo, hi, Builtin.lenOf, Builtin.firstCells, loadCells, loadCellsFrom]
    · cases xa <;> simp [Builtin.append_, run_underlying ht, sizeOf, typeInfo, hi, Builtin.lenOf, Builtin.firstCells, loadCells, loadCellsFrom, hnc, storeCells]
  · have hpos : 0 < news.length := by rw [hl]; exact Nat.mul_pos (by omega) hsz
    obtain ⟨b, off, rfl, -⟩ := hx4 0 hpos
    have hnews : ∀ j u, news[j]? = some u → w.cell? ((⟨b, off, none⟩ : Addr).add j) = some u := by
      intro j u hu
      have hj : j < news.length := by
        rcases Nat.lt_or_ge j news.length with h | h
        · exact h
        · rw [List.getElem?_eq_none h] at hu; cases hu
      obtain ⟨b', off', h2, h3⟩ := hx4 j hj
      simp only [Option.some.injEq, Addr.mk.injEq, and_true] at h2
      obtain ⟨rfl, rfl⟩ := h2
      rw [Addr.add_lit, h3, hu]
    have grown : ∀ (old : Nat), old < n + m → ∀ (row : Option Nat),
        (w.drew.alloc (.cells (xs.toArray ++ news.toArray ++ Builtin.zeroCells z.cells (grownCap w (n + m) old e - (n + m))) e)).ownsRow 0 e i.size
          (.slice (some ⟨w.heap.size, 0, none⟩) (n + m) (grownCap w (n + m) old e)) (n + m) (xs ++ news) ∧
        w.grownBy (w.drew.alloc (.cells (xs.toArray ++ news.toArray ++ Builtin.zeroCells z.cells (grownCap w (n + m) old e - (n + m))) e)) row := by
      intro old ho row
      have hge := grownCap_ge w (n + m) old e
      have hcm : grownCap w (n + m) old e ≤ maxLen := grownCap_le_maxLen w (n + m) old e h63
      refine ⟨⟨hlen, .inr ⟨w.heap.size, _, _, rfl, Nat.zero_le _, heap_alloc_new w.drew _, hge, hcm, ?_, ?_⟩⟩, ⟨rfl, rfl, rfl, by simp, fun k hk _ => Below.heap_alloc w.drew _ k hk⟩⟩
      · simp only [Array.size_append, List.size_toArray, size_zeroCells, hzs, hown.1, hl, ← Nat.add_mul]
        congr 1
        omega
      · simp only [Array.toList_append, List.append_assoc]
        rw [← List.append_assoc, ← hlen]
        exact List.take_left
    rcases hown.2 with ⟨rfl, rfl⟩ | ⟨g, cap, cur, rfl, hbg, hg, hnc, hcm, hcs, htake⟩
    · have hx : xs = [] := List.eq_nil_of_length_eq_zero (by simpa using hown.1)
      subst hx
      have hr := run_append_nil (P := P) w t ty e i z ht hi hz ⟨b, off, none⟩ m xc news hl hnews (by omega) (by omega) (by have hb := hbytes; simp only [Nat.zero_add] at hb; omega)
      have hgr := grown 0 (by omega) none
      simp only [Nat.zero_add, List.nil_append, Array.empty_append] at hgr ⊢
      exact ⟨_, _, hr, hgr.1, Or.inr ⟨rfl, by simp, hgr.2⟩, by simp [hm]⟩
    · by_cases hroom : n + m ≤ cap
      · have hfit : n * i.size + news.length ≤ cur.size := by rw [hl, hcs, ← Nat.add_mul]; exact Nat.mul_le_mul_right _ hroom
        have hr := run_append_room (P := P) w t ty e i ht hi g n cap cur hg ⟨b, off, none⟩ m xc news hl hnews h1 hroom hfit
        refine ⟨_, _, hr, ⟨hlen, .inr ⟨g, cap, _, rfl, hbg, setRow_heap w g cur _ e _ hg, hroom, hcm, ?_, ?_⟩⟩, Or.inl ⟨rfl, rfl, ⟨rfl, rfl, rfl, by simp, fun k _ hk => setRow_other w g k _ (fun e => hk (by simp [Value.ownBlock, e]))⟩⟩, by simp⟩
        · simp only [List.size_toArray, List.length_append, List.length_take, List.length_drop, Array.length_toList]
          omega
        · rw [htake, ← hlen]
          exact List.take_left
      · have holds : ∀ j u, xs[j]? = some u → w.cell? ((⟨g, 0, none⟩ : Addr).add j) = some u := hown.cells (g := g) rfl
        have hr := run_append_grow (P := P) w t ty e i z ht hi hz ⟨g, 0, none⟩ n cap xs hown.1 holds ⟨b, off, none⟩ m xc news hl hnews (by omega) (by omega) (growslice_fits (by omega) hbytes)
        have hgr := grown cap (by omega) none
        exact ⟨_, _, hr, hgr.1, Or.inr ⟨rfl, by simp, hgr.2⟩, by simp⟩

theorem wpList_append_row {P : Program} {w : World} {ops : Array Oper} {rest : List Oper} {o : Oper} {a : Act} {Q : Exit → Act → World → Prop} (hgd : o.guard = none) (s x : Operand) (t : TypeId)
    (ho : o.op = .call { callee := .builtin .append, args := #[s, x], argTypes := #[t, t] })
    (e : TypeId) {z : Value} {size bytes : Nat} (hinfo : (P.info? e).map (fun i => (i.zero, i.size, i.bytes)) = some (some z, size, bytes)) (ht : P.underlying t = some (.slice e)) (hzs : z.cells.size = size) (hsz : 0 < size)
    (v : Value) (n : Nat) (xs : List Value) (hs : a.eval s = v) (hown : w.ownsRow 0 e size v n xs)
    (xv : Value) (m : Nat) (news : List Value) (hxv : a.eval x = xv) (hx : Row w xv m news) (hl : news.length = m * size) (h1 : ∀ u ∈ news, u.oneCell' = true)
    (h63 : n + m ≤ maxLen) (hbytes : (n + m) * bytes ≤ 140737488355328)
    (h : ∀ v' w', w'.ownsRow 0 e size v' (n + m) (xs ++ news) → AppCase w w' v v' → (v' = .slice none 0 0 ↔ v = .slice none 0 0 ∧ m = 0) → wpList P ops Q rest (a.put o.dst v') w') : wpList P ops Q (o :: rest) a w := by
  obtain ⟨i, hi, hz, hsize, hby⟩ := info_parts hinfo
  obtain ⟨v', w', hr, h2, h3, h4⟩ := run_append_row (P := P) w t o.type e i z size bytes ht hi hz hsize hby hzs hsz v n xs hown xv m news hl hx h1 h63 hbytes
  refine wpList_plain hgd fun K hK => ?_
  unfold Oper.wp execOp
  simp only [ho, resolve, invoke, builtin, Sem.run_bind, Sem.run_pure, Result.andThen_ok, List.map_toArray, List.map_cons, List.map_nil, hs, hxv, hr]
  exact hK _ _ (h v' w' h2 h3 h4)

/-- append within the capacity: the value is known. -/
theorem wpList_append_fits_row {P : Program} {w : World} {ops : Array Oper} {rest : List Oper} {o : Oper} {a : Act} {Q : Exit → Act → World → Prop} (hgd : o.guard = none) (s x : Operand) (t : TypeId)
    (ho : o.op = .call { callee := .builtin .append, args := #[s, x], argTypes := #[t, t] })
    (e : TypeId) {z : Value} {size bytes : Nat} (hinfo : (P.info? e).map (fun i => (i.zero, i.size, i.bytes)) = some (some z, size, bytes)) (ht : P.underlying t = some (.slice e))
    (g n cap : Nat) (xs : List Value) (hs : a.eval s = .slice (some ⟨g, 0, none⟩) n cap) (hown : w.ownsRow 0 e size (.slice (some ⟨g, 0, none⟩) n cap) n xs)
    (xv : Value) (m : Nat) (news : List Value) (hxv : a.eval x = xv) (hx : Row w xv m news) (hl : news.length = m * size) (h1 : ∀ u ∈ news, u.oneCell' = true)
    (hroom : n + m ≤ cap)
    (h : ∀ w', w'.ownsRow 0 e size (.slice (some ⟨g, 0, none⟩) (n + m) cap) (n + m) (xs ++ news) → w.grownBy w' (some g) → wpList P ops Q rest (a.put o.dst (.slice (some ⟨g, 0, none⟩) (n + m) cap)) w') : wpList P ops Q (o :: rest) a w := by
  obtain ⟨i, hi, hz, hsize, hby⟩ := info_parts hinfo
  obtain ⟨xa, xc, rfl, hx1, hx2, hx3, hx4⟩ := hx
  refine wpList_append_fits_any w hgd s x t ho 0 e i size ht hi hsize g n cap xs hs hown xa m xc news hxv hl (fun h => ⟨by have := hx3 h; omega, hx3 h⟩) ?_ h1 hroom h
  intro ad had j u hu
  have hj : j < news.length := by
    rcases Nat.lt_or_ge j news.length with h | h
    · exact h
    · rw [List.getElem?_eq_none h] at hu; cases hu
  obtain ⟨b, off, h2, h3⟩ := hx4 j hj
  rw [had] at h2
  obtain rfl := Option.some.inj h2
  rw [Addr.add_lit, h3, hu]

/-- What a slice literal's own block reads as. -/
theorem Row.lit (w : World) (cs : Array Value) (e : TypeId) (n : Nat) (h : n ≤ maxLen) : Row (w.alloc (.cells cs e)) (.slice (some ⟨w.heap.size, 0, none⟩) n n) n cs.toList :=
  ⟨_, n, rfl, Nat.le_refl _, h, by simp, fun j _ => ⟨w.heap.size, 0, rfl, by rw [Nat.zero_add, cell_of_row _ _ _ cs e (0, 0) (heap_alloc_new w _)]; simp⟩⟩

abbrev ints (k : IntKind) (xs : List Int) : List Value := xs.map (Value.int k)
theorem ints_one (k : IntKind) (xs : List Int) : ∀ u ∈ ints k xs, u.oneCell' = true := ints_oneCell k xs

theorem grownBy.below {w0 w w' : World} {row : Option Nat} (hg : w.grownBy w' row) (h : Below w0.heap.size w0 w) (hr : ∀ k, row = some k → w0.heap.size ≤ k) : Below w0.heap.size w0 w' :=
  h.grown hg h.size hr

/-- Nothing but draws. -/
def Quiet (w w' : World) : Prop := ∃ n, w' = w.drewN n
theorem Quiet.refl (w : World) : Quiet w w := ⟨0, rfl⟩
theorem Quiet.drewN {w w' : World} (h : Quiet w w') (n : Nat) : Quiet w (w'.drewN n) := by obtain ⟨m, rfl⟩ := h; exact ⟨m + n, World.drewN_drewN _ _ _⟩
theorem Quiet.drew {w w' : World} (h : Quiet w w') : Quiet w w'.drew := h.drewN 1
theorem Quiet.trans {a b c : World} (h : Quiet a b) (k : Quiet b c) : Quiet a c := by obtain ⟨n, rfl⟩ := k; exact h.drewN n
theorem Quiet.cell {w w' : World} (h : Quiet w w') (p : Addr) : w'.cell? p = w.cell? p := by obtain ⟨n, rfl⟩ := h; rfl
theorem Quiet.frozen {w w' : World} (h : Quiet w w') (p : Addr) : w'.frozen? p = w.frozen? p := by obtain ⟨n, rfl⟩ := h; rfl
theorem Quiet.heap {w w' : World} (h : Quiet w w') : w'.heap = w.heap := by obtain ⟨n, rfl⟩ := h; rfl
theorem Quiet.row {w w' : World} (h : Quiet w w') {v : Value} {n : Nat} {ys : List Value} (r : Row w v n ys) : Row w' v n ys := by obtain ⟨n, rfl⟩ := h; exact r
theorem Quiet.below {w w' : World} (h : Quiet w w') (B : Nat) : Below B w w' := by obtain ⟨n, rfl⟩ := h; exact below_of_drewN
theorem Quiet.kept {w w' : World} (h : Quiet w w') (S : Nat → Prop) : Kept S w w' := by obtain ⟨n, rfl⟩ := h; exact (Kept.refl S w).drewN n
/-- Element k of a row of one-cell elements, in whatever world that has but drawn. -/
theorem Row.atQ {α : Type} {w : World} {a : Option Addr} {enc : α → Value} {xs : List α}
    (h : ∀ j, j < (xs.map enc).length → ∃ b off, a = some ⟨b, off, none⟩ ∧ w.cell? ⟨b, off + j, none⟩ = (xs.map enc)[j]?) (wr : World) (q : Quiet w wr) (k : Nat) (hk : k < xs.length) :
    ∃ b off, a = some ⟨b, off, none⟩ ∧ wr.cell? ⟨b, off + k, none⟩ = some (enc xs[k]) := by
  obtain ⟨b, off, h1, h2⟩ := h k (by simpa using hk)
  exact ⟨b, off, h1, by rw [q.cell, h2]; simp [hk]⟩
theorem Row.atQ' {w : World} {a : Option Addr} {xs : List Value}
    (h : ∀ j, j < xs.length → ∃ b off, a = some ⟨b, off, none⟩ ∧ w.cell? ⟨b, off + j, none⟩ = xs[j]?) (wr : World) (q : Quiet w wr) (k : Nat) (hk : k < xs.length) :
    ∃ b off, a = some ⟨b, off, none⟩ ∧ wr.cell? ⟨b, off + k, none⟩ = some xs[k] := by
  obtain ⟨b, off, h1, h2⟩ := h k hk
  exact ⟨b, off, h1, by rw [q.cell, h2]; simp [hk]⟩
/-- A contract of a callee that only reads, as a region that only reads wants it. -/
theorem Calls.quietAt {P : Program} {f : FuncId} {args : Array Value} {w : World} {n : Nat} {v : Value}
    (h : Calls P f args (w.drewN n) fun e w' => e = .returned v ∧ Quiet (w.drewN n) w') : Calls P f args (w.drewN n) fun e w'' => e = .returned v ∧ ∃ m, w'' = w.drewN m :=
  h.mono fun _ _ ⟨he, m, hm⟩ => ⟨he, n + m, by rw [hm, World.drewN_drewN]⟩

/-- make([]T, 0, n). -/
theorem wpList_make_cap {P : Program} {w : World} {ops : Array Oper} {rest : List Oper} {o : Oper} {a : Act} {Q : Exit → Act → World → Prop} (hgd : o.guard = none) (l c : Operand) (t : TypeId) (ho : o.op = Op.makeSlice t l c)
    (e : TypeId) {z : Value} {size bytes : Nat} (hinfo : (P.info? e).map (fun i => (i.zero, i.size, i.bytes)) = some (some z, size, bytes)) (ht : P.underlying t = some (.slice e))
    (kl kc : IntKind) (C : Int) (n : Nat) (hl : a.eval l = .int kl 0) (hc : a.eval c = .int kc C) (hC : C = (n : Int)) (b2 : bytes * n ≤ 281474976710656) (b3 : n ≤ maxLen)
    (hK : ∀ w', w'.ownsRow 0 e size (.slice (some ⟨w.heap.size, 0, none⟩) 0 n) 0 [] → w.grownBy w' none → wpList P ops Q rest (a.put o.dst (.slice (some ⟨w.heap.size, 0, none⟩) 0 n)) w') :
    wpList P ops Q (o :: rest) a w := by
  obtain ⟨i, hi, hz, hsize, hby⟩ := info_parts hinfo
  exact wpList_make_own w hgd l c t ho 0 e i z size ht hi hz hsize kl kc C n hl hc hC (by rw [hby]; exact b2) b3 (Nat.zero_le _) hK

/-- make([]T, n). -/
theorem wpList_make_len {P : Program} {w : World} {ops : Array Oper} {rest : List Oper} {o : Oper} {a : Act} {Q : Exit → Act → World → Prop} (hgd : o.guard = none) (l c : Operand) (t : TypeId) (ho : o.op = Op.makeSlice t l c)
    (e : TypeId) {z : Value} {size bytes : Nat} (hinfo : (P.info? e).map (fun i => (i.zero, i.size, i.bytes)) = some (some z, size, bytes)) (ht : P.underlying t = some (.slice e))
    (kl kc : IntKind) (L C : Int) (n : Nat) (hl : a.eval l = .int kl L) (hc : a.eval c = .int kc C) (hL : L = (n : Int)) (hC : C = (n : Int)) (b2 : bytes * n ≤ 281474976710656) (b3 : n ≤ maxLen)
    (hK : ∀ w', w'.ownsRow 0 e size (.slice (some ⟨w.heap.size, 0, none⟩) n n) n (madeCells z.cells (n * size)).toList → w.grownBy w' none → wpList P ops Q rest (a.put o.dst (.slice (some ⟨w.heap.size, 0, none⟩) n n)) w') :
    wpList P ops Q (o :: rest) a w := by
  obtain ⟨i, hi, hz, hsize, hby⟩ := info_parts hinfo
  exact wpList_make_full w hgd l c t ho 0 e i z size ht hi hz hsize kl kc L C n hl hc hL hC (by rw [hby]; exact b2) b3 (Nat.zero_le _) hK

theorem ownsRow.nilOf {w : World} {e : TypeId} {size : Nat} {v : Value} {n : Nat} {xs : List Value} (h : w.ownsRow 0 e size v n xs) (h0 : v.ownBlock = none) : v = .slice none 0 0 ∧ n = 0 ∧ xs = [] := by
  obtain ⟨hl, ⟨rfl, rfl⟩ | ⟨g, cap, cur, rfl, -⟩⟩ := h
  · exact ⟨rfl, rfl, List.eq_nil_of_length_eq_zero (by simpa using hl)⟩
  · simp [Value.ownBlock] at h0
theorem ownsRow.someOf {w : World} {e : TypeId} {size : Nat} {v : Value} {n g : Nat} {xs : List Value} (h : w.ownsRow 0 e size v n xs) (h0 : v.ownBlock = some g) :
    v = .slice (some ⟨g, 0, none⟩) n (capOf v) ∧ n ≤ capOf v ∧ capOf v ≤ maxLen ∧ ∃ cur : Array Value, w.heap[g]? = some (.cells cur e (0, 0)) ∧ cur.size = capOf v * size ∧ cur.toList.take (n * size) = xs := by
  obtain ⟨hl, ⟨rfl, rfl⟩ | ⟨g', cap, cur, rfl, -, h3, h4, h5, h6, h7⟩⟩ := h
  · simp [Value.ownBlock] at h0
  · simp only [Value.ownBlock, Option.some.injEq] at h0
    subst h0
    exact ⟨rfl, h4, h5, cur, h3, h6, h7⟩
/-- A shorter row at the same block reads the beginning. -/
theorem ownsRow.prefix_ {w w' : World} {e : TypeId} {size : Nat} {u v : Value} {n m : Nat} {xs ys : List Value} (hu : w.ownsRow 0 e size u n xs) (hv : w'.ownsRow 0 e size v m ys)
    (hb : u.ownBlock = v.ownBlock) (hc : capOf u = capOf v) (hn : n ≤ m) : w'.ownsRow 0 e size u n (ys.take (n * size)) := by
  cases hg : v.ownBlock with
  | none =>
    obtain ⟨rfl, rfl, rfl⟩ := ownsRow.nilOf hu (hb.trans hg)
    simpa using World.ownsRow_nil w' 0 e size
  | some g =>
    obtain ⟨h1, h2, h3, cur, h4, h5, h6⟩ := ownsRow.someOf hv hg
    obtain ⟨k1, k2, k3, cur0, k4, k5, k6⟩ := ownsRow.someOf hu (hb.trans hg)
    refine ⟨?_, Or.inr ⟨g, capOf u, cur, k1, Nat.zero_le _, h4, k2, k3, by rw [h5, hc], ?_⟩⟩
    · rw [← h6, List.take_take, Nat.min_eq_left (Nat.mul_le_mul_right _ hn), List.length_take, Array.length_toList, h5, Nat.min_eq_left]
      exact Nat.mul_le_mul_right _ (by omega)
    · rw [← h6, List.take_take, Nat.min_eq_left (Nat.mul_le_mul_right _ hn)]
/-- Two rows at one block: one is the beginning of the other, and they have one capacity. -/
theorem ownsRow.agree {w : World} {e : TypeId} {size : Nat} {u v : Value} {n m : Nat} {xs ys : List Value} (hsz : 0 < size) (hu : w.ownsRow 0 e size u n xs) (hv : w.ownsRow 0 e size v m ys) {g : Nat}
    (h1 : u.ownBlock = some g) (h2 : v.ownBlock = some g) (hn : n ≤ m) : capOf u = capOf v ∧ xs = ys.take (n * size) := by
  obtain ⟨a1, a2, a3, cur, a4, a5, a6⟩ := ownsRow.someOf hu h1
  obtain ⟨b1, b2, b3, cur', b4, b5, b6⟩ := ownsRow.someOf hv h2
  rw [a4] at b4
  simp only [Option.some.injEq, Obj.cells.injEq, and_true] at b4
  obtain ⟨rfl, -⟩ := b4
  refine ⟨?_, ?_⟩
  · rw [a5] at b5; exact Nat.eq_of_mul_eq_mul_right hsz b5
  · rw [← a6, ← b6, List.take_take, Nat.min_eq_left (Nat.mul_le_mul_right _ hn)]
theorem ownsRow.keptBy {S : Nat → Prop} {w w' : World} {e : TypeId} {size : Nat} {v : Value} {n : Nat} {xs : List Value} (h : w.ownsRow 0 e size v n xs) (k : Kept S w w') (hs : ∀ b, v.ownBlock = some b → ¬ S b) : w'.ownsRow 0 e size v n xs := by
  refine ⟨h.1, ?_⟩
  rcases h.2 with hn | ⟨g, cap, cur, rfl, hb, hgg, rest⟩
  · exact .inl hn
  · exact .inr ⟨g, cap, cur, rfl, hb, k.heap hgg (hs g rfl), rest⟩

/-- append as one step of a region that draws. -/
theorem step_append_row {P : Program} {w : World} {ops : Array Oper} {o : Oper} {a : Act} {K : Act → World → Prop} {Q : Exit → Act → World → Prop} {E : Prop} (hgd : o.guard = none) (s x : Operand) (t : TypeId)
    (ho : o.op = .call { callee := .builtin .append, args := #[s, x], argTypes := #[t, t] })
    (e : TypeId) {z : Value} {size bytes : Nat} (hinfo : (P.info? e).map (fun i => (i.zero, i.size, i.bytes)) = some (some z, size, bytes)) (ht : P.underlying t = some (.slice e)) (hzs : z.cells.size = size) (hsz : 0 < size)
    (v : Value) (n : Nat) (xs : List Value) (hs : a.eval s = v) (hown : w.ownsRow 0 e size v n xs)
    (xv : Value) (m : Nat) (news : List Value) (hxv : a.eval x = xv) (hx : Row w xv m news) (hl : news.length = m * size) (h1 : ∀ u ∈ news, u.oneCell' = true)
    (h63 : n + m ≤ maxLen) (hbytes : (n + m) * bytes ≤ 140737488355328)
    (h : ∀ v' w', w'.ownsRow 0 e size v' (n + m) (xs ++ news) → AppCase w w' v v' → (v' = .slice none 0 0 ↔ v = .slice none 0 0 ∧ m = 0) → K (a.put o.dst v') w') :
    if Region.wanted o (yielded ops a.tmps) = true then Oper.wp P o a w K Q else E := by
  obtain ⟨i, hi, hz, hsize, hby⟩ := info_parts hinfo
  obtain ⟨v', w', hr, h2, h3, h4⟩ := run_append_row (P := P) w t o.type e i z size bytes ht hi hz hsize hby hzs hsz v n xs hown xv m news hl hx h1 h63 hbytes
  have hw : Region.wanted o (yielded ops a.tmps) = true := by simp [Region.wanted, hgd]
  rw [if_pos hw]
  unfold Oper.wp execOp
  simp only [ho, resolve, invoke, builtin, Sem.run_bind, Sem.run_pure, Result.andThen_ok, List.map_toArray, List.map_cons, List.map_nil, hs, hxv, hr]
  exact h v' w' h2 h3 h4

end Go.Proofs.YtmhmhpdpiikjiaaGreat
