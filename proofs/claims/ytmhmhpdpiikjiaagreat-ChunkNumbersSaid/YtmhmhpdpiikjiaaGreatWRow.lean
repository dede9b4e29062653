/- Rows of one-cell elements whose block may reach further than their capacity ('x[:n:n]'). No program in sight. -/
import Derived.Test.YtmhmhpdpiikjiaaGreatLib
namespace Go.Proofs.YtmhmhpdpiikjiaaGreat
open Go.RowKit

/-- A slice that owns its block, of which it may be but the beginning. -/
def WRow (w : World) (e : TypeId) (v : Value) (n : Nat) (xs : List Value) : Prop :=
  xs.length = n ∧ ((v = .slice none 0 0 ∧ n = 0) ∨ ∃ g cap cur, v = .slice (some ⟨g, 0, none⟩) n cap ∧ w.heap[g]? = some (.cells cur e (0, 0)) ∧ n ≤ cap ∧ cap ≤ maxLen ∧ cap ≤ cur.size ∧ cur.toList.take n = xs)
/-- v's block is as long as it was. -/
def SizeKept (w w' : World) (v : Value) : Prop := ∀ b cs t z, v.ownBlock = some b → w.heap[b]? = some (.cells cs t z) → ∃ cs', w'.heap[b]? = some (.cells cs' t z) ∧ cs'.size = cs.size
theorem WRow.ofOwns {w : World} {e : TypeId} {v : Value} {n : Nat} {xs : List Value} (h : w.ownsRow 0 e 1 v n xs) : WRow w e v n xs := by
  obtain ⟨hl, h | ⟨g, cap, cur, rfl, -, h3, h4, h5, h6, h7⟩⟩ := h
  · exact ⟨by simpa using hl, .inl h⟩
  · exact ⟨by simpa using hl, .inr ⟨g, cap, cur, rfl, h3, h4, h5, by omega, by simpa using h7⟩⟩
theorem WRow.nil (w : World) (e : TypeId) : WRow w e (.slice none 0 0) 0 [] := ⟨rfl, .inl ⟨rfl, rfl⟩⟩
theorem WRow.keptBy {S : Nat → Prop} {w w' : World} {e : TypeId} {v : Value} {n : Nat} {xs : List Value} (h : WRow w e v n xs) (k : Kept S w w') (hs : ∀ b, v.ownBlock = some b → ¬ S b) : WRow w' e v n xs := by
  refine ⟨h.1, ?_⟩
  rcases h.2 with hn | ⟨g, cap, cur, rfl, hgg, rest⟩
  · exact .inl hn
  · exact .inr ⟨g, cap, cur, rfl, k.heap hgg (hs g rfl), rest⟩
theorem WRow.alloc {w : World} {e : TypeId} {v : Value} {n : Nat} {xs : List Value} (h : WRow w e v n xs) (o : Obj) : WRow (w.alloc o) e v n xs := h.keptBy ((Kept.refl (fun _ => False) w).alloc o) (fun _ _ h => h)
theorem WRow.lt {w : World} {e : TypeId} {v : Value} {n : Nat} {xs : List Value} (h : WRow w e v n xs) (b : Nat) (hb : v.ownBlock = some b) : b < w.heap.size := by
  rcases h.2 with ⟨rfl, _⟩ | ⟨g, cap, cur, rfl, h3, -⟩
  · simp [Value.ownBlock] at hb
  · simp only [Value.ownBlock, Option.some.injEq] at hb
    subst hb
    exact (Array.getElem?_eq_some_iff.1 h3).1
theorem WRow.nilOf {w : World} {e : TypeId} {v : Value} {n : Nat} {xs : List Value} (h : WRow w e v n xs) (h0 : v.ownBlock = none) : v = .slice none 0 0 ∧ n = 0 ∧ xs = [] := by
  obtain ⟨hl, ⟨rfl, rfl⟩ | ⟨g, cap, cur, rfl, -⟩⟩ := h
  · exact ⟨rfl, rfl, List.eq_nil_of_length_eq_zero hl⟩
  · simp [Value.ownBlock] at h0
theorem WRow.someOf {w : World} {e : TypeId} {v : Value} {n g : Nat} {xs : List Value} (h : WRow w e v n xs) (h0 : v.ownBlock = some g) :
    v = .slice (some ⟨g, 0, none⟩) n (capOf v) ∧ n ≤ capOf v ∧ capOf v ≤ maxLen ∧ ∃ cur : Array Value, w.heap[g]? = some (.cells cur e (0, 0)) ∧ capOf v ≤ cur.size ∧ cur.toList.take n = xs := by
  obtain ⟨hl, ⟨rfl, rfl⟩ | ⟨g', cap, cur, rfl, h3, h4, h5, h6, h7⟩⟩ := h
  · simp [Value.ownBlock] at h0
  · simp only [Value.ownBlock, Option.some.injEq] at h0
    subst h0
    exact ⟨rfl, h4, h5, cur, h3, h6, h7⟩
theorem WRow.cellAt {w : World} {e : TypeId} {g n cap : Nat} {xs : List Value} (h : WRow w e (.slice (some ⟨g, 0, none⟩) n cap) n xs) (j : Nat) (hj : j < n) : w.cell? ⟨g, j, none⟩ = xs[j]? := by
  obtain ⟨-, -, -, cur, h1, -, h2⟩ := h.someOf (g := g) rfl
  rw [cell_of_row w g j cur e (0, 0) h1, ← h2, List.getElem?_take, if_pos hj]; simp
theorem WRow.frozenAt {w : World} {e : TypeId} {g n cap : Nat} {xs : List Value} (h : WRow w e (.slice (some ⟨g, 0, none⟩) n cap) n xs) (j : Nat) : w.frozen? ⟨g, j, none⟩ = false := by
  obtain ⟨-, -, -, cur, h1, -, h2⟩ := h.someOf (g := g) rfl
  exact frozen_of_row w g j cur e h1
theorem WRow.row {w : World} {e : TypeId} {v : Value} {n : Nat} {xs : List Value} (h : WRow w e v n xs) : Row w v n xs := by
  have h0 := h
  obtain ⟨hl, ⟨rfl, rfl⟩ | ⟨g, cap, cur, rfl, h3, h4, h5, h6, h7⟩⟩ := h
  · obtain rfl : xs = [] := List.eq_nil_of_length_eq_zero hl
    exact Row.nil w
  · exact ⟨_, cap, rfl, h4, h5, by simp, fun j hj => ⟨g, 0, rfl, by rw [Nat.zero_add]; exact h0.cellAt j (by omega)⟩⟩
theorem WRow.stored {w : World} {e : TypeId} {g n cap : Nat} {xs : List Value} (h : WRow w e (.slice (some ⟨g, 0, none⟩) n cap) n xs) (i : Nat) (val : Value) : WRow (w.setCell ⟨g, i, none⟩ val) e (.slice (some ⟨g, 0, none⟩) n cap) n (xs.set i val) ∧ Kept (fun b => b = g) w (w.setCell ⟨g, i, none⟩ val) := by
  obtain ⟨hl, ⟨h1, -⟩ | ⟨g', cap', cur, h1, h3, h4, h5, h6, h7⟩⟩ := h
  · cases h1
  · simp only [Value.slice.injEq, Option.some.injEq, Addr.mk.injEq, and_true, true_and] at h1
    obtain ⟨rfl, rfl⟩ := h1
    refine ⟨⟨by simpa using hl, .inr ⟨g, cap, _, rfl, heap_setCell_same w g i cur e val h3, h4, h5, by simpa using h6, ?_⟩⟩, Kept.setCell (S := fun b => b = g) (p := ⟨g, i, none⟩) (Kept.refl _ w) (Or.inl rfl) _⟩
    rw [← h7, Array.toList_setIfInBounds, List.take_set]
theorem WRow.cells {w : World} {e : TypeId} {v : Value} {n g : Nat} {xs : List Value} (h : WRow w e v n xs) (hg : v.ownBlock = some g) : ∀ j u, xs[j]? = some u → w.cell? ((⟨g, 0, none⟩ : Addr).add j) = some u := by
  intro j u hu
  obtain ⟨h1, -, -, cur, h2, -, h3⟩ := h.someOf hg
  have hj : j < n := by rw [← h.1]; exact (List.getElem?_eq_some_iff.1 hu).1
  rw [Addr.add_lit, Nat.zero_add, cell_of_row w g j cur e (0, 0) h2]
  rw [← h3, List.getElem?_take, if_pos hj] at hu
  simpa using hu

theorem run_append_wrow {P : Program} (w : World) (t ty e : TypeId) (i : TypeInfo) (z : Value) (bytes : Nat) (ht : P.underlying t = some (.slice e)) (hi : P.info? e = some i) (hz : i.zero = some z)
    (hsize : i.size = 1) (hby : i.bytes = bytes) (hzs : z.cells.size = 1)
    (v : Value) (n : Nat) (xs : List Value) (hown : WRow w e v n xs)
    (x : Value) (m : Nat) (news : List Value) (hl : news.length = m) (hx : Row w x m news) (h1 : ∀ u ∈ news, u.oneCell' = true)
    (h63 : n + m ≤ maxLen) (hbytes : (n + m) * bytes ≤ 140737488355328) :
    ∃ v' w', (Builtin.append_ #[t, t] ty #[v, x]).run P w = .ok v' w' ∧ WRow w' e v' (n + m) (xs ++ news) ∧ AppCase w w' v v' ∧ SizeKept w w' v := by
  obtain ⟨xa, xc, rfl, hx1, hx2, hx3, hx4⟩ := hx
  subst hby
  have hsz : 0 < 1 := by decide
  have hsmall : n + m ≤ 9223372036854775807 := by simp only [maxLen] at h63; omega
  have hlen : (xs ++ news).length = n + m := by rw [List.length_append, hown.1, hl]
  by_cases hm : m = 0
  · subst hm
    have hn : news = [] := List.eq_nil_of_length_eq_zero (by simpa using hl)
    subst hn
    refine ⟨v, w, ?_, by simpa using hown, Or.inl ⟨rfl, rfl, ⟨rfl, rfl, rfl, Nat.le_refl _, fun _ _ _ => rfl⟩⟩, fun b cs t z _ h => ⟨cs, h, rfl⟩⟩
    rcases hown.2 with ⟨rfl, rfl⟩ | ⟨g, cap, cur, rfl, hg, hnc, hcm, hcs, htake⟩
    · cases xa <;> simp [Builtin.append_, run_underlying ht, sizeOf, typeInfo, hi, Builtin.lenOf, Builtin.firstCells, loadCells, loadCellsFrom]
    · cases xa <;> simp [Builtin.append_, run_underlying ht, sizeOf, typeInfo, hi, Builtin.lenOf, Builtin.firstCells, loadCells, loadCellsFrom, hnc, storeCells]
  · have hpos : 0 < news.length := by omega
    obtain ⟨b, off, rfl, -⟩ := hx4 0 hpos
    have hnews : ∀ j u, news[j]? = some u → w.cell? ((⟨b, off, none⟩ : Addr).add j) = some u := by
      intro j u hu
      have hj : j < news.length := by
        rcases Nat.lt_or_ge j news.length with h | h
        · exact h
        · rw [List.getElem?_eq_none h] at hu; cases hu
      obtain ⟨b', off', h2, h3⟩ := hx4 j hj
      simp only [Option.some.injEq, Addr.mk.injEq, and_true] at h2
      obtain ⟨rfl, rfl⟩ := h2
      rw [Addr.add_lit, h3, hu]
    have grown : ∀ (old : Nat), old < n + m → ∀ (row : Option Nat),
        WRow (w.drew.alloc (.cells (xs.toArray ++ news.toArray ++ Builtin.zeroCells z.cells (grownCap w (n + m) old e - (n + m))) e)) e
          (.slice (some ⟨w.heap.size, 0, none⟩) (n + m) (grownCap w (n + m) old e)) (n + m) (xs ++ news) ∧
        w.grownBy (w.drew.alloc (.cells (xs.toArray ++ news.toArray ++ Builtin.zeroCells z.cells (grownCap w (n + m) old e - (n + m))) e)) row := by
      intro old ho row
      have hge := grownCap_ge w (n + m) old e
      have hcm : grownCap w (n + m) old e ≤ maxLen := grownCap_le_maxLen w (n + m) old e h63
      refine ⟨⟨hlen, .inr ⟨w.heap.size, _, _, rfl, heap_alloc_new w.drew _, hge, hcm, ?_, ?_⟩⟩, ⟨rfl, rfl, rfl, by simp, fun k hk _ => Below.heap_alloc w.drew _ k hk⟩⟩
      · simp only [Array.size_append, List.size_toArray, size_zeroCells, hzs, hown.1, hl]
        omega
      · simp only [Array.toList_append, List.append_assoc]
        rw [← List.append_assoc, ← hlen]
        exact List.take_left
    rcases hown.2 with ⟨rfl, rfl⟩ | ⟨g, cap, cur, rfl, hg, hnc, hcm, hcs, htake⟩
    · have hx : xs = [] := List.eq_nil_of_length_eq_zero (by simpa using hown.1)
      subst hx
      have hr := run_append_nil (P := P) w t ty e i z ht hi hz ⟨b, off, none⟩ m xc news (by rw [hsize, Nat.mul_one]; exact hl) hnews (by omega) (by omega) (by have hb := hbytes; simp only [Nat.zero_add] at hb; omega)
      have hgr := grown 0 (by omega) none
      simp only [Nat.zero_add, List.nil_append, Array.empty_append] at hgr ⊢
      exact ⟨_, _, hr, hgr.1, Or.inr ⟨rfl, by simp, hgr.2⟩, fun b cs t z hb => by simp [Value.ownBlock] at hb⟩
    · by_cases hroom : n + m ≤ cap
      · have hfit : n * i.size + news.length ≤ cur.size := by rw [hsize, Nat.mul_one, hl]; omega
        have hr := run_append_room (P := P) w t ty e i ht hi g n cap cur hg ⟨b, off, none⟩ m xc news (by rw [hsize, Nat.mul_one]; exact hl) hnews h1 hroom hfit
        refine ⟨_, _, hr, ⟨hlen, .inr ⟨g, cap, _, rfl, setRow_heap w g cur _ e _ hg, hroom, hcm, ?_, ?_⟩⟩, Or.inl ⟨rfl, rfl, ⟨rfl, rfl, rfl, by simp, fun k _ hk => setRow_other w g k _ (fun e => hk (by simp [Value.ownBlock, e]))⟩⟩, fun b cs t z hb h => ?_⟩
        · rw [hsize, Nat.mul_one] at hfit
          simp only [hsize, Nat.mul_one, List.size_toArray, List.length_append, List.length_take, List.length_drop, Array.length_toList]
          omega
        · rw [hsize, Nat.mul_one, htake, ← hlen]
          exact List.take_left
        · simp only [Value.ownBlock, Option.some.injEq] at hb
          subst hb
          rw [hg] at h
          cases h
          refine ⟨_, setRow_heap w g cur _ e _ hg, ?_⟩
          rw [hsize, Nat.mul_one] at hfit
          simp only [hsize, Nat.mul_one, List.size_toArray, List.length_append, List.length_take, List.length_drop, Array.length_toList]
          omega
      · have holds : ∀ j u, xs[j]? = some u → w.cell? ((⟨g, 0, none⟩ : Addr).add j) = some u := hown.cells (g := g) rfl
        have hr := run_append_grow (P := P) w t ty e i z ht hi hz ⟨g, 0, none⟩ n cap xs (by rw [hsize, Nat.mul_one]; exact hown.1) holds ⟨b, off, none⟩ m xc news (by rw [hsize, Nat.mul_one]; exact hl) hnews (by omega) (by omega) (growslice_fits (by omega) hbytes)
        have hgr := grown cap (by omega) none
        exact ⟨_, _, hr, hgr.1, Or.inr ⟨rfl, by simp, hgr.2⟩, fun b cs t z hb h => ⟨cs, (hgr.2.block b (Array.getElem?_eq_some_iff.1 h).1 (by simp)).trans h, rfl⟩⟩

theorem wpList_append_wrow {P : Program} {w : World} {ops : Array Oper} {rest : List Oper} {o : Oper} {a : Act} {Q : Exit → Act → World → Prop} (hgd : o.guard = none) (s x : Operand) (t : TypeId)
    (ho : o.op = .call { callee := .builtin .append, args := #[s, x], argTypes := #[t, t] })
    (e : TypeId) {z : Value} {bytes : Nat} (hinfo : (P.info? e).map (fun i => (i.zero, i.size, i.bytes)) = some (some z, 1, bytes)) (ht : P.underlying t = some (.slice e)) (hzs : z.cells.size = 1)
    (v : Value) (n : Nat) (xs : List Value) (hs : a.eval s = v) (hown : WRow w e v n xs)
    (xv : Value) (m : Nat) (news : List Value) (hxv : a.eval x = xv) (hx : Row w xv m news) (hl : news.length = m) (h1 : ∀ u ∈ news, u.oneCell' = true)
    (h63 : n + m ≤ maxLen) (hbytes : (n + m) * bytes ≤ 140737488355328)
    (h : ∀ v' w', WRow w' e v' (n + m) (xs ++ news) → AppCase w w' v v' → SizeKept w w' v → wpList P ops Q rest (a.put o.dst v') w') : wpList P ops Q (o :: rest) a w := by
  obtain ⟨i, hi, hz, hsize, hby⟩ := info_parts hinfo
  obtain ⟨v', w', hr, h2, h3, h4⟩ := run_append_wrow (P := P) w t o.type e i z bytes ht hi hz hsize hby hzs v n xs hown xv m news hl hx h1 h63 hbytes
  refine wpList_plain hgd fun K hK => ?_
  unfold Oper.wp execOp
  simp only [ho, resolve, invoke, builtin, Sem.run_bind, Sem.run_pure, Result.andThen_ok, List.map_toArray, List.map_cons, List.map_nil, hs, hxv, hr]
  exact hK _ _ (h v' w' h2 h3 h4)

end Go.Proofs.YtmhmhpdpiikjiaaGreat
