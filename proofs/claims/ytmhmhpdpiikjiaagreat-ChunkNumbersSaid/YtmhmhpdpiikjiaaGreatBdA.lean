/- The program's boards in memory: a map from versions to blocks of pieces. New, Drop. -/
import Derived.Test.YtmhmhpdpiikjiaaGreatChunkA
import Derived.Maps.OwnSet
namespace Go.Proofs.YtmhmhpdpiikjiaaGreat
open Go.RowKit

/-- How an element of the board's map reads: the block it points to. -/
def ptrR : Value → Option (DataW Unit × List MemPlace)
  | .pointer (some ⟨b, 0, none⟩) => some (.lit (.int .u64 b), [])
  | .pointer none => some (.nil, [])
  | _ => none
theorem ptrR_nil : ptrR (.pointer none) = some (.nil, []) := rfl
theorem ptrR_some (b : Nat) : ptrR (.pointer (some ⟨b, 0, none⟩)) = some (.lit (.int .u64 b), []) := rfl
theorem ptrR_inv_nil {v : Value} {ps : List MemPlace} (h : ptrR v = some (.nil, ps)) : v = .pointer none := by
  unfold ptrR at h
  split at h
  · cases h
  · rfl
  · cases h
theorem ptrR_inv_some {v : Value} {ps : List MemPlace} {b : Nat} (h : ptrR v = some (.lit (.int .u64 b), ps)) : v = .pointer (some ⟨b, 0, none⟩) := by
  unfold ptrR at h
  split at h
  · simp only [Option.some.injEq, Prod.mk.injEq, DataW.lit.injEq, Lit.int.injEq, true_and, Int.natCast_inj] at h
    rw [h.1]
  · cases h
  · cases h

/-- What stands at a piece's place. -/
def PieceAt (w : World) (O : Nat → Prop) (x : Value) : Option (List Int) → Prop
  | none => x = .slice none 0 0
  | some p => w.ownsRow 0 5 1 x p.length (ints .u8 p) ∧ ∀ b, x.ownBlock = some b → O b
theorem PieceAt.kept {w w' : World} {O O' : Nat → Prop} {x : Value} {o : Option (List Int)} (h : PieceAt w O x o) {S : Nat → Prop} (k : Kept S w w') (hS : ∀ b, S b → O b → x.ownBlock ≠ some b) (hO : ∀ b, O b → O' b) : PieceAt w' O' x o := by
  cases o with
  | none => exact h
  | some p => exact ⟨ownsRow.keptBy h.1 k (fun b hb hs => hS b hs (h.2 b hb) hb), fun b hb => hO b (h.2 b hb)⟩
/-- A version's pieces, in block b. -/
def UpAt (w : World) (O : Nat → Prop) (b : Nat) (W : Int) (g : Nat → Option (List Int)) : Prop :=
  O b ∧ ∃ ps : List Value, ps.length = 40 ∧ w.heap[b]? = some (.cells (ps ++ [Value.int .i64 W]).toArray 66 (0, 0)) ∧ ∀ (a : Nat) (h : a < ps.length), PieceAt w O ps[a] (g a)
theorem UpAt.kept {w w' : World} {O O' : Nat → Prop} {b : Nat} {W : Int} {g : Nat → Option (List Int)} (h : UpAt w O b W g) {S : Nat → Prop} (k : Kept S w w') (hS : ∀ b, S b → O b → ∀ cs t z, w.heap[b]? = some (.cells cs t z) → t ≠ 66 ∧ t ≠ 5) (hO : ∀ b, O b → O' b) : UpAt w' O' b W g := by
  obtain ⟨h1, ps, h2, h3, h4⟩ := h
  refine ⟨hO b h1, ps, h2, k.heap h3 (fun hs => (hS b hs h1 _ _ _ h3).1 rfl), fun a ha => (h4 a ha).kept k (fun b' hs hb' hx => ?_) hO⟩
  have h5 := h4 a ha
  cases hg : g a with
  | none => rw [hg] at h5; rw [show ps[a] = _ from h5] at hx; simp [Value.ownBlock] at hx
  | some p =>
    rw [hg] at h5
    obtain ⟨-, ⟨h6, -⟩ | ⟨g', cap, cur, h6, -, h7, -⟩⟩ := h5.1
    · rw [h6] at hx; simp [Value.ownBlock] at hx
    · rw [h6] at hx
      simp only [Value.ownBlock, Option.some.injEq] at hx
      subst hx
      exact (hS _ hs hb' _ _ _ h7).2 rfl
theorem UpAt.congr {w : World} {O : Nat → Prop} {b : Nat} {W W' : Int} {g g' : Nat → Option (List Int)} (h : UpAt w O b W g) (hW : W = W') (hg : ∀ a, g a = g' a) : UpAt w O b W' g' := by
  obtain ⟨h1, ps, h2, h3, h4⟩ := h
  subst hW
  exact ⟨h1, ps, h2, h3, fun a ha => by rw [← hg a]; exact h4 a ha⟩

/-- The map's data and the list. -/
structure MapOf (w : World) (O : Nat → Prop) (D : DataW Unit) (f : Int → Nat) (l : List Come) : Prop where
  has : ∀ k, Maps.has D k = true ↔ ∃ v, k = .int .i64 v ∧ findV l v ≠ none
  up : ∀ v, findV l v ≠ none → D.atKey (.int .i64 v) .nil = .lit (.int .u64 (f v)) ∧ UpAt w O (f v) (findW l v) (fun a => findP l v (a : Int))
  inj : ∀ v v', findV l v ≠ none → findV l v' ≠ none → f v = f v' → v = v'
theorem MapOf.kept {w w' : World} {O O' : Nat → Prop} {D : DataW Unit} {f : Int → Nat} {l : List Come} (h : MapOf w O D f l) {S : Nat → Prop} (k : Kept S w w') (hS : ∀ b, S b → O b → ∀ cs t z, w.heap[b]? = some (.cells cs t z) → t ≠ 66 ∧ t ≠ 5) (hO : ∀ b, O b → O' b) : MapOf w' O' D f l :=
  ⟨h.has, fun v hv => ⟨(h.up v hv).1, (h.up v hv).2.kept k hS hO⟩, h.inj⟩
theorem MapOf.none {w : World} {O : Nat → Prop} {D : DataW Unit} {f : Int → Nat} {l : List Come} (h : MapOf w O D f l) {v : Int} (hv : findV l v = none) (z : DataW Unit) : D.atKey (.int .i64 v) z = z := by
  refine Maps.atKey_of_not_has ?_ z
  cases hh : Maps.has D (.int .i64 v) with
  | false => rfl
  | true =>
    obtain ⟨v', h1, h2⟩ := (h.has _).1 hh
    simp only [Lit.int.injEq, true_and] at h1
    subst h1
    exact absurd hv h2
theorem MapOf.del {w : World} {O : Nat → Prop} {D : DataW Unit} {f : Int → Nat} {l : List Come} (h : MapOf w O D f l) (v : Int) : MapOf w O (D.del (.int .i64 v)) f (dropC l v) := by
  have hne : ∀ x, findV (dropC l v) x ≠ Option.none → x ≠ v ∧ findV l x ≠ Option.none := fun x hx => by
    rw [findV_drop] at hx
    split at hx
    · exact absurd rfl hx
    · next e => exact ⟨e, hx⟩
  refine ⟨fun k => ⟨fun hk => ?_, ?_⟩, fun x hx => ?_, fun x y hx hy => h.inj x y (hne x hx).2 (hne y hy).2⟩
  · have hkv : k ≠ .int .i64 v := by rintro rfl; rw [Maps.has_del_same] at hk; cases hk
    rw [Maps.has_del_other hkv] at hk
    obtain ⟨x, rfl, hx⟩ := (h.has k).1 hk
    refine ⟨x, rfl, ?_⟩
    rw [findV_drop, if_neg (fun e => hkv (by rw [e]))]; exact hx
  · rintro ⟨x, rfl, hx⟩
    have h1 := hne x hx
    rw [Maps.has_del_other (by simpa using h1.1)]
    exact (h.has _).2 ⟨x, rfl, h1.2⟩
  · have h1 := hne x hx
    have h2 := h.up x h1.2
    rw [Maps.atKey_del_other (by simpa using h1.1)]
    exact ⟨h2.1, h2.2.congr (by rw [findW_drop, if_neg h1.1]) (fun a => by rw [findP_drop, if_neg h1.1])⟩

/-- The program's board at block A. -/
structure BoardA (w : World) (O : Nat → Prop) (A n : Nat) (l : List Come) : Prop where
  own : O A
  lt : ∀ b, O b → b < w.heap.size
  at_ : ∃ M D f, w.heap[A]? = some (.cells #[.map (some M)] 55 (0, 0)) ∧ O M ∧ w.ownsMap Tryz.prog 3 ptrR M n D ∧ MapOf w O D f l

theorem ownsMap.keptBy {w w' : World} {P : Program} {k : TypeId} {R : Value → Option (DataW Unit × List MemPlace)} {b n : Nat} {D : DataW Unit} (h : w.ownsMap P k R b n D) {S : Nat → Prop} (kk : Kept S w w') (hS : ¬ S b) : w'.ownsMap P k R b n D := by
  obtain ⟨es, clock, h1, h2⟩ := h
  exact ⟨es, clock, kk.heap h1 hS, h2⟩
theorem BoardA.kept {w w' : World} {O : Nat → Prop} {A n : Nat} {l : List Come} (h : BoardA w O A n l) {S : Nat → Prop} (k : Kept S w w') (hS : ∀ b, S b → ¬ O b) : BoardA w' O A n l := by
  obtain ⟨h1, h2, M, D, f, h3, h4, h5, h6⟩ := h
  exact ⟨h1, fun b hb => Nat.lt_of_lt_of_le (h2 b hb) k.size, M, D, f, k.heap h3 (fun s => hS _ s h1), h4, ownsMap.keptBy h5 k (fun s => hS _ s h4), h6.kept k (fun b hs hb => absurd hb (hS b hs)) (fun _ h => h)⟩
/-- The map's block is no block of cells. -/
theorem ownsMap.noCells {w : World} {P : Program} {k : TypeId} {R : Value → Option (DataW Unit × List MemPlace)} {b n : Nat} {D : DataW Unit} (h : w.ownsMap P k R b n D) (cs : Array Value) (t : TypeId) (z : Nat × Nat) : w.heap[b]? ≠ some (.cells cs t z) := by
  obtain ⟨es, clock, h1, h2⟩ := h
  rw [h1]; simp

theorem progNew_any (w : World) :
    Calls Tryz.prog 6 #[] w fun e w' => ∃ A, e = .returned (.pointer (some ⟨A, 0, none⟩)) ∧ w.heap.size ≤ A ∧ (∃ O, BoardA w' O A 0 [] ∧ ∀ b, O b → w.heap.size ≤ b) ∧ Below w.heap.size w w' := by
  have hmm := @run_makeMap Tryz.prog
  go_enter Tryz.func6, Tryz.ntmps6
  go_wp2_with fail
  go_ret
  refine ⟨w.heap.size + 1, rfl, by omega, ⟨fun b => b = w.heap.size ∨ b = w.heap.size + 1, ⟨Or.inr rfl, by rintro b (rfl | rfl) <;> simp <;> omega, w.heap.size, .map [], fun _ => 0, ?_, Or.inl rfl, ?_, ⟨fun k => ?_, fun v hv => absurd rfl hv, fun v _ hv => absurd rfl hv⟩⟩, by rintro b (rfl | rfl) <;> omega⟩, ((Below.refl _ w).alloc (Nat.le_refl _) _).alloc (by simp) _⟩
  · have := heap_alloc_new (w.alloc (.map #[] 0)) (.cells #[.map (some w.heap.size)] 55)
    rw [World.size_alloc] at this; exact this
  · exact (World.ownsMap_made w _ _ _).alloc _
  · constructor
    · intro h; cases h
    · rintro ⟨v, -, h⟩; exact absurd rfl h

end Go.Proofs.YtmhmhpdpiikjiaaGreat
