/- The program's boards: Put. -/
import Derived.Test.YtmhmhpdpiikjiaaGreatBdDone
import Derived.Test.YtmhmhpdpiikjiaaGreatBdB
import Derived.Test.YtmhmhpdpiikjiaaGreatRefC
namespace Go.Proofs.YtmhmhpdpiikjiaaGreat
open Go.RowKit

theorem UpAt.kept2 {w w' : World} {O O' : Nat → Prop} {b : Nat} {W : Int} {g : Nat → Option (List Int)} (h : UpAt w O b W g) {S : Nat → Prop} (k : Kept S w w') (hb : ¬ S b) (hS : ∀ b, S b → O b → ∀ cs t z, w.heap[b]? = some (.cells cs t z) → t ≠ 5) (hO : ∀ b, O b → O' b) : UpAt w' O' b W g := by
  obtain ⟨h1, ps, h2, h3, h4⟩ := h
  refine ⟨hO b h1, ps, h2, k.heap h3 hb, fun a ha => (h4 a ha).kept k (fun b' hs hb' hx => ?_) hO⟩
  have h5 := h4 a ha
  cases hg : g a with
  | none => rw [hg] at h5; rw [show ps[a] = _ from h5] at hx; simp [Value.ownBlock] at hx
  | some p =>
    rw [hg] at h5
    obtain ⟨-, ⟨h6, -⟩ | ⟨g', cap, cur, h6, -, h7, -⟩⟩ := h5.1
    · rw [h6] at hx; simp [Value.ownBlock] at hx
    · rw [h6] at hx
      simp only [Value.ownBlock, Option.some.injEq] at hx
      subst hx
      exact hS _ hs hb' _ _ _ h7 rfl
theorem findV_addC {l : List Come} {v a n : Int} {p : List Int} (g : GoodC l) (y : Int) : findV (addC l v a n p) y ≠ none ↔ y = v ∨ findV l y ≠ none := by
  unfold addC
  cases hp : findP l v a with
  | none =>
    simp only
    rw [findV_add]
    by_cases hy : v = y
    · subst hy
      cases findV l v <;> simp
    · rw [if_neg hy]
      have : ¬ y = v := fun e => hy e.symm
      simp [this]
  | some q =>
    simp only
    constructor
    · exact Or.inr
    · rintro (rfl | h)
      · obtain ⟨-, -, c, hc⟩ := findP_ok g hp
        rw [hc]; simp
      · exact h
/-- A store into the map. -/
theorem MapOf.put {w w' : World} {O O' : Nat → Prop} {D : DataW Unit} {f : Int → Nat} {l : List Come} {v a n : Int} {p : List Int} {b : Nat} (g : GoodC l) (h : MapOf w O D f l) (hD : Maps.IsMap D) (hv : Int64 v) (hn : findW l v = 0 ∨ findW l v = n) (hq : ∀ q, findP l v a = some q → q = p)
    {S : Nat → Prop} (k : Kept S w w') (hSf : ∀ y, y ≠ v → findV l y ≠ Option.none → ¬ S (f y)) (hS : ∀ b, S b → O b → ∀ cs t z, w.heap[b]? = some (.cells cs t z) → t ≠ 5) (hO : ∀ b, O b → O' b) (hb : ∀ y, y ≠ v → findV l y ≠ Option.none → f y ≠ b)
    (hup : UpAt w' O' b n (fun c => findP (addC l v a n p) v (c : Int))) : MapOf w' O' (D.put (.int .i64 v) (.lit (.int .u64 b))) (fun y => if y = v then b else f y) (addC l v a n p) := by
  have hkey : WideAt.IsKeyLit (.int .i64 v) := trivial
  refine ⟨fun kl => ?_, fun y hy => ?_, fun y y' hy hy' hf => ?_⟩
  · by_cases hk : kl = .int .i64 v
    · subst hk
      rw [Maps.has_put_same hD hkey]
      exact ⟨fun _ => ⟨v, rfl, (findV_addC g v).2 (Or.inl rfl)⟩, fun _ => rfl⟩
    · rw [Maps.has_put_other hk, h.has]
      constructor
      · rintro ⟨y, rfl, hy⟩; exact ⟨y, rfl, (findV_addC g y).2 (Or.inr hy)⟩
      · rintro ⟨y, rfl, hy⟩
        refine ⟨y, rfl, ((findV_addC g y).1 hy).resolve_left (fun e => hk (by rw [e]))⟩
  · by_cases hyv : y = v
    · subst hyv
      rw [if_pos rfl, Maps.atKey_put_same hD hkey]
      exact ⟨rfl, hup.congr (by rw [findW_addC g hn, if_pos rfl]) (fun _ => rfl)⟩
    · have h1 := ((findV_addC g y).1 hy).resolve_left hyv
      have h2 := h.up y h1
      rw [if_neg hyv, Maps.atKey_put_other (by simpa using hyv)]
      exact ⟨h2.1, (h2.2.kept2 k (hSf y hyv h1) hS hO).congr (by rw [findW_addC g hn, if_neg hyv]) (fun c => by rw [findP_addC hq, if_neg (fun e => hyv e.1)])⟩
  · by_cases h1 : y = v <;> by_cases h2 : y' = v
    · rw [h1, h2]
    · rw [if_pos h1, if_neg h2] at hf
      exact absurd hf.symm (hb y' h2 (((findV_addC g y').1 hy').resolve_left h2))
    · rw [if_neg h1, if_pos h2] at hf
      exact absurd hf (hb y h1 (((findV_addC g y).1 hy).resolve_left h1))
    · rw [if_neg h1, if_neg h2] at hf
      exact h.inj y y' (((findV_addC g y).1 hy).resolve_left h1) (((findV_addC g y').1 hy').resolve_left h2) hf

/-- Behind a Put on the program's board. -/
def ProgPut (w : World) (O : Nat → Prop) (A m : Nat) (l' : List Come) (out : List Int) (err : Int) (e : Ending) (w' : World) : Prop :=
  ∃ x, e = .returned (.tuple #[x, .int .i64 err]) ∧ WRow w' 5 x out.length (ints .u8 out) ∧
    ∃ O', BoardA w' O' A m l' ∧ (∀ b, O' b → O b ∨ w.heap.size ≤ b) ∧ (∀ g, x.ownBlock = some g → w.heap.size ≤ g ∧ ¬ O' g) ∧ Kept O w w'
theorem ProgPut.same {w : World} {O : Nat → Prop} {A m : Nat} {l : List Come} {err : Int} (h : BoardA w O A m l) : ProgPut w O A m l [] err (.returned (.tuple #[.slice none 0 0, .int .i64 err])) w :=
  ⟨_, rfl, WRow.nil _ _, O, h, fun _ hb => Or.inl hb, by simp [Value.ownBlock], Kept.refl _ _⟩

set_option maxHeartbeats 400000 in
set_option maxRecDepth 100000 in
theorem progPut_args (w : World) (O : Nat → Prop) (A m : Nat) (l : List Come) (v a n : Int) (ad : Option Addr) (len c : Nat) (h : BoardA w O A m l) (hle : len ≤ 9223372036854775807) (hok : okArgs v a n len = false) :
    Calls Tryz.prog 14 #[.pointer (some ⟨A, 0, none⟩), .int .i64 v, .int .i64 a, .int .i64 n, .slice ad len c] w (ProgPut w O A m l [] 2) := by
  have H := Lib.hid h
  obtain ⟨hA, -, M, D, f, hb, -, -, -⟩ := h
  have hA0 := cell_of_one hb
  have HOK := Lib.hid hok
  clear hb hok
  go_enter Tryz.func14, Tryz.ntmps14
  go_wp2_with fail
  refine (known_yes w A M hA0).mono ?_
  rintro e w1 ⟨rfl, rfl⟩
  go_wp2_with fail
  refine (right_any w v a n ad len c hle).mono ?_
  rintro e w1 ⟨rfl, rfl⟩
  rw [HOK.out]
  go_wp2_with fail
  go_ret2
  exact ProgPut.same H.out

/-- How many pieces an upload is of, as Put takes it up. -/
def upW (l : List Come) (v n : Int) : Int := match findV l v with | none => n | some _ => findW l v
/-- The upload that Put works on. -/
def UpReady (w wc : World) (O : Nat → Prop) (l : List Come) (f : Int → Nat) (v n : Int) (s : Value) : Prop :=
  ∃ b O1, s = .pointer (some ⟨b, 0, none⟩) ∧ (∀ x, O x → O1 x) ∧ (∀ x, O1 x → O x ∨ w.heap.size ≤ x) ∧ (∀ x, O1 x → x < wc.heap.size) ∧ UpAt wc O1 b (upW l v n) (fun a => findP l v (a : Int)) ∧ Kept (fun _ => False) w wc ∧
    (findV l v ≠ none → b = f v) ∧ (findV l v = none → w.heap.size ≤ b)

/-- A clone stored at its place. -/
theorem UpAt.stored {wc w1 : World} {O1 : Nat → Prop} {b k g0 : Nat} {W : Int} {g : Nat → Option (List Int)} {x : Value} {p : List Int} (h : UpAt wc O1 b W g) (hk : k < 40) (hlt : ∀ y, O1 y → y < wc.heap.size) (hb : Below wc.heap.size wc w1)
    (hx : w1.ownsRow 0 5 1 x p.length (ints .u8 p)) (hg : x.ownBlock = some g0) (hg0 : wc.heap.size ≤ g0) :
    UpAt (w1.setCell ⟨b, k, none⟩ x) (fun y => O1 y ∨ y = g0) b W (fun a => if a = k then some p else g a) ∧ Kept (fun y => y = b) wc (w1.setCell ⟨b, k, none⟩ x) := by
  obtain ⟨h1, ps, h2, h3, h4⟩ := h
  have hbl := hlt b h1
  have hk1 : Kept (fun y => y = b) wc (w1.setCell ⟨b, k, none⟩ x) := Kept.setCell (S := fun y => y = b) (p := ⟨b, k, none⟩) (Kept.ofFresh hb _) (Or.inl rfl) _
  have hk2 : Kept (fun y => y = b) w1 (w1.setCell ⟨b, k, none⟩ x) := Kept.setCell (S := fun y => y = b) (p := ⟨b, k, none⟩) (Kept.refl _ w1) (Or.inl rfl) _
  refine ⟨⟨Or.inl h1, ps.set k x, by simpa using h2, ?_, fun a ha => ?_⟩, hk1⟩
  · have := heap_setCell_same w1 b k _ _ x ((hb.block b hbl).trans h3)
    rw [this]
    congr 2
    rw [List.setIfInBounds_toArray, List.set_append_left _ _ (by omega)]
  · have ha' : a < ps.length := by simpa using ha
    rw [List.getElem_set]
    by_cases hak : k = a
    · subst hak
      rw [if_pos rfl]; show PieceAt _ _ _ (if k = k then _ else _); rw [if_pos rfl]
      exact ⟨ownsRow.keptBy hx hk2 (fun y hy e => by rw [hg] at hy; cases hy; omega), fun y hy => by rw [hg] at hy; cases hy; exact Or.inr rfl⟩
    · rw [if_neg hak]; show PieceAt _ _ _ (if a = k then _ else _); rw [if_neg (fun e => hak (Eq.symm e))]
      refine (h4 a ha').kept hk1 (fun y hy hO hx' => ?_) (fun _ h => Or.inl h)
      have h5 := h4 a ha'
      cases hga : g a with
      | none => rw [hga] at h5; rw [show ps[a] = _ from h5] at hx'; simp [Value.ownBlock] at hx'
      | some q =>
        rw [hga] at h5
        obtain ⟨-, -, -, cur, h6, -⟩ := ownsRow.someOf h5.1 hx'
        rw [hy, h3] at h6
        simp only [Option.some.injEq, Obj.cells.injEq, and_true] at h6
        exact absurd h6.2 (by decide)

/-- The board behind the store into the map. -/
theorem boardA_put {w we : World} {O O2 : Nat → Prop} {A m M b : Nat} {l : List Come} {v a n : Int} {p : List Int} {D : DataW Unit} {f : Int → Nat} (g : GoodC l) (hA : O A) (hlt : ∀ y, O y → y < w.heap.size)
    (hb : w.heap[A]? = some (.cells #[.map (some M)] 55 (0, 0))) (hM : O M) (hown : w.ownsMap Tryz.prog 3 ptrR M m D) (hmo : MapOf w O D f l) (hv : Int64 v) (hn : findW l v = 0 ∨ findW l v = n) (hq : ∀ q, findP l v a = some q → q = p)
    (hk : Kept (fun y => y = b ∨ y = M) w we) (hO : ∀ y, O y → O2 y) (hO2 : ∀ y, O2 y → y < we.heap.size) (hf1 : findV l v ≠ none → b = f v) (hf2 : findV l v = none → w.heap.size ≤ b) (hbt : ∀ cs t z, w.heap[b]? = some (.cells cs t z) → t = 66)
    (hown2 : we.ownsMap Tryz.prog 3 ptrR M (m + 1) (D.put (.int .i64 v) (.lit (.int .u64 b)))) (hup : UpAt we O2 b n (fun c => findP (addC l v a n p) v (c : Int))) : BoardA we O2 A (m + 1) (addC l v a n p) := by
  refine ⟨hO A hA, hO2, M, _, _, hk.heap hb ?_, hO M hM, hown2, hmo.put g hown.isMap hv hn hq hk ?_ ?_ hO ?_ hup⟩
  · rintro (e | e)
    · subst e; exact absurd (hbt _ _ _ hb) (by decide)
    · subst e; exact ownsMap.noCells hown _ _ _ hb
  · rintro y hy hy' (e | e)
    · cases hfv : findV l v with
      | none => have := hf2 hfv; have := hlt _ (hmo.up y hy').2.1; omega
      | some c => exact hy (hmo.inj y v hy' (by rw [hfv]; simp) (by rw [e]; exact hf1 (by rw [hfv]; simp)))
    · obtain ⟨-, ps, -, h3, -⟩ := (hmo.up y hy').2
      rw [e] at h3
      exact ownsMap.noCells hown _ _ _ h3
  · rintro y (e | e) hy cs t z h
    · subst e; rw [hbt _ _ _ h]; decide
    · subst e; exact absurd h (ownsMap.noCells hown _ _ _)
  · intro y hy hy' e
    cases hfv : findV l v with
    | none => have := hf2 hfv; have := hlt _ (hmo.up y hy').2.1; omega
    | some c => exact hy (hmo.inj y v hy' (by rw [hfv]; simp) (by rw [e]; exact hf1 (by rw [hfv]; simp)))

theorem clash_upW {l : List Come} {v a n W : Int} {p : List Int} {r : Bool} (g : GoodC l) (hW : upW l v n = W)
    (h : (W = n ∧ findP l v a = none ∧ r = false) ∨ (W = n ∧ ∃ q, findP l v a = some q ∧ r = !decide (q = p)) ∨ (W ≠ n ∧ r = true)) : clash l v a n p = r := by
  unfold clash
  unfold upW at hW
  cases hf : findV l v with
  | none =>
    have h0 := (findW_zero g).2 hf
    rw [hf] at hW
    simp only at hW
    rw [h0]
    rcases h with ⟨h1, h2, h3⟩ | ⟨h1, q, h2, h3⟩ | ⟨h1, h3⟩
    · rw [h2, h3]; simp
    · rw [findP_none_of hf] at h2; cases h2
    · exact absurd hW.symm h1
  | some c =>
    have h0 := findW_pos g hf
    rw [hf] at hW
    simp only at hW
    rw [hW]
    have h4 : 0 < W := by omega
    rcases h with ⟨h1, h2, h3⟩ | ⟨h1, q, h2, h3⟩ | ⟨h1, h3⟩
    · rw [h2, h3]; simp [h1]
    · rw [h2, h3]; simp [h1]
    · rw [h3]; simp [h4, h1]
theorem clash_no {l : List Come} {v a n : Int} {p : List Int} (g : GoodC l) (h : clash l v a n p = false) : upW l v n = n ∧ (findW l v = 0 ∨ findW l v = n) ∧ ∀ q, findP l v a = some q → q = p := by
  unfold clash at h
  rw [Bool.or_eq_false_iff, Bool.and_eq_false_iff, decide_eq_false_iff_not, decide_eq_false_iff_not] at h
  refine ⟨?_, ?_, fun q hq => ?_⟩
  · unfold upW
    cases hf : findV l v with
    | none => rfl
    | some c => have := findW_pos g hf; rcases h.1 with h1 | h1; omega; exact Classical.not_not.1 h1
  · cases hf : findV l v with
    | none => exact Or.inl ((findW_zero g).2 hf)
    | some c => have := findW_pos g hf; rcases h.1 with h1 | h1; omega; exact Or.inr (Classical.not_not.1 h1)
  · have := h.2; rw [hq] at this; simpa using this

theorem BoardA.mono {w : World} {O : Nat → Prop} {A n : Nat} {l : List Come} (h : BoardA w O A n l) : BoardA w O A (n + 1) l := by
  obtain ⟨h1, h2, M, D, f, h3, h4, h5, h6⟩ := h
  exact ⟨h1, h2, M, D, f, h3, h4, h5.mono (by omega), h6⟩

theorem allOf_pos {l : List Come} (g : GoodC l) {v : Int} {k : Nat} {r : List Int} (h : allOf l v k = some r) (hk : 1 ≤ k) : 1 ≤ r.length := by
  obtain ⟨k, rfl⟩ : ∃ j, k = j + 1 := ⟨k - 1, by omega⟩
  simp only [allOf] at h
  cases hr : allOf l v k with
  | none => rw [hr] at h; cases h
  | some r0 =>
    cases hp : findP l v (k : Int) with
    | none => rw [hr, hp] at h; cases h
    | some p =>
      rw [hr, hp] at h
      cases h
      have := okArgs_iff (findP_ok g hp).1
      simp; omega
theorem WRow.some_ {w : World} {e : TypeId} {v : Value} {n : Nat} {xs : List Value} (h : WRow w e v n xs) (h0 : 0 < n) : ∃ g c, v = .slice (some ⟨g, 0, none⟩) n c := by
  rcases h.2 with ⟨rfl, h1⟩ | ⟨g, cap, cur, rfl, -⟩
  · omega
  · exact ⟨_, _, rfl⟩

end Go.Proofs.YtmhmhpdpiikjiaaGreat
