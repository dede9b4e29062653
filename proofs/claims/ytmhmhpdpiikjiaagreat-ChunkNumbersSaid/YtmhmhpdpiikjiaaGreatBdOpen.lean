/- The program's boards: the versions that are open. -/
import Derived.Test.YtmhmhpdpiikjiaaGreatBdB
import Derived.Test.YtmhmhpdpiikjiaaGreatOpenModel
import Derived.Test.YtmhmhpdpiikjiaaGreatKeys
namespace Go.Proofs.YtmhmhpdpiikjiaaGreat
open Go.RowKit Go.Maps Go.Sort Go.Shelf

/-- slices.Sort's two contracts at this program. -/
theorem sortsK (m : Nat) : AnyZI.SortsIn Tryz.prog Tryz.sorted44_ren Fence.wide m :=
  ⟨fun blk off cap ss W hH hblk hsz => callsIn_wide.2 (AnyM.slices_Sort_int Tryz.sort71 blk off cap ss W hH hblk hsz),
   fun p cap W => callsIn_wide.2 (AnyM.slices_Sort_int_none Tryz.sort71 p cap W)⟩

/-- The keys of a map whose versions are a list's, sorted. -/
theorem keys_open {w : World} {M m : Nat} {D : DataW Unit} {l : List Come} {R : Value → Option (DataW Unit × List MemPlace)} (hown : w.ownsMap Tryz.prog 3 R M m D) (hm : ∀ k, Maps.has D k = true ↔ ∃ v, k = .int .i64 v ∧ findV l v ≠ none) {ss : List Int} (hs : ss.Perm (intKeys D)) : ss.mergeSort leI = openL l := by
  obtain ⟨es, rfl, h1, h2⟩ := hown.entries (Maps.int_keyed Tryz.underlying3)
  refine openL_of_perm l h1 (fun p hp => ?_) (fun x => ?_) hs
  · obtain ⟨v, h3, -⟩ := (hm p.1).1 (List.any_eq_true.2 ⟨p, hp, WideAt.sameKey_self (h2 p hp)⟩)
    exact ⟨v, h3⟩
  · rw [hm]
    constructor
    · rintro ⟨v, h3, h4⟩; cases h3; exact h4
    · exact fun h => ⟨x, rfl, h⟩

set_option maxHeartbeats 1000000 in
theorem versions_any (w : World) (M m : Nat) (D : DataW Unit) (l : List Come) (R : Value → Option (DataW Unit × List MemPlace)) (hown : w.ownsMap Tryz.prog 3 R M m D) (hm : ∀ k, Maps.has D k = true ↔ ∃ v, k = .int .i64 v ∧ findV l v ≠ none) (hn : m ≤ 1099511627776) :
    Calls Tryz.prog 36 #[.agg #[.map (some M)]] w fun e w' => OpenTold w w' l e := by
  refine (callsIn_wide (n := 6)).1 ?_
  have hbl := hown.lt
  have hsz := World.ownsMap.size_le hown
  have hown1 := hown.alloc (.cells #[.map (some M)] 53)
  have hseq : SeqGives Fence.wide 2 Tryz.prog 72 #[.pointer (some ⟨w.heap.size + 1, 0, none⟩)] encZ (fun ss => ss.Perm (intKeys D)) (Maps.size D) ((w.alloc (.cells #[.map (some M)] 53)).alloc (.cells #[.map (some M)] 51)) :=
    AnyZI.keys_gives (ρ := Tryz.keys45_ren) { Tryz.keys45 with } Fence.wide _ trivial rfl (by omega) (w.heap.size + 1) M m D _ (by simp) (by
      have := heap_alloc_new (w.alloc (.cells #[.map (some M)] 53)) (.cells #[.map (some M)] 51)
      rw [World.size_alloc] at this
      exact cell_of_one this) (hown1.alloc _)
  have cK : ∀ mb W, CallsIn Fence.wide 5 Tryz.prog 45 #[.map mb] W fun e w' => e = .returned (.func (.func 72) #[] #[.pointer (some ⟨W.heap.size, 0, none⟩)]) ∧ w' = W.alloc (.cells #[.map mb] 51) := fun mb W => AnyZI.keys_in Tryz.keys45 Fence.wide 5 trivial rfl mb W
  have cS := AnyZI.sorted_in Tryz.sorted44 Fence.wide 5 trivial trivial trivial trivial rfl (by omega) (sortsK _) (enters_of Tryz.func71 (by kernel_rfl) rfl) 72 #[.pointer (some ⟨w.heap.size + 1, 0, none⟩)] trivial (enters_of Tryz.func72 (by kernel_rfl) rfl) _ _ (by unfold maxLen; omega) (by omega) _ hseq
  change CallsIn _ _ Tryz.prog 44 _ _ _ at cS
  have hfK : Fence.wide.fn 45 := trivial
  have hfS : Fence.wide.fn 44 := trivial
  have HOWN := Lib.hid hown; have HM := Lib.hid hm; have CS := Lib.hid cS; clear hown hm hown1 hseq cS
  refine callsIn_of_wp Tryz.func36 rfl trivial ?_ rfl
  simp only [Tryz.ntmps36, List.size_toArray, List.length_cons, List.length_nil, Nat.reduceAdd, Nat.reduceSub, Array.replicate_succ, Array.replicate_zero, List.push_toArray, List.append_toArray, List.nil_append, List.cons_append]
  gi_wp2_with (first
    | (gi_at_call 45; refine (cK _ _).mono ?_; rintro e w' ⟨rfl, rfl⟩)
    | (gi_at_call 44; refine CS.out.mono ?_; rintro e w' ⟨v, ss, rfl, hS, hrow, hnil, hb⟩))
  go_ret
  have hk := keys_open HOWN.out HM.out hS
  have hl : ss.length = (openL l).length := by rw [← hk]; simp
  refine ⟨v, rfl, ?_, fun b hb => ?_, ((Below.refl _ w).alloc (Nat.le_refl _) _).alloc (by simp) _ |>.trans (hb.mono (by simp; omega))⟩
  · have := ownsRow_base_a hrow (base' := 0) (Nat.zero_le _)
    rw [hk, hl] at this
    exact this
  · obtain ⟨-, ⟨rfl, -⟩ | ⟨g, cap, cur, rfl, h1, -⟩⟩ := hrow
    · simp [Value.ownBlock] at hb
    · simp only [Value.ownBlock, Option.some.injEq] at hb
      subst hb
      simp at h1; omega

end Go.Proofs.YtmhmhpdpiikjiaaGreat
