/- ChunkLives holds: for every list of steps of a board the law returns true, and the list reads as it did. No condition. -/
import Derived.Test.YtmhmhpdpiikjiaaGreatRows
import Derived.Test.YtmhmhpdpiikjiaaGreatLawF
import Derived.Test.YtmhmhpdpiikjiaaGreatLift
namespace Go.Proofs.YtmhmhpdpiikjiaaGreat
open Go.ChangeShapes Go.WideShapes Go.ChangeAt Go.RowKit Go.Deep

theorem int64_of_wf {x : Int} (h : (Lit.int .i64 x).wf = true) : Int64 x := by
  simp only [Lit.wf, Bool.and_eq_true, decide_eq_true_eq] at h
  exact ⟨h.1, h.2⟩
theorem dos_of {H : Type} {enc : TypeId × Value → H} {w : World} {fuel : Nat} {v : Value} {x : DataW H × List MemPlace} (h : DataW.trod enc Tryz.prog w 0 (fun _ => true) true fuel 22 [v] = some x) :
    ∃ ds, DosAt w v ds := by
  rcases structs_in Tryz.underlying22 Tryz.underlying30 (by kernel_rfl) (by kernel_rfl) h with rfl | ⟨a, len, cap, rfl, hl, hm, hi⟩
  · exact ⟨[], none, 0, rfl, by simp, fun i h => absurd h (Nat.not_lt_zero _), by simp⟩
  · have key : ∀ i, i < len → ∃ d : DoM, d.Ok w ∧ ∀ j, j < 6 → w.cell? (a.add (i * 6 + j)) = (cellsD d)[j]? := by
      intro i hil
      obtain ⟨vs, hlen, hcell, hf⟩ := hi i hil
      match vs, hlen with
      | [u0, u1, u2, u3, u4, u5], _ =>
        obtain ⟨n0, y0, t0⟩ := hf 0 _ u0 rfl rfl
        obtain ⟨n1, y1, t1⟩ := hf 1 _ u1 rfl rfl
        obtain ⟨n2, y2, t2⟩ := hf 2 _ u2 rfl rfl
        obtain ⟨n3, y3, t3⟩ := hf 3 _ u3 rfl rfl
        obtain ⟨n4, y4, t4⟩ := hf 4 _ u4 rfl rfl
        obtain ⟨n5, y5, t5⟩ := hf 5 _ u5 rfl rfl
        obtain ⟨z0, e0, -, w0⟩ := DataW.trod_int Tryz.underlying3 t0
        obtain ⟨z1, e1, -, w1⟩ := DataW.trod_int Tryz.underlying3 t1
        obtain ⟨z2, e2, -, w2⟩ := DataW.trod_int Tryz.underlying3 t2
        obtain ⟨z3, e3, -, w3⟩ := DataW.trod_int Tryz.underlying3 t3
        obtain ⟨z4, e4, -⟩ := DataW.trod_bool Tryz.underlying4 t4
        obtain ⟨n, xs, hx, hrow, h8⟩ := row_of_bytes t5
        simp only [List.cons.injEq, and_true] at e0 e1 e2 e3 e4
        subst e0; subst e1; subst e2; subst e3; subst e4; subst hx
        exact ⟨⟨z0, z1, z2, z3, z4, u5, xs⟩, ⟨int64_of_wf w0, int64_of_wf w1, int64_of_wf w2, int64_of_wf w3, h8, hrow⟩, hcell⟩
    have hget : ∃ ds : List DoM, ds.length = len ∧ ∀ i (h : i < ds.length), ds[i].Ok w ∧ ∀ j, j < 6 → w.cell? (a.add (i * 6 + j)) = (cellsD ds[i])[j]? := by
      refine ⟨(List.range len).attach.map (fun i => Classical.choose (key i.1 (List.mem_range.1 i.2))), by simp, fun i h => ?_⟩
      have hil : i < len := by simpa using h
      simp only [List.getElem_map, List.getElem_attach, List.getElem_range]
      exact Classical.choose_spec (key i hil)
    obtain ⟨ds, hdl, hds⟩ := hget
    subst hdl
    refine ⟨ds, some a, cap, rfl, ?_, fun i hij => ?_, fun d hd => ?_⟩
    · unfold maxLen at hm; omega
    · obtain ⟨b, off, spot⟩ := a
      have hspot : spot = none := by
        have h1 : w.cell? ((⟨b, off, spot⟩ : Addr).add (0 * 6 + 0)) = some (.int .i64 (ds[0]'(by omega)).op) := (hds 0 (by omega)).2 0 (by omega)
        simpa [Addr.add] using World.cell?_spot h1
      subst hspot
      exact ⟨b, off, rfl, fun j hj => by rw [← (hds i hij).2 j hj, add_plain]⟩
    · obtain ⟨i, hi', rfl⟩ := List.mem_iff_getElem.1 hd
      exact (hds i hi').1

set_option maxRecDepth 100000 in
theorem chunkLives_lifted (os : Os) (started : os.Started) (H : Type) (enc : TypeId × Value → H) :
    ReturnsInHanded {} Tryz.checked os 3 .any (Rows.chunkLivesSpec.pre6 enc Tryz.prog Tryz.f3 Rows.chunkLivesRow.domain false) (Rows.chunkLivesSpec.post enc Tryz.prog Tryz.f3 false true false false) := by
  refine returnsInHanded_of_change (C := Tryz.checked) Tryz.own started (by kernel_rfl) Tryz.func3
    (ChangeSpec.witness6 (enc := enc) (C := Tryz.checked) false ⟨#[], #[.slice none 0 0], []⟩ 8 (by kernel_rfl) (by kernel_rfl) (by kernel_rfl) (by kernel_rfl)) ?_
  intro W base args ds gs before hval0 hW hcnd _
  have hval : ∀ (j : Nat) t v, Tryz.f3.params[j]? = some t → args[j]? = some v → Value.okWide Tryz.prog W .any base t v := hval0
  have hW' := hW
  obtain ⟨p, q, hA0, hV, rfl, hfz, hnd⟩ := hW
  have hA : DataW.TrodAll enc Tryz.prog W 0 (fun _ => true) true Tryz.f3.params.toList args.toList ds p := hA0
  rw [Tryz.params3] at hA hval
  obtain ⟨v0, d0, rfl, rfl, h0⟩ := trodAll_one hA
  obtain ⟨rfl, rfl⟩ := trodVars_none hV
  obtain ⟨a0, len, cap, rfl⟩ := okWide_slice Tryz.underlying22 (hval 0 22 v0 rfl rfl)
  have h0k := h0
  obtain ⟨fuel, hf⟩ := h0
  clear hA0 hval0
  simp only [List.append_nil] at hW'
  have hlt : ∀ x ∈ p, x.block < W.heap.size := fun x hx => hW'.lt x hx
  obtain ⟨dos, hdos⟩ := dos_of (v := .slice a0 len cap) (by simpa [Value.cells] using hf)
  refine (chunkLives_any W _ dos hdos).mono fun e W' ⟨he, hb⟩ => ?_
  subst he
  exact ⟨_, rfl, post_of_below (pa := p) (pv := []) hW' (fun _ _ _ => trodAll_mk1 (shut_bool Tryz.underlying4 _)) (fun sp hsp => trodAll_mk1 (WideElems.Trod_stays Tryz.laidOut (by kernel_rfl) (of_decide_eq_true (by kernel_rfl)) h0k (fun x hx => hb.same (hlt x hx)) (fun x hx => hsp x hx))) (fun _ _ => rfl) (by simp) hb (ok_one (by kernel_rfl) rfl (okWide_bool_mk Tryz.underlying4 _))⟩

theorem chunkLives_holds : Rows.ChunkLivesSaid :=
  OpenClaim.holds_of_wide 3 Tryz.f3 rfl rfl rfl rfl rfl rfl rfl ⟨rfl, rfl, rfl, rfl, rfl⟩ rfl rfl rfl rfl rfl (by kernel_rfl) Tryz.func3 (by kernel_rfl)
    (of_decide_eq_true (by kernel_rfl)) (by unfold Func.isWrapper; first | (rw [if_pos (by decide +kernel)]; kernel_rfl) | (rw [if_neg (by decide +kernel)]; exact ⟨rfl, rfl⟩))
    (fun os started H enc _ => chunkLives_lifted os started H enc)
#print axioms chunkLives_holds

end Go.Proofs.YtmhmhpdpiikjiaaGreat
