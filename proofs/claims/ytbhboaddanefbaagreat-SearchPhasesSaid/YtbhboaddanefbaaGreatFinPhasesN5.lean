/- SearchPhases answers true for every input, and leaves its arguments as they are. No conditions. -/
import Derived.Test.YtbhboaddanefbaaGreatFinPhasesN4
import Derived.Test.YtbhboaddanefbaaGreatRows
import Derived.WalkKit
import Derived.ProofKit
set_option linter.unusedVariables false
set_option linter.unusedSimpArgs false
/- SearchPhases answers true for every input, and leaves its arguments as they are. No conditions. -/
namespace Go.Proofs.YtbhboaddanefbaaGreat.phases
open Go Go.Sv Go.ChangeShapes Go.WideShapes Go.RowKit
set_option maxRecDepth 100000

theorem own : ownKnob Tryz.prog.godebug = none := by kernel_rfl
theorem laidOut : laidOutB Tryz.prog = true := by kernel_rfl
theorem u16_of {z : Int} (h : (Lit.int .u16 z).wf = true) : U16 z := by
  have := bounds_u16 h
  exact ⟨this.1, this.2⟩
theorem contract (H : Type) (enc : TypeId × Value → H) (W : World) (base : Nat) (args : Array Value) (ds gs : List (DataW H)) (before : List MemPlace)
    (hval : ∀ (j : Nat) t v, Tryz.f4.params[j]? = some t → args[j]? = some v → Value.okWide Tryz.prog W .any base t v)
    (hW : DataW.Whole enc Tryz.prog Tryz.f4.params.toList Rows.searchPhasesSpec.vars false W args.toList ds gs before) :
    Calls Tryz.prog 4 args W fun e W' => ∃ v, e = .returned v ∧ Rows.searchPhasesSpec.post enc Tryz.prog Tryz.f4 false true false false W args v W' := by
  have hW' := hW
  obtain ⟨p, q, hA0, hV, rfl, hfz, hnd⟩ := hW
  have hA : DataW.TrodAll enc Tryz.prog W 0 (fun _ => true) true Tryz.f4.params.toList args.toList ds p := hA0
  have hAk := hA
  rw [Tryz.params4] at hA hval
  obtain ⟨v0, v1, v2, d0, d1, d2, p0, p1, p2, rfl, rfl, rfl, h0, h1, h2⟩ := trodAll_three hA
  obtain ⟨rfl, rfl⟩ := trodVars_none hV
  obtain ⟨ls, rfl, hll, hlw⟩ := rd_array Tryz.underlying26 Tryz.underlying25 (by kernel_rfl) (by kernel_rfl) (hval 0 26 v0 rfl rfl) h0
  obtain ⟨fuel1, h1⟩ := h1
  obtain ⟨wa0, wl0, wc0, rfl⟩ := okWide_slice Tryz.underlying51 (hval 1 51 v1 rfl rfl)
  obtain ⟨wa, wl, wc, ws, hcs, hwl, hww, hwp, hwc⟩ := rd_ints Tryz.underlying51 Tryz.underlying36 (by kernel_rfl) h1
  simp only [Value.cells, List.cons.injEq, Value.slice.injEq, and_true] at hcs
  obtain ⟨rfl, rfl, rfl⟩ := hcs
  obtain ⟨rs, rfl, hrl, hr⟩ := rd_arr1 Tryz.underlying52 (by kernel_rfl) (by kernel_rfl) (hval 2 52 v2 rfl rfl) h2
  obtain ⟨r0, r1, rfl⟩ : ∃ r0 r1, rs = [r0, r1] := by
    match rs, hrl with
    | [r0, r1], _ => exact ⟨r0, r1, rfl⟩
  obtain ⟨m0, x0, hr0⟩ := hr 0 r0 rfl
  obtain ⟨m1, x1, hr1⟩ := hr 1 r1 rfl
  obtain ⟨ra, rl, rc, _, hc0, _⟩ := rd_bools Tryz.underlying33 Tryz.underlying4 (by kernel_rfl) hr0
  obtain ⟨aa, al_, ac, bs, hc1, hbl, hbp, hbc⟩ := rd_bools Tryz.underlying33 Tryz.underlying4 (by kernel_rfl) hr1
  obtain rfl : r0 = vS ra rl rc := by simpa using hc0
  obtain rfl : r1 = vS aa al_ ac := by simpa using hc1
  obtain ⟨l0, l1, l2, l3, l4, l5, l6, l7, l8, l9, l10, l11, rfl⟩ : ∃ l0 l1 l2 l3 l4 l5 l6 l7 l8 l9 l10 l11, ls = [l0, l1, l2, l3, l4, l5, l6, l7, l8, l9, l10, l11] := by
    match ls, hll with
    | [l0, l1, l2, l3, l4, l5, l6, l7, l8, l9, l10, l11], _ => exact ⟨l0, l1, l2, l3, l4, l5, l6, l7, l8, l9, l10, l11, rfl⟩
  have u : ∀ z ∈ [l0, l1, l2, l3, l4, l5, l6, l7, l8, l9, l10, l11], U16 z := fun z hz => u16_of (hlw z hz)
  have H0 := Holds.init W
  have key := k_SearchPhases (l10 := l10) (u l0 (by simp)) (u l1 (by simp)) (u l2 (by simp)) (u l3 (by simp)) (u l4 (by simp)) (u l5 (by simp)) (u l6 (by simp)) (u l7 (by simp)) (u l8 (by simp)) (u l9 (by simp)) (u l11 (by simp)) H0
    (wa := wa0) (wl := wl0) (wc := wc0) (ra := ra) (rl := rl) (rc := rc) (aa := aa) (ak := al_) (ac := ac) (ws := ws) (bs := bs) hwl (fun x hx => (bounds_u64 (hww x hx)).1) hbl
    (fun w' H => ?_) (fun w' H => ⟨fun hp => hbp (by omega), fun b o e i x hx => cell_keep H 0 rfl (hbc b o e i x hx)⟩)
  · refine Calls.mono key fun e W' he => ?_
    cases e with
    | returned v =>
      obtain ⟨rfl, HF⟩ := he
      obtain ⟨hsame, hb⟩ := HF.same 0 rfl
      refine ⟨_, rfl, post_of_same (pa := p0 ++ p1 ++ p2) (pv := []) hW' (fun _ _ _ => trodAll_mk1 (shut_bool Tryz.underlying4 true)) (fun sp hsp => ?_) (fun _ _ => rfl) rfl (kept_of hsame hb _) (fun a => hsame.2.2 a) (ok_one (by kernel_rfl) rfl (okWide_bool_mk Tryz.underlying4 _))⟩
      refine trodAll_stays laidOut hb (by rw [Tryz.params4]; decide +kernel) hAk (fun x hx => hW'.lt x (by simpa using hx)) (fun x hx => hsp x (by simpa using hx))
    | panicked c => exact he.elim
    | outgrown => exact he.elim
  · refine asrc_read slU (by simpa using hwl) (fun v hv => by obtain ⟨z, _, rfl⟩ := List.mem_map.1 hv; rfl) hwp (fun b o e k v hk => ?_)
    rw [List.getElem?_map] at hk
    cases hz : ws[k]? with
    | none => rw [hz] at hk; cases hk
    | some z =>
      rw [hz] at hk
      have : v = vU z := by simpa using hk.symm
      rw [this]
      exact cell_keep H 0 rfl (hwc b o e k z hz)
set_option maxRecDepth 100000 in
theorem lifted (os : Os) (started : os.Started) (H : Type) (enc : TypeId × Value → H) :
    ReturnsInHanded {} Tryz.checked os 4 .any (Rows.searchPhasesSpec.pre6 enc Tryz.prog Tryz.f4 Rows.searchPhasesRow.domain false) (Rows.searchPhasesSpec.post enc Tryz.prog Tryz.f4 false true false false) := by
  refine returnsInHanded_of_change (C := Tryz.checked) own started (by kernel_rfl) Tryz.func4
    (ChangeSpec.witness6 (enc := enc) (C := Tryz.checked) false ⟨#[], #[.agg #[.int .u16 0, .int .u16 0, .int .u16 0, .int .u16 0, .int .u16 0, .int .u16 0, .int .u16 0, .int .u16 0, .int .u16 0, .int .u16 0, .int .u16 0, .int .u16 0], .slice none 0 0, .agg #[.slice none 0 0, .slice none 0 0]], []⟩ 8 (by kernel_rfl) (by kernel_rfl) (by kernel_rfl) (by kernel_rfl)) ?_
  intro W base args ds gs before hval hW _ _
  exact contract H enc W base args ds gs before hval hW
theorem holds : Rows.SearchPhasesSaid :=
  OpenClaim.holds_of_wide 4 Tryz.f4 rfl rfl rfl rfl rfl rfl rfl ⟨rfl, rfl, rfl, rfl, rfl⟩ rfl rfl rfl rfl rfl (by kernel_rfl) Tryz.func4 (by kernel_rfl)
    (of_decide_eq_true (by kernel_rfl)) (by unfold Func.isWrapper; first | (rw [if_pos (by decide +kernel)]; kernel_rfl) | (rw [if_neg (by decide +kernel)]; exact ⟨rfl, rfl⟩))
    (fun os started H enc _ => lifted os started H enc)
end Go.Proofs.YtbhboaddanefbaaGreat.phases
