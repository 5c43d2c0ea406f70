/- SearchImports answers true for every input, and leaves its arguments as they are. No conditions. -/
import Derived.Test.YtbhboaddanefbaaGreatFinImportsN5
import Derived.Test.YtbhboaddanefbaaGreatRows
import Derived.WalkKit
import Derived.ProofKit
set_option linter.unusedVariables false
set_option linter.unusedSimpArgs false
/- SearchImports answers true for every input, and leaves its arguments as they are. No conditions. -/
namespace Go.Proofs.YtbhboaddanefbaaGreat.imports
open Go Go.Sv Go.ChangeShapes Go.WideShapes Go.RowKit
set_option maxRecDepth 100000

theorem own : ownKnob Tryz.prog.godebug = none := by kernel_rfl
theorem laidOut : laidOutB Tryz.prog = true := by kernel_rfl
theorem u16_of {z : Int} (h : (Lit.int .u16 z).wf = true) : U16 z := by
  have := bounds_u16 h
  exact ⟨this.1, this.2⟩
theorem contract (H : Type) (enc : TypeId × Value → H) (W : World) (base : Nat) (args : Array Value) (ds gs : List (DataW H)) (before : List MemPlace)
    (hval : ∀ (j : Nat) t v, Tryz.f3.params[j]? = some t → args[j]? = some v → Value.okWide Tryz.prog W .any base t v)
    (hW : DataW.Whole enc Tryz.prog Tryz.f3.params.toList Rows.searchImportsSpec.vars false W args.toList ds gs before)
    (hsz : (DataW.weightsEach Tryz.prog (Tryz.f3.params.toList ++ Rows.searchImportsSpec.plain.varTypes Tryz.prog) (ds ++ gs)).all (· ≤ reachBytes) = true) :
    Calls Tryz.prog 3 args W fun e W' => ∃ v, e = .returned v ∧ Rows.searchImportsSpec.post enc Tryz.prog Tryz.f3 false true false false W args v W' := by
  have hW' := hW
  obtain ⟨p, q, hA0, hV, rfl, hfz, hnd⟩ := hW
  have hA : DataW.TrodAll enc Tryz.prog W 0 (fun _ => true) true Tryz.f3.params.toList args.toList ds p := hA0
  have hAk := hA
  rw [Tryz.params3] at hA hval
  obtain ⟨v0, v1, v2, d0, d1, d2, p0, p1, p2, rfl, rfl, rfl, h0, h1, h2⟩ := trodAll_three hA
  obtain ⟨rfl, rfl⟩ := trodVars_none hV
  obtain ⟨ls, rfl, hll, hlw⟩ := rd_array Tryz.underlying26 Tryz.underlying25 (by kernel_rfl) (by kernel_rfl) (hval 1 26 v1 rfl rfl) h1
  obtain ⟨l0, l1, l2, l3, l4, l5, l6, l7, l8, l9, l10, l11, rfl⟩ : ∃ l0 l1 l2 l3 l4 l5 l6 l7 l8 l9 l10 l11, ls = [l0, l1, l2, l3, l4, l5, l6, l7, l8, l9, l10, l11] := by
    match ls, hll with
    | [l0, l1, l2, l3, l4, l5, l6, l7, l8, l9, l10, l11], _ => exact ⟨l0, l1, l2, l3, l4, l5, l6, l7, l8, l9, l10, l11, rfl⟩
  have u : ∀ z ∈ [l0, l1, l2, l3, l4, l5, l6, l7, l8, l9, l10, l11], U16 z := fun z hz => u16_of (hlw z hz)
  obtain ⟨bits, rfl, _, rfl, wb⟩ := open_int Tryz.underlying25 (hval 2 25 v2 rfl rfl) h2
  obtain ⟨cs, rfl, hcs⟩ := okWide_struct Tryz.underlying24 (hval 0 24 v0 rfl rfl)
  obtain ⟨fuel0, h0⟩ := h0
  have hcz : cs.size = 2 := by rw [hcs]; kernel_rfl
  obtain ⟨c0, c1, rfl⟩ : ∃ c0 c1, cs = #[c0, c1] := by
    obtain ⟨l⟩ := cs
    match l, hcz with
    | [c0, c1], _ => exact ⟨c0, c1, rfl⟩
  obtain ⟨y0, y1, n, hxe, _, hy0, hy1⟩ := trod_struct2 Tryz.underlying24 h0
  have hd0 : d0 = .agg [y0.1, y1.1] := congrArg Prod.fst hxe
  have hw0 : ∀ n ∈ y1.1.weights Tryz.prog 22, n ≤ reachBytes := fun n hn => by
    rw [List.all_eq_true] at hsz
    have := hsz n (DataW.weights_mem_each (j := 0) (t := 24) (d := d0) (by rw [Tryz.params3]; rfl) rfl n (by
      rw [hd0]
      simp only [DataW.weights, Tryz.underlying24, List.map_cons, List.map_nil, DataW.weightsEach, List.append_nil]
      exact List.mem_append_right _ hn))
    simpa using this
  have hz0 : DataW.trod enc Tryz.prog W 0 (fun _ => true) true n 5 [c0] = some y0 := hy0
  have hz1 : DataW.trod enc Tryz.prog W 0 (fun _ => true) true n 22 [c1] = some y1 := hy1
  obtain ⟨r0, hr0, _, hr0w⟩ := DataW.trod_int Tryz.underlying5 hz0
  obtain rfl : c0 = .int .u8 r0 := by simpa using hr0
  obtain ⟨ra, rl, rc, hs, rows, hc1, hrlb, hrows, hhs, hrp, hrb, hrc⟩ := rd_rows Tryz.underlying22 (by kernel_rfl) Tryz.underlying73 Tryz.underlying74 (by kernel_rfl) hz1
  obtain rfl : c1 = vS ra rl rc := by simpa using hc1
  have hr8 := bounds_u8 hr0w
  obtain ⟨hrl, hrx⟩ := hrlb (by decide +kernel) (by decide +kernel) hw0
  have H0 := Holds.init W
  have key := k_SearchImports (l10 := l10) (bits := bits) (u l0 (by simp)) (u l1 (by simp)) (u l2 (by simp)) (u l3 (by simp)) (u l4 (by simp)) (u l5 (by simp)) (u l6 (by simp)) (u l7 (by simp)) (u l8 (by simp)) (u l9 (by simp)) (u l11 (by simp)) hr8.1 hr8.2 H0
    (ra := ra) (rl := rl) (rc := rc) (hs := hs) (rows := rows) hrows hhs (Nat.le_trans hrl (by decide)) (fun xs hxs => Nat.le_trans (hrx xs hxs) (by decide))
    (fun w' H => ⟨fun hp => hrp (by omega), fun i h xs g1 g2 b o e => cell_keep H 0 rfl ((hrc i h xs g1 g2).1 b o e), fun i h xs g1 g2 => (hrc i h xs g1 g2).2.1, fun i h xs g1 g2 b o e j z hz => cell_keep H 0 rfl ((hrc i h xs g1 g2).2.2 b o e j z hz)⟩)
  refine Calls.mono key fun e W' he => ?_
  cases e with
  | returned v =>
    obtain ⟨rfl, HF⟩ := he
    obtain ⟨hsame, hb⟩ := HF.same 0 rfl
    refine ⟨_, rfl, post_of_same (pa := p0 ++ p1 ++ []) (pv := []) hW' (fun _ _ _ => trodAll_mk1 (shut_bool Tryz.underlying4 true)) (fun sp hsp => ?_) (fun _ _ => rfl) rfl (kept_of hsame hb _) (fun a => hsame.2.2 a) (ok_one (by kernel_rfl) rfl (okWide_bool_mk Tryz.underlying4 _))⟩
    refine trodAll_stays laidOut hb (by rw [Tryz.params3]; decide +kernel) hAk (fun x hx => hW'.lt x (by simpa using hx)) (fun x hx => hsp x (by simpa using hx))
  | panicked c => exact he.elim
  | outgrown => exact he.elim
set_option maxRecDepth 100000 in
theorem lifted (os : Os) (started : os.Started) (H : Type) (enc : TypeId × Value → H) :
    ReturnsInHanded {} Tryz.checked os 3 .any (Rows.searchImportsSpec.pre6 enc Tryz.prog Tryz.f3 Rows.searchImportsRow.domain false) (Rows.searchImportsSpec.post enc Tryz.prog Tryz.f3 false true false false) := by
  refine returnsInHanded_of_change_sized (C := Tryz.checked) own started (by kernel_rfl) Tryz.func3
    (ChangeSpec.witness6 (enc := enc) (C := Tryz.checked) false ⟨#[], #[.agg #[.int .u8 0, .slice none 0 0], .agg #[.int .u16 0, .int .u16 0, .int .u16 0, .int .u16 0, .int .u16 0, .int .u16 0, .int .u16 0, .int .u16 0, .int .u16 0, .int .u16 0, .int .u16 0, .int .u16 0], .int .u16 0], []⟩ 8 (by kernel_rfl) (by kernel_rfl) (by kernel_rfl) (by kernel_rfl)) ?_
  intro W base args ds gs before hval hW _ hsz _
  exact contract H enc W base args ds gs before hval hW hsz
theorem holds : Rows.SearchImportsSaid :=
  OpenClaim.holds_of_wide 3 Tryz.f3 rfl rfl rfl rfl rfl rfl rfl ⟨rfl, rfl, rfl, rfl, rfl⟩ rfl rfl rfl rfl rfl (by kernel_rfl) Tryz.func3 (by kernel_rfl)
    (of_decide_eq_true (by kernel_rfl)) (by unfold Func.isWrapper; first | (rw [if_pos (by decide +kernel)]; kernel_rfl) | (rw [if_neg (by decide +kernel)]; exact ⟨rfl, rfl⟩))
    (fun os started H enc _ => lifted os started H enc)
end Go.Proofs.YtbhboaddanefbaaGreat.imports
