/- Parts of a proof: KLawI2, KGlue. -/
import Derived.Test.YtbhboaddanefbaaGreatFinImportsN4
import Derived.Carry
import Derived.Deep.Slices
import Derived.Deep.Grids
import Derived.ChangeSlices
import Derived.OpenShut
import Derived.ReadAgain
import Derived.SizedLaws
set_option linter.unusedVariables false
set_option linter.unusedSimpArgs false
/- The statement SearchImports: it answers true. -/
namespace Go.Sv
open Go Go.Proofs
set_option maxRecDepth 100000

/-- What the phases are to variables. -/
def asgn (bs : List Bool) (v : Int) : Bool := (bs[(v - 1).toNat]?).getD false
theorem litB_lt {bs : List Bool} {x : Int} (h : litB bs x = true) : lt (asgn bs) x := by
  unfold litB at h
  unfold lt asgn
  by_cases h1 : x > 0
  · rw [if_pos h1] at h
    rw [show ((x.natAbs : Int) - 1).toNat = (x - 1).toNat by omega, h, decide_eq_true (by omega)]
  · rw [if_neg h1] at h
    by_cases h2 : x < 0
    · rw [if_pos h2] at h
      rw [show ((x.natAbs : Int) - 1).toNat = (-x - 1).toNat by omega, decide_eq_false (by omega)]
      simpa using h
    · rw [if_neg h2] at h; cases h
theorem fixC_sat {bs : List Bool} {n i : Nat} {c : List Int} (hn : 0 < n) (hb : bs.length = n) : ∃ x ∈ fixC bs n i c, litB bs x = true := by
  unfold fixC
  split
  · rename_i h
    unfold clB at h
    exact List.any_eq_true.1 h
  · refine ⟨fixV bs n i, by simp, ?_⟩
    unfold fixV litB
    have hi : i % n < bs.length := by rw [hb]; exact Nat.mod_lt _ hn
    rw [List.getElem?_eq_getElem hi]
    cases hx : bs[i % n] with
    | true =>
      simp only [Option.getD_some, if_true]
      rw [if_pos (by omega), show (1 + ((i % n : Nat) : Int) - 1).toNat = i % n by omega, List.getElem?_eq_getElem hi, hx]; rfl
    | false =>
      simp only [Option.getD_some, Bool.false_eq_true, if_false]
      rw [if_neg (by omega), if_pos (by omega), show (-(-(1 + ((i % n : Nat) : Int))) - 1).toNat = i % n by omega, List.getElem?_eq_getElem hi, hx]; rfl
theorem fixV_right {bs : List Bool} {n i : Nat} (hn : 0 < n) : right (fixV bs n i) n = true := by
  have := Nat.mod_lt i hn
  unfold fixV
  apply right_iff.2
  split <;> omega
theorem fixC_right {bs : List Bool} {n i : Nat} {c : List Int} (hn : 0 < n) (h : ∀ x ∈ c, right x n = true) : ∀ x ∈ fixC bs n i c, right x n = true := by
  unfold fixC
  split
  · exact h
  · intro x hx
    rcases List.mem_append.1 hx with hx | hx
    · exact h x hx
    · have : x = fixV bs n i := by simpa using hx
      rw [this]; exact fixV_right hn
theorem fixC_len (bs : List Bool) (n i : Nat) (c : List Int) : (fixC bs n i c).length ≤ c.length + 1 := by
  unfold fixC
  split
  · omega
  · simp
theorem fsize_le : ∀ {cs : List (List Int)} {m : Nat}, (∀ c ∈ cs, c.length ≤ m) → fsize cs ≤ cs.length * (m + 3)
  | [], m, _ => by simp [fsize]
  | c :: cs, m, h => by
    have ih := fsize_le (fun d hd => h d (List.mem_cons_of_mem _ hd))
    have := h c (List.mem_cons_self ..)
    have e1 : fsize (c :: cs) = c.length + 3 + fsize cs := by simp [fsize]
    rw [e1, List.length_cons, Nat.succ_mul]
    omega
theorem mkF_right {n : Nat} (hn2 : n ≤ 1000) {width : Nat} {rows : List (List Int)} : ∀ c ∈ mkF (n : Int) width rows, c.length ≤ width ∧ ∀ x ∈ c, right x n = true := by
  intro c hc
  unfold mkF at hc
  obtain ⟨xs, _, rfl⟩ := List.mem_map.1 hc
  refine ⟨mkCl_len _ _ _, fun x hx => ?_⟩
  unfold mkCl at hx
  split at hx
  · cases hx
  · obtain ⟨z, _, rfl⟩ := List.mem_map.1 hx
    exact mkLit_right (by omega) hn2 z
theorem imports_k2 {L L0 : List HPr} {w : World} {s n : Nat} {Z Z0 : Se} {bs : List Bool} {a : Int → Bool} {aa : Option Addr} {ak ac : Nat} (H : Holds (SeR s Z :: L) w) (hz : Z.Won n a Z0) (hn : n ≤ 100) (hak : ak = n) (hbl : bs.length = n) (hm : ∀ i, i < n → Z.model[i]? = bs[i]?)
    (hsrc : ∀ w', Holds L w' → BSrc aa bs w') (hd : ∀ w', Holds L w' → Holds L0 w') : vc_bradawllaw22_SearchImports_k2 aa ak ac (aP s 0) false w (fun v w' => v = vB true ∧ Holds L0 w') := by
  unfold vc_bradawllaw22_SearchImports_k2
  subst hak
  have hml := hz.ml
  refine gif_f rfl (Calls.ret (k_SModel H (by omega)) ?_)
  rintro _ w1 ⟨ma, mc, rfl, H⟩
  refine ⟨_, _, _, rfl, fun vs w => ∃ j : Nat, vs = [vI j] ∧ j ≤ ak ∧ Holds (osl T.bool 1 ma Z.model.length mc (Z.model.map vB) :: SeR s Z :: L) w, fun vs _ => (match vs with | [.int _ j] => (ak : Int) - j | _ => 0).toNat, ⟨0, rfl, Nat.zero_le _, H⟩, ?_⟩
  rintro i w5 ⟨j, hv, hj, H⟩
  simp only [List.cons.injEq, Value.int.injEq, true_and, and_true] at hv
  subst hv
  refine gif_d (fun hc => ?_) (fun hc => ?_)
  · have hlt : j < ak := by omega
    obtain ⟨x, hx⟩ := lt_get (l := bs) (i := j) (by omega)
    refine dr H fun w6 H => ⟨⟨by omega, by omega⟩, opm H 0 rfl (by omega) fun b1 o1 e1 => ?_⟩
    rw [e1] at H
    have hs := hsrc _ H.tail.tail
    obtain ⟨b2, o2, e2⟩ := hs.at_ (by omega)
    rw [Int.toNat_natCast]
    refine ⟨_, cel_bools H 0 rfl (by rw [hm j hlt]; exact hx), ⟨by omega, by omega⟩, ?_⟩
    rw [e2]
    refine pm_i ⟨x, hs.cell b2 o2 e2 j x hx, ?_⟩
    rw [show (!(x == x)) = false by cases x <;> rfl]
    rw [e1]
    exact gif_f rfl ⟨by unfold InI; omega, ⟨j + 1, rfl, by omega, H⟩, by simp only; omega⟩
  · refine gif_t (by rw [hml]; simp) (Calls.ret (k_SProof H.tail (by rw [hz.c.2.2.2.2.1]; exact Nat.zero_le _) (by rw [hz.c.2.2.2.2.1]; intro x hx; cases hx)) ?_)
    rintro _ w6 ⟨a2, c2, rfl, H⟩
    exact ⟨_, _, _, rfl, by rw [hz.c.2.2.2.2.1]; rfl, hd _ H.tail.tail⟩
theorem k_SearchImports {L : List HPr} {w : World} {l0 l1 l2 l3 l4 l5 l6 l7 l8 l9 l10 l11 r0 bits : Int} (h0 : U16 l0) (h1 : U16 l1) (h2 : U16 l2) (h3 : U16 l3) (h4 : U16 l4) (h5 : U16 l5) (h6 : U16 l6) (h7 : U16 l7) (h8 : U16 l8) (h9 : U16 l9) (h11 : U16 l11) (hr0 : 0 ≤ r0) (hr1 : r0 ≤ 255)
    (H : Holds L w) {ra : Option Addr} {rl rc : Nat} {hs : List (Option Addr × Nat)} {rows : List (List Int)} (hl : rows.length = rl) (hh : hs.length = rows.length) (hb : rl ≤ 140737488355328) (hbr : ∀ xs ∈ rows, xs.length ≤ 140737488355328)
    (hsrc : ∀ w', Holds L w' → RSrc ra hs rows w') :
    Calls cx.P F.bradawllaw22_SearchImports #[.agg #[.int .u8 r0, vS ra rl rc], .agg #[vW l0, vW l1, vW l2, vW l3, vW l4, vW l5, vW l6, vW l7, vW l8, vW l9, vW l10, vW l11], vW bits] w (Ret fun v w' => v = vB true ∧ Holds L w') := by
  apply vc_bradawllaw22_SearchImports
  refine al H fun b1 w1 H => al H fun b2 w2 H => Calls.ret (k_fit H) ?_
  rintro _ w3 ⟨rfl, H⟩
  refine ⟨_, rfl, gif_f rfl ⟨_, _, _, _, celL_pre H 1 _ [] rfl, Calls.ret (k_Light H r0 hl hh 60 (by omega) (by omega) hb hbr (fun w' H => hsrc w' H.tail.tail)) ?_⟩⟩
  rintro _ w4 ⟨rfl, H⟩
  refine ⟨_, rfl, gif_i (fun hc => ⟨rfl, H.tail.tail⟩) (fun hc => ?_)⟩
  have hlight : light 60 rows = true := by simpa using hc
  unfold light at hlight
  rw [Bool.and_eq_true, decide_eq_true_iff] at hlight
  have hrl60 : rl ≤ 60 := by omega
  refine ⟨_, _, _, _, celL_pre H 1 _ [] rfl, Calls.ret (k_RFormula H hr0 hr1 hl hh 10 6 (by omega) (by omega) (by omega) hbr (fun w' H => hsrc w' H.tail.tail)) ?_⟩
  rintro _ w5 ⟨p, pc, rfl, H⟩
  have hnn : ∃ n : Nat, Int.tmod r0 (((10 : Nat) : Int) + 1) = (n : Int) ∧ n ≤ 10 := by
    rw [Int.tmod_eq_emod_of_nonneg hr0]
    exact ⟨(r0 % (((10 : Nat) : Int) + 1)).toNat, by omega, by omega⟩
  obtain ⟨n, hn, hn10⟩ := hnn
  rw [hn] at H ⊢
  have hmr := mkF_right (n := n) (by omega) (width := 6) (rows := rows)
  have hml : (mkF (n : Int) 6 rows).length = rl := by unfold mkF; rw [List.length_map]; exact hl
  generalize mkF (n : Int) 6 rows = cs at *
  refine ⟨_, _, _, _, rfl, al H fun b3 w6 H => stW H 0 rfl rfl rfl fun w7 H => ⟨_, cel H 0 rfl rfl, ?_⟩⟩
  refine omk slBool H (by omega) (by omega) (by omega) (by omega) fun a w8 H => ⟨_, _, _, rfl, ?_⟩
  rw [Int.toNat_natCast] at H ⊢
  have hrep : repL n [vB false] = (curA bits n 0).map vB := by
    apply List.ext_getElem?
    intro i
    by_cases hi : i < n
    · rw [repL_get n _ i (by simpa using hi), List.getElem?_map, curA_get hi]
      simp [Nat.mod_one]
    · rw [List.getElem?_eq_none (by rw [repL_len]; simp; omega), List.getElem?_eq_none (by rw [List.length_map, curA_len]; omega)]
  rw [hrep] at H
  refine ⟨fun vs w => ∃ k : Nat, vs = [vI k] ∧ k ≤ n ∧ Holds (osl T.bool 1 a n n ((curA bits n k).map vB) :: blk b3 [vI (n : Int), vS p rl pc] T.api_Formula :: LsR p pc cs :: blk b2 [vW l0, vW l1, vW l2, vW l3, vW l4, vW l5, vW l6, vW l7, vW l8, vW l9, vW l10, vW l11] T.t12_uint16 :: blk b1 [.int .u8 r0, vS ra rl rc] T.bradawllaw02_Raw :: L) w, fun vs _ => (match vs with | [.int _ k] => (n : Int) - k | _ => 0).toNat, ⟨0, rfl, Nat.zero_le _, H⟩, ?_⟩
  rintro i w9 ⟨k, hv, hk, H⟩
  simp only [List.cons.injEq, Value.int.injEq, true_and, and_true] at hv
  subst hv
  refine gif_d (fun hc => ?_) (fun hc => ?_)
  · have hlt : k < n := by omega
    refine ⟨by omega, ⟨by omega, by omega⟩, opm H 0 rfl (by omega) fun b o e => ?_⟩
    subst e
    rw [Int.toNat_natCast]
    refine ost H 0 rfl rfl (by rw [List.length_map, curA_len]; simp; omega) fun w10 H => ⟨by unfold InI; omega, ⟨k + 1, rfl, by omega, ?_⟩, by simp only; omega⟩
    have e : setL ((curA bits n k).map vB) k [vB (bitI .and .u16 (shrI .u16 bits (k : Int)) 1 == 1)] = (curA bits n (k + 1)).map vB := by
      rw [← curA_set hlt]
      show ((curA bits n k).map vB).set k _ = _
      rw [List.map_set]; rfl
    rw [e] at H
    exact H
  · have hge : k = n := by omega
    subst hge
    have hbl := curA_len bits k k
    generalize curA bits k k = bs at *
    refine ⟨_, cel H 1 rfl rfl, gif_i (fun hc => ⟨rfl, H.tail.tail.tail.tail.tail⟩) (fun hc => ?_)⟩
    have hk0 : 0 < k := by
      have : ¬ (k : Int) = 0 := by simpa using hc
      omega
    refine ⟨_, _, _, cel H 1 rfl rfl, fun vs w => ∃ j : Nat, vs = [vI j] ∧ j ≤ rl ∧ Holds (LsR p pc (curF bs k j cs) :: blk b3 [vI (k : Int), vS p rl pc] T.api_Formula :: osl T.bool 1 a k k (bs.map vB) :: blk b2 [vW l0, vW l1, vW l2, vW l3, vW l4, vW l5, vW l6, vW l7, vW l8, vW l9, vW l10, vW l11] T.t12_uint16 :: blk b1 [.int .u8 r0, vS ra rl rc] T.bradawllaw02_Raw :: L) w,
      fun vs _ => (match vs with | [.int _ j] => (rl : Int) - j | _ => 0).toNat, ⟨0, rfl, Nat.zero_le _, by rw [curF_zero]; exact Holds.ord 3 [2, 1, 0] rfl H⟩, ?_⟩
    rintro i w10 ⟨j, hv, hj, H⟩
    simp only [List.cons.injEq, Value.int.injEq, true_and, and_true] at hv
    subst hv
    have hfl : (curF bs k j cs).length = rl := by rw [curF_len]; exact hml
    refine gif_d (fun hc2 => ?_) (fun hc2 => ?_)
    · have hlt : j < rl := by omega
      obtain ⟨c, hcj⟩ := lt_get (l := cs) (i := j) (by omega)
      obtain ⟨hcl, hcr⟩ := hmr c (List.mem_of_getElem? hcj)
      obtain ⟨rs, hrs, H⟩ := LsR.op H
      obtain ⟨hd, hhd⟩ := lt_get (l := rs) (i := j) (by omega)
      have hcf : (curF bs k j cs)[j]? = some c := by rw [curF_get, hcj]; simp
      have hset : ∀ v : Int, clB bs c = false → v = fixV bs k j → (curF bs k j cs).set j (c ++ [v]) = curF bs k (j + 1) cs := by
        intro v hb hv
        rw [← curF_set hcj]
        unfold fixC
        rw [hb, hv]; rfl
      have hsame : clB bs c = true → curF bs k (j + 1) cs = curF bs k j cs := fun hb => curF_same hcj hb
      have hmod : Int.tmod (j : Int) (k : Int) = ((j % k : Nat) : Int) := rfl
      have hmlt := Nat.mod_lt j hk0
      generalize hout : curF bs k j cs = out at *
      have H : Holds (osl T.s_int 1 p out.length pc (slots rs out) :: star (rowsP T.int 1 (fun x : Int => [vI x]) rs out) :: blk b3 [vI (k : Int), vS p rl pc] T.api_Formula :: osl T.bool 1 a k k (bs.map vB) :: blk b2 [vW l0, vW l1, vW l2, vW l3, vW l4, vW l5, vW l6, vW l7, vW l8, vW l9, vW l10, vW l11] T.t12_uint16 :: blk b1 [.int .u8 r0, vS ra rl rc] T.bradawllaw02_Raw :: L) w10 := H
      refine ⟨⟨by omega, by omega⟩, opm H 0 rfl (by omega) fun b o e => ?_⟩
      rw [Int.toNat_natCast]
      rw [e] at H
      refine ⟨_, _, _, oc H 0 rfl (slots_get hhd hcf), _, cel H 2 rfl rfl, al H fun b6 w11 H => ?_⟩
      refine Calls.ret (k_Holds H (k : Int) (hs := [hd]) (cs := [c]) (bs := bs) rfl rfl (by omega) hbl (by omega) (by simp; omega) (by simpa using hcr) (fun w' H => gsrc_one H 0 2 hhd hcf rfl rfl) (fun w' H => bsrc_osl H 4 hbl rfl)) ?_
      rintro _ w12 ⟨rfl, H⟩
      have hhb : holdsB bs [c] = clB bs c := by unfold holdsB; simp
      rw [hhb]
      have H := H.tail
      rw [← e] at H
      refine ⟨_, rfl, gif_i (fun hb => ?_) (fun hb => ?_)⟩
      · have hb' : clB bs c = false := by simpa using hb
        refine ⟨_, cel H 2 rfl rfl, by omega, ?_⟩
        rw [hmod]
        have e1 : (1 + ((j % k : Nat) : Int)) - 1 = ((j % k : Nat) : Int) := by omega
        rw [e1]
        have hbx := List.getElem?_eq_getElem (l := bs) (i := j % k) (by omega)
        refine ⟨by unfold InI; omega, by unfold InI; omega, ⟨by omega, by omega⟩, opm H 3 rfl (by omega) fun b7 o7 e7 => ?_⟩
        rw [e7] at H ⊢
        rw [Int.toNat_natCast]
        refine ⟨_, cel_bools H 3 rfl hbx, ?_⟩
        have fin : ∀ (v : Int), v = fixV bs k j → ∀ w', Holds (LsR p pc (out.set j (c ++ [v])) :: blk b3 [vI (k : Int), vS p out.length pc] T.api_Formula :: osl T.bool 1 (aP b7 o7) k k (bs.map vB) :: blk b2 [vW l0, vW l1, vW l2, vW l3, vW l4, vW l5, vW l6, vW l7, vW l8, vW l9, vW l10, vW l11] T.t12_uint16 :: blk b1 [.int .u8 r0, vS ra rl rc] T.bradawllaw02_Raw :: L) w' →
            InI ((j : Int) + 1) ∧ (∃ j_1 : Nat, [vI ((j : Int) + 1)] = [vI (j_1 : Int)] ∧ j_1 ≤ rl ∧ Holds (LsR p pc (curF bs k j_1 cs) :: blk b3 [vI (k : Int), vS p rl pc] T.api_Formula :: osl T.bool 1 (aP b7 o7) k k (bs.map vB) :: blk b2 [vW l0, vW l1, vW l2, vW l3, vW l4, vW l5, vW l6, vW l7, vW l8, vW l9, vW l10, vW l11] T.t12_uint16 :: blk b1 [.int .u8 r0, vS ra rl rc] T.bradawllaw02_Raw :: L) w') ∧ ((rl : Int) - ((j : Int) + 1)).toNat < ((rl : Int) - (j : Int)).toNat := by
          intro v hv w' H
          rw [hset v hb' hv, hfl] at H
          exact ⟨by unfold InI; omega, ⟨j + 1, rfl, by omega, H⟩, by omega⟩
        rw [← hfl] at H fin ⊢
        refine gif_i (fun hx => ?_) (fun hx => ?_)
        · have hx' : bs[j % k] = false := by simpa using hx
          refine ⟨by unfold InI; omega, imports_k1 hrs hhd hcf (by omega) H (fin _ ?_)⟩
          unfold fixV
          rw [hbx, hx']
          simp
        · have hx' : bs[j % k] = true := by simpa using hx
          refine imports_k1 hrs hhd hcf (by omega) H (fin _ ?_)
          unfold fixV
          rw [hbx, hx']
          simp
      · have hb' : clB bs c = true := by simpa using hb
        refine ⟨by unfold InI; omega, ⟨j + 1, rfl, by omega, ?_⟩, by simp only; omega⟩
        rw [hsame hb']
        exact LsR.sh hrs H
    · have hge : j = rl := by omega
      subst hge
      have hsat : ∀ c ∈ curF bs k j cs, (∃ x ∈ c, litB bs x = true) ∧ (∀ x ∈ c, right x k = true) ∧ c.length ≤ 7 := by
        intro c hc
        obtain ⟨i, hi, e⟩ := List.getElem_of_mem hc
        have hg := curF_get bs k j cs i
        rw [List.getElem?_eq_getElem hi, e] at hg
        cases hci : cs[i]? with
        | none => rw [hci] at hg; cases hg
        | some d =>
          have hil := get_lt hci
          rw [hci, Option.map_some, if_pos (by omega)] at hg
          have e2 : c = fixC bs k i d := by simpa using hg
          obtain ⟨d1, d2⟩ := hmr d (List.mem_of_getElem? hci)
          have := fixC_len bs k i d
          rw [e2]
          exact ⟨fixC_sat hk0 hbl, fixC_right hk0 d2, by omega⟩
      generalize curF bs k j cs = fs at *
      refine ⟨_, _, _, _, _, _, _, _, _, _, _, _, celL_pre H 3 _ [] rfl, Calls.ret (k_Made H h0 h1 h2 h3 h4 h5 h6 h7 h8 h9 h11) ?_⟩
      rintro _ w11 ⟨rfl, H⟩
      have hgood := made_good (l2 := l2) (l3 := l3) (l4 := l4) (l5 := l5) (l6 := l6) (l7 := l7) (l8 := l8) (l9 := l9) (l10 := l10) (l11 := l11) h0 h1
      have hwords : (made l0 l1 l2 l3 l4 l5 l6 l7 l8 l9 l10 l11).words = -1 := rfl
      have hseed : 0 ≤ (made l0 l1 l2 l3 l4 l5 l6 l7 l8 l9 l10 l11).seed := u64_nonneg _
      generalize made l0 l1 l2 l3 l4 l5 l6 l7 l8 l9 l10 l11 = o at *
      refine ⟨_, _, _, _, _, _, _, _, _, _, _, _, _, _, _, _, rfl, al H fun b14 w12 H => stW H 0 rfl rfl rfl fun w13 H => dr H fun w14 H => ?_⟩
      have H : Holds (blk b14 o.vs T.opts_Options :: LsR p pc fs :: blk b3 [vI (k : Int), vS p j pc] T.api_Formula :: osl T.bool 1 a k k (bs.map vB) :: L) w14 := Holds.ord 6 [0, 1, 2, 3] rfl H
      refine ⟨_, _, _, _, celL_pre H 2 _ [] rfl, _, _, _, _, _, _, _, _, _, _, _, _, _, _, _, _, celL_pre H 0 _ [] rfl, _, cel H 0 rfl rfl, Calls.ret (k_rng_New H (ws := []) rfl (Nat.zero_le _) (fun w' _ => asrc_nil slU) o.seed) ?_⟩
      rintro _ w15 ⟨st, rfl, H⟩
      refine ⟨_, rfl, celL_pre H 3 _ [] rfl, celL_pre H 1 _ [] rfl, ?_⟩
      have hG0 := rg_new_ok (ws := []) (fun x hx => by cases hx) hseed
      have H := H.pick 2 rfl
      obtain ⟨rs, hrs, H⟩ := LsR.op H
      have H : Holds (RgR st ⟨[], rgSeed o.seed, 0⟩ :: osl T.s_int 1 p fs.length pc (slots rs fs) :: star (rowsP T.int 1 (fun x : Int => [vI x]) rs fs) :: blk b14 o.vs T.opts_Options :: blk b3 [vI (k : Int), vS p j pc] T.api_Formula :: osl T.bool 1 a k k (bs.map vB) :: L) w15 := Holds.ord 6 [2, 0, 1, 3, 4, 5] rfl H
      have hsz : fsize fs ≤ 600 := Nat.le_trans (fsize_le (fun c hc => (hsat c hc).2.2)) (by omega)
      refine Calls.ret (k_SNew (n := k) (o := o) (fl := j) (hs := rs) (cs := fs) H hG0 (by show (0 : Int) ≤ 4000000000000000000; decide) (by omega) (by omega) hrs (fun c hc => by have := (hsat c hc).2.2; omega) (fun c hc => (hsat c hc).2.1) (by omega) (fun w' H => fsrc_ls H 0 1 rfl rfl rfl)) ?_
      rintro _ w16 ⟨s, rfl, H⟩
      obtain ⟨m1, m2, m3, m4, m5⟩ := new_nw (o := o) (n := k) (by omega) (fun c hc => (hsat c hc).2.1) (⟨[], rgSeed o.seed, 0⟩ : Rg)
      have hst := m4 (by omega)
      generalize Se.new o k fs ⟨[], rgSeed o.seed, 0⟩ = Z at *
      refine ⟨_, rfl, gif_f rfl ?_⟩
      have H : Holds (SeR s Z :: osl T.bool 1 a k k (bs.map vB) :: L) w16 := Holds.ord 7 [0, 6] rfl H
      refine Calls.ret (k_SImport H m1.ad.ok.sm hbl (by omega) (fun w' H => bsrc_osl H 0 hbl rfl)) ?_
      rintro _ w17 ⟨rfl, H⟩
      have hvars := m1.vars
      have hzl := m1.ad.hn
      rw [hvars, decide_eq_true hbl]
      obtain ⟨i1, i2, i3⟩ := import_nw m1 bs
      have e1 : (Z.import bs).S = impGo 0 bs Z.S := by unfold Se.import; rw [if_pos (by omega)]
      have hph : ∀ v : Int, 1 ≤ v → v ≤ (k : Int) → (Z.import bs).S.phase v = asgn bs v := by
        intro v hv1 hv2
        rw [e1, impGo_phase bs 0 Z.S m1.ad.ok m1.l (by omega) _ hv1, if_pos ⟨by omega, by omega⟩]
        unfold asgn
        rw [show (v - ((0 : Nat) : Int) - 1).toNat = (v - 1).toNat by omega]
      have hsatZ : ∀ r, (Z.import bs).A.has r = true → ∃ l ∈ (Z.import bs).A.lits r, lt (asgn bs) l := by
        intro r hr
        rw [i2] at hr ⊢
        obtain ⟨c, hc, hp⟩ := m2 r hr
        obtain ⟨d, hd, rfl⟩ := normF_mem hc
        obtain ⟨⟨x, hx1, hx2⟩, hdr, _⟩ := hsat d hd
        have hz : ∀ x ∈ d, x ≠ 0 := fun x hx => (right_iff.1 (hdr x hx)).1
        exact ⟨x, hp.mem_iff.2 (((normC_srt hz).2 x).2 hx1), litB_lt hx2⟩
      have cm := nw_cm i1 (by rw [i2]; omega) (by rw [i3]; exact hst) hgood hph hsatZ
      refine ⟨_, rfl, gif_f rfl (Calls.ret (k_runC H (by omega) (by rw [i2]; omega) cm i1.c.2.2.2.2.2.1) ?_)⟩
      rintro _ w18 ⟨rfl, Z2, hz2, H⟩
      refine ⟨_, rfl, gif_f rfl (Calls.ret (k_SConflicts H) ?_)⟩
      rintro _ w19 ⟨rfl, H⟩
      refine ⟨_, rfl, gif_f (by rw [hz2.c.1]; rfl) (Calls.ret (k_SRestarts H) ?_)⟩
      rintro _ w20 ⟨rfl, H⟩
      refine ⟨_, rfl, ?_⟩
      rw [hz2.c.2.2.1]
      refine imports_k2 (bs := bs) H hz2 (by omega) rfl hbl (fun i hi => ?_) (fun w' H => bsrc_osl H 0 hbl rfl) (fun w' H => H.tail)
      rw [hz2.m i hi]
      unfold asgn
      rw [show ((i : Int) + 1 - 1).toNat = i by omega, List.getElem?_eq_getElem (by omega)]; rfl
end Go.Sv
/- From a statement's arguments to what the contracts ask; and back. -/
namespace Go.Sv
open Go Go.ChangeShapes Go.WideShapes Go.RowKit

section
variable {H : Type} {enc : TypeId × Value → H} {P : Program} {W : World}
theorem w_len {t e : TypeId} {elems spare : List (DataW H)} (ht : P.underlying t = some (.slice e)) (hb : 1 ≤ P.bytesOf e) (hw : ∀ n ∈ (DataW.slice elems spare).weights P t, n ≤ reachBytes) {l : Nat} (hl : l ≤ elems.length) : l ≤ reachBytes := by
  have h1 := hw ((elems.length + spare.length) * P.bytesOf e) (by simp only [DataW.weights, ht]; exact List.mem_cons_self ..)
  have h2 : (elems.length + spare.length) * 1 ≤ (elems.length + spare.length) * P.bytesOf e := Nat.mul_le_mul_left _ hb
  omega
theorem w_all {e : TypeId} : ∀ {l : List (DataW H)} {d : DataW H}, d ∈ l → ∀ n ∈ d.weights P e, n ∈ DataW.weightsAll P e l
  | x :: l, d, hd, n, hn => by
    simp only [DataW.weightsAll, List.mem_append]
    rcases List.mem_cons.1 hd with e | e
    · subst e; exact .inl hn
    · exact .inr (w_all e n hn)
theorem rd_ints {t e : TypeId} {k : IntKind} {fuel : Nat} {cs : List Value} {x : DataW H × List MemPlace} (ht : P.underlying t = some (.slice e)) (he : P.underlying e = some (.int k)) (hc : P.cellsOf e = 1)
    (h : DataW.trod enc P W 0 (fun _ => true) true fuel t cs = some x) :
    ∃ (a : Option Addr) (l c : Nat) (zs : List Int), cs = [.slice a l c] ∧ (1 ≤ P.bytesOf e → (∀ n ∈ x.1.weights P t, n ≤ reachBytes) → l ≤ reachBytes) ∧ zs.length = l ∧ (∀ n ∈ zs, (Lit.int k n).wf = true) ∧ (0 < l → ∃ b o, a = aP b o) ∧ (∀ b o, a = aP b o → ∀ (i : Nat) z, zs[i]? = some z → W.cell? ⟨b, o + i, none⟩ = some (.int k z)) := by
  rcases open_ints ht he hc h with ⟨rfl, rfl⟩ | ⟨a, len, cap, zs, rfl, _, hl, hm, hz, rfl, hcell, hwz⟩
  · exact ⟨none, 0, 0, [], rfl, fun _ _ => Nat.zero_le _, rfl, fun n hn => (by cases hn), fun h => by omega, fun b o e => by cases e⟩
  · simp only [if_true] at hz
    refine ⟨some a, len, cap, zs.take len, rfl, fun hb hw => w_len ht hb hw (by simp only [lits, List.length_map, List.length_take]; omega), by rw [List.length_take]; omega, fun n hn => hwz n (List.mem_of_mem_take hn), fun hp => ?_, fun b o e i z hi => ?_⟩
    · have h0 := hcell 0 (by omega)
      have hs : a.spot = none := by simpa [Addr.add] using World.cell?_spot h0
      exact ⟨a.block, a.off, by cases a; simp at hs; subst hs; rfl⟩
    · have hil := (List.getElem?_eq_some_iff.1 hi).1
      rw [List.length_take] at hil
      have h1 := hcell i (by omega)
      have e' : a = ⟨b, o, none⟩ := Option.some.inj e
      subst e'
      rw [List.getElem?_take_of_lt (by omega)] at hi
      have hd : zs.getD i 0 = z := by rw [List.getD_eq_getElem?_getD, hi]; rfl
      rw [hd, Addr.add_lit] at h1
      exact h1
theorem rd_bools {t e : TypeId} {fuel : Nat} {cs : List Value} {x : DataW H × List MemPlace} (ht : P.underlying t = some (.slice e)) (he : P.underlying e = some .bool) (hc : P.cellsOf e = 1)
    (h : DataW.trod enc P W 0 (fun _ => true) true fuel t cs = some x) :
    ∃ (a : Option Addr) (l c : Nat) (bs : List Bool), cs = [.slice a l c] ∧ bs.length = l ∧ (0 < l → ∃ b o, a = aP b o) ∧ (∀ b o, a = aP b o → ∀ (i : Nat) z, bs[i]? = some z → W.cell? ⟨b, o + i, none⟩ = some (.bool z)) := by
  rcases Go.Deep.open_bools ht he hc h with ⟨rfl, rfl⟩ | ⟨a, len, cap, B, rfl, _, hl, hm, _, hcell⟩
  · exact ⟨none, 0, 0, [], rfl, rfl, fun h => by omega, fun b o e => by cases e⟩
  · refine ⟨some a, len, cap, (List.range len).map B, rfl, by simp, fun hp => ?_, fun b o e i z hi => ?_⟩
    · have h0 := hcell 0 (by omega)
      have hs : a.spot = none := by simpa [Addr.add] using World.cell?_spot h0
      exact ⟨a.block, a.off, by cases a; simp at hs; subst hs; rfl⟩
    · have hil := (List.getElem?_eq_some_iff.1 hi).1
      simp at hil
      have h1 := hcell i (by omega)
      have e' : a = ⟨b, o, none⟩ := Option.some.inj e
      subst e'
      rw [List.getElem?_map, List.getElem?_range hil] at hi
      have hd : B i = z := by simpa using hi
      rw [hd, Addr.add_lit] at h1
      exact h1
/-- An array of numbers. -/
theorem rd_array {n : Nat} {t e : TypeId} {k : IntKind} {base : Nat} {v : Value} {d : DataW H} {p : List MemPlace} (ht : P.underlying t = some (.array n e)) (he : P.underlying e = some (.int k)) (hc : P.cellsOf e = 1) (hn : P.cellsOf t = n)
    (hval : Value.okWide P W .any base t v) (h : DataW.Trod enc P W 0 (fun _ => true) true t v d p) : ∃ zs : List Int, v = .agg (zs.map (Value.int k)).toArray ∧ zs.length = n ∧ ∀ z ∈ zs, (Lit.int k z).wf = true := by
  unfold Value.okWide at hval
  rw [ht] at hval
  obtain ⟨cs, rfl, hcs, _⟩ := hval
  obtain ⟨fuel, h⟩ := h
  obtain ⟨xs, m, _, _, hl, hxl, hx⟩ := DataW.trod_array ht h
  have hl : cs.toList.length = n := by simpa [hn] using hcs
  have key : ∀ (i : Nat) (hi : i < cs.toList.length), ∃ z, cs.toList[i] = .int k z ∧ (Lit.int k z).wf = true := by
    intro i hi
    have h1 := hx i (by omega)
    rw [hc, Nat.mul_one, List.getElem?_eq_getElem (by omega)] at h1
    have e1 : ((Value.agg cs).cells.toList.drop i).take 1 = [cs.toList[i]] := by
      show (cs.toList.drop i).take 1 = _
      rw [List.drop_eq_getElem_cons hi]; rfl
    rw [e1] at h1
    obtain ⟨z, hz, _, hw⟩ := DataW.trod_int he h1
    exact ⟨z, by simpa using hz, hw⟩
  refine ⟨cs.toList.map fun v => match v with | .int _ z => z | _ => 0, ?_, by simpa using hl, fun z hz => ?_⟩
  · congr 1
    apply Array.toList_inj.1
    simp only [List.map_map]
    apply List.ext_getElem
    · simp
    · intro i h1 h2
      obtain ⟨z, hz, _⟩ := key i h1
      simp only [List.getElem_map, Function.comp]
      rw [hz]
  · obtain ⟨v, hv, rfl⟩ := List.mem_map.1 hz
    obtain ⟨i, hi, e⟩ := List.getElem_of_mem hv
    obtain ⟨z, hz, hw⟩ := key i hi
    rw [← e, hz]
    exact hw
theorem rd_arr1 {base n : Nat} {t e : TypeId} {v : Value} {d : DataW H} {p : List MemPlace} (ht : P.underlying t = some (.array n e)) (hc : P.cellsOf e = 1) (hn : P.cellsOf t = n)
    (hval : Value.okWide P W .any base t v) (h : DataW.Trod enc P W 0 (fun _ => true) true t v d p) : ∃ cs : List Value, v = .agg cs.toArray ∧ cs.length = n ∧ ∀ (i : Nat) c, cs[i]? = some c → ∃ m x, DataW.trod enc P W 0 (fun _ => true) true m e [c] = some x := by
  unfold Value.okWide at hval
  rw [ht] at hval
  obtain ⟨cs, rfl, hcs, _⟩ := hval
  obtain ⟨fuel, h⟩ := h
  obtain ⟨xs, m, _, _, hl, hxl, hx⟩ := DataW.trod_array ht h
  have hl : cs.toList.length = n := by simpa [hn] using hcs
  refine ⟨cs.toList, rfl, hl, fun i c hi => ?_⟩
  have hi' := (List.getElem?_eq_some_iff.1 hi).1
  have h1 := hx i (by omega)
  rw [hc, Nat.mul_one, List.getElem?_eq_getElem (by omega)] at h1
  have e1 : ((Value.agg cs).cells.toList.drop i).take 1 = [c] := by
    show (cs.toList.drop i).take 1 = _
    rw [List.drop_eq_getElem_cons hi', (List.getElem?_eq_some_iff.1 hi).2]; rfl
  rw [e1] at h1
  exact ⟨_, _, h1⟩
/-- Rows of numbers. -/
theorem rd_rows {t e e2 : TypeId} {k : IntKind} {fuel : Nat} {cs : List Value} {x : DataW H × List MemPlace} (ht : P.underlying t = some (.slice e)) (hc : P.cellsOf e = 1) (he : P.underlying e = some (.slice e2)) (he2 : P.underlying e2 = some (.int k)) (hc2 : P.cellsOf e2 = 1)
    (h : DataW.trod enc P W 0 (fun _ => true) true fuel t cs = some x) :
    ∃ (a : Option Addr) (l c : Nat) (hs : List (Option Addr × Nat)) (rows : List (List Int)), cs = [.slice a l c] ∧ (1 ≤ P.bytesOf e → 1 ≤ P.bytesOf e2 → (∀ n ∈ x.1.weights P t, n ≤ reachBytes) → l ≤ reachBytes ∧ ∀ xs ∈ rows, xs.length ≤ reachBytes) ∧ rows.length = l ∧ hs.length = rows.length ∧ (0 < l → ∃ b o, a = aP b o) ∧ (∀ xs ∈ rows, ∀ z ∈ xs, (Lit.int k z).wf = true) ∧
      (∀ (i : Nat) h xs, hs[i]? = some h → rows[i]? = some xs → (∀ b o, a = aP b o → W.cell? ⟨b, o + i, none⟩ = some (.slice h.1 xs.length h.2)) ∧ (0 < xs.length → ∃ b o, h.1 = aP b o) ∧ (∀ b o, h.1 = aP b o → ∀ (j : Nat) z, xs[j]? = some z → W.cell? ⟨b, o + j, none⟩ = some (.int k z))) := by
  rcases Go.Deep.open_slice1 ht hc h with ⟨rfl, rfl⟩ | ⟨a, len, cap, m, n, V, D, Pl, rfl, _, hl, hm, hmm, rfl, hx⟩
  · exact ⟨none, 0, 0, [], [], rfl, fun _ _ _ => ⟨Nat.zero_le _, fun xs hx => (by cases hx)⟩, rfl, rfl, fun h => by omega, fun xs hx => (by cases hx), fun i h xs h1 => by simp at h1⟩
  · simp only [if_true] at hmm
    rw [hmm] at hx
    have key : ∀ i : Nat, ∃ f : (Option Addr × Nat) × List Int, i < len → V i = .slice f.1.1 f.2.length f.1.2 ∧ (1 ≤ P.bytesOf e2 → (∀ n ∈ (D i).weights P e, n ≤ reachBytes) → f.2.length ≤ reachBytes) ∧ (∀ z ∈ f.2, (Lit.int k z).wf = true) ∧ (0 < f.2.length → ∃ b o, f.1.1 = aP b o) ∧ (∀ b o, f.1.1 = aP b o → ∀ (j : Nat) z, f.2[j]? = some z → W.cell? ⟨b, o + j, none⟩ = some (.int k z)) := by
      intro i
      by_cases hi : i < len
      · obtain ⟨a1, l1, c1, zs, h1, h2, h3, h4, h5, h6⟩ := rd_ints he he2 hc2 (hx i (by omega)).2
        refine ⟨((a1, c1), zs), fun _ => ⟨?_, fun hb hw => by simp only; rw [h3]; exact h2 hb hw, h4, by simp only; rw [h3]; exact h5, h6⟩⟩
        simp only [List.cons.injEq, and_true] at h1
        rw [h1, h3]
      · exact ⟨((none, 0), []), fun h => absurd h hi⟩
    obtain ⟨f, hf⟩ := Classical.axiomOfChoice key
    refine ⟨some a, len, cap, (List.range len).map fun i => (f i).1, (List.range len).map fun i => (f i).2, rfl, fun hb hb2 hw => ⟨w_len ht hb hw (by simp), fun xs hxs => ?_⟩, by simp, by simp, fun hp => ?_, fun xs hxs => ?_, fun i h xs h1 h2 => ?_⟩
    · obtain ⟨i, hi, rfl⟩ := List.mem_map.1 hxs
      refine (hf i (List.mem_range.1 hi)).2.1 hb2 fun n hn => hw n ?_
      simp only [DataW.weights, ht]
      exact List.mem_cons_of_mem _ (List.mem_append_left _ (w_all (List.mem_map.2 ⟨i, hi, rfl⟩) n hn))
    · have h0 := (hx 0 (by omega)).1
      have hs : a.spot = none := by simpa [Addr.add] using World.cell?_spot h0
      exact ⟨a.block, a.off, by cases a; simp at hs; subst hs; rfl⟩
    · obtain ⟨i, hi, rfl⟩ := List.mem_map.1 hxs
      exact (hf i (List.mem_range.1 hi)).2.2.1
    · have hi : i < len := by
        have := (List.getElem?_eq_some_iff.1 h1).1
        simpa using this
      rw [List.getElem?_map, List.getElem?_range hi] at h1 h2
      have e1 : (f i).1 = h := by simpa using h1
      have e2 : (f i).2 = xs := by simpa using h2
      obtain ⟨g1, g2, g3, g4, g5⟩ := hf i hi
      rw [e1, e2] at g1 g4 g5
      refine ⟨fun b o e => ?_, g4, g5⟩
      have e' : a = ⟨b, o, none⟩ := Option.some.inj e
      subst e'
      have hc0 := (hx i (by omega)).1
      rw [Addr.add_lit, g1] at hc0
      exact hc0
end
theorem cell_keep {L : List HPr} {W w' : World} (H : Holds L w') (i : Nat) (hi : L[i]? = some (ro (hpOf W))) {a : Addr} {v : Value} (h : W.cell? a = some v) : w'.cell? a = some v := by
  have hb := (H.same i hi).2
  unfold World.cell? at h ⊢
  cases ho : W.heap[a.block]? with
  | none => rw [ho] at h; cases h
  | some o => rw [ho] at h; rw [hb _ _ ho]; exact h
theorem kept_of {W W' : World} (h : Same W W') (hb : ∀ (b : Nat) (o : Obj), W.heap[b]? = some o → W'.heap[b]? = some o) (may : MemPlace → Prop) : W.keptBut W' may := by
  refine ⟨h.1, h.2.1, fun i hi => ?_⟩
  rw [hb i _ (Array.getElem?_eq_getElem hi), Array.getElem?_eq_getElem hi]
  cases W.heap[i] with
  | cells c t f => exact ⟨rfl, rfl, rfl, fun _ _ => rfl⟩
  | map es c => exact .inr ⟨rfl, rfl⟩
  | _ => rfl
theorem heap_lt {W W' : World} (hb : ∀ (b : Nat) (o : Obj), W.heap[b]? = some o → W'.heap[b]? = some o) {b : Nat} (h : b < W.heap.size) : W'.heap[b]? = W.heap[b]? := by
  rw [hb b _ (Array.getElem?_eq_getElem h), Array.getElem?_eq_getElem h]
theorem same_at {W W' : World} (hb : ∀ (b : Nat) (o : Obj), W.heap[b]? = some o → W'.heap[b]? = some o) {p : MemPlace} (hp : p.block < W.heap.size) : W.sameAt W' p := by
  cases p with
  | cell b off =>
    show W'.cell? _ = W.cell? _
    have e : W'.heap[b]? = W.heap[b]? := heap_lt hb hp
    unfold World.cell?
    rw [e]
  | map b => exact heap_lt hb hp
section
variable {H : Type} {enc : TypeId × Value → H} {P : Program}
theorem trodAll_stays (hl : laidOutB P = true) {W W' : World} (hb : ∀ (b : Nat) (o : Obj), W.heap[b]? = some o → W'.heap[b]? = some o) {sp : Nat → Bool} : ∀ {ts : List TypeId} {vs : List Value} {ds : List (DataW H)} {ps : List MemPlace},
    (∀ t ∈ ts, P.readableRec t = true ∧ t < P.types.size) → DataW.TrodAll enc P W 0 (fun _ => true) true ts vs ds ps → (∀ p ∈ ps, p.block < W.heap.size) → (∀ p ∈ ps, sp p.block = true) → DataW.TrodAll enc P W' 0 sp true ts vs ds ps
  | [], [], [], ps, _, h, _, _ => h
  | t :: ts, v :: vs, d :: ds, ps, ht, h, h1, h2 => by
    obtain ⟨p, q, hp, hq, rfl⟩ := h
    refine ⟨p, q, WideElems.Trod_stays hl (ht t (List.mem_cons_self ..)).1 (ht t (List.mem_cons_self ..)).2 hp (fun x hx => same_at hb (h1 x (List.mem_append_left _ hx))) (fun x hx => h2 x (List.mem_append_left _ hx)), ?_, rfl⟩
    exact trodAll_stays hl hb (fun t' ht' => ht t' (List.mem_cons_of_mem _ ht')) hq (fun x hx => h1 x (List.mem_append_right _ hx)) (fun x hx => h2 x (List.mem_append_right _ hx))
  | [], [], _ :: _, _, _, h, _, _ => h.elim
  | [], _ :: _, _, _, _, h, _, _ => h.elim
  | _ :: _, [], _, _, _, h, _, _ => h.elim
  | _ :: _, _ :: _, [], _, _, h, _, _ => h.elim
end
/-- What is read may be appended. -/
theorem asrc_read {C : Ctx} {t e by' : Nat} {z : List Value} (S : SlT C t e 1 by' z) {w : World} {a : Option Addr} {l c : Nat} {vs : List Value} (hl : vs.length = l) (h1 : ∀ v ∈ vs, isOne v = true) (hp : 0 < l → ∃ b o, a = aP b o)
    (hc : ∀ b o, a = aP b o → ∀ (i : Nat) v, vs[i]? = some v → w.cell? ⟨b, o + i, none⟩ = some v) : ASrc C 1 t (vS a l c) l vs w := by
  by_cases h0 : 0 < l
  · obtain ⟨b, o, rfl⟩ := hp h0
    exact asrc_cels S (by omega) (by rw [List.all_eq_true]; exact h1) (fun k v hk => hc b o rfl k v hk)
  · have h0 : l = 0 := by omega
    subst h0
    have : vs = [] := List.eq_nil_of_length_eq_zero hl
    subst this
    cases a with
    | none => exact asrc_nil S
    | some a => exact Src.ofSlice w S.ht a 0 c [] rfl (fun j u hj => by simp at hj) (fun u hu => by cases hu)
end Go.Sv
