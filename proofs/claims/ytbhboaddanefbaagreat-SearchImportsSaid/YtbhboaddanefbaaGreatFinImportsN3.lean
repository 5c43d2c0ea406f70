/- Parts of a proof: KTrOk, KFell, KProp, KBack, VcScore, KScore, KPut, Mt19, KQueue, KQnew, KTicks, KOpts, KLuby, KDef, KLub2, KTrOk2, KTrOk3, KSearch, Mt21, KNext. -/
import Derived.Test.YtbhboaddanefbaaGreatFinImportsN2
import Derived.RangeFuncIn
import Derived.RangeFuncRecord
set_option linter.unusedVariables false
set_option linter.unusedSimpArgs false
/- Trails that are in order. Plain Lean, no program in sight. -/
namespace Go.Sv

structure Tr.Ok (S : Tr) : Prop where
  sm : S.Sm
  tr : ∀ x ∈ S.l, S.value x = 1
  nd : (S.l.map Int.natAbs).Nodup
  on : ∀ (i : Nat) c, S.vars[i]? = some c → c.value ≠ 0 → ∃ x ∈ S.l, x.natAbs = i + 1
  st : ∀ s ∈ S.starts, 0 ≤ s ∧ s < (S.l.length : Int)
  so : S.starts.Pairwise (· < ·)
theorem asc_len : ∀ (xs : List Int) (a b : Int), xs.Pairwise (· < ·) → (∀ x ∈ xs, a ≤ x ∧ x < b) → (xs.length : Int) ≤ max (b - a) 0
  | [], a, b, _, _ => by simp; omega
  | x :: xs, a, b, hp, h => by
    have h1 := h x (List.mem_cons_self ..)
    rw [List.pairwise_cons] at hp
    have ih := asc_len xs (x + 1) b hp.2 fun y hy => ⟨by have := hp.1 y hy; omega, (h y (List.mem_cons_of_mem _ hy)).2⟩
    rw [List.length_cons]
    omega
theorem Tr.Ok.sl {S : Tr} (h : S.Ok) : S.starts.length ≤ S.l.length := by
  have := asc_len S.starts 0 S.l.length h.so h.st
  omega

theorem pigeon : ∀ (n : Nat) (xs : List Nat), xs.Nodup → (∀ x ∈ xs, 1 ≤ x ∧ x ≤ n) → xs.length ≤ n
  | 0, xs, _, h => by
    cases xs with
    | nil => simp
    | cons x xs => have := h x (List.mem_cons_self ..); omega
  | n + 1, xs, hn, h => by
    have h1 := pigeon n (xs.filter (· ≠ n + 1)) (hn.filter _) (fun x hx => by
      simp only [List.mem_filter, decide_eq_true_eq] at hx
      have := h x hx.1; omega)
    have h2 : xs.length ≤ (xs.filter (· ≠ n + 1)).length + 1 := by
      clear h1 h
      induction xs with
      | nil => simp
      | cons x xs ih =>
        simp only [List.nodup_cons] at hn
        by_cases hx : x = n + 1
        · subst hx
          have e : xs.filter (· ≠ n + 1) = xs := List.filter_eq_self.2 fun y hy => by
            simp only [ne_eq, decide_not, Bool.not_eq_true', decide_eq_false_iff_not]
            intro e; subst e; exact hn.1 hy
          have e3 : ((n + 1) :: xs).filter (· ≠ n + 1) = xs := by rw [List.filter_cons_of_neg (by simp), e]
          rw [e3, List.length_cons]; exact Nat.le_refl _
        · have := ih hn.2
          rw [List.filter_cons_of_pos (by simpa using hx), List.length_cons, List.length_cons]; omega
    omega
theorem value_right {S : Tr} {x : Int} (h : S.value x ≠ 0) : right x S.vars.length = true := by
  rw [← Tr.at_right]
  unfold Tr.value at h
  cases hc : S.at x with
  | none => rw [hc] at h; simp at h
  | some c => rfl
theorem right_iff {x : Int} {n : Nat} : right x n = true ↔ x ≠ 0 ∧ x.natAbs ≤ n := by unfold right; simp
theorem Tr.Ok.len {S : Tr} (h : S.Ok) : S.l.length ≤ S.vars.length := by
  have := pigeon S.vars.length (S.l.map Int.natAbs) h.nd (fun x hx => by
    obtain ⟨y, hy, rfl⟩ := List.mem_map.1 hx
    have := right_iff.1 (value_right (S := S) (x := y) (by rw [h.tr y hy]; omega))
    omega)
  simpa using this
theorem at_neg (S : Tr) (x : Int) : S.at (-x) = S.at x := by
  unfold Tr.at
  by_cases h : x = 0
  · simp [h]
  · have : ¬ -x = 0 := by omega
    rw [if_neg h, if_neg this, show (-x).natAbs = x.natAbs by omega]
theorem value_neg (S : Tr) (x : Int) : S.value (-x) = - S.value x := by
  unfold Tr.value
  rw [at_neg]
  cases hc : S.at x with
  | none => rfl
  | some c =>
    have h0 := (at_some hc).1
    simp only
    by_cases h : x < 0
    · rw [if_neg (by omega), if_pos h]; omega
    · rw [if_pos (by omega), if_neg h]
def newCell (S : Tr) (l r : Int) : Cell := ⟨if l < 0 then -1 else 1, S.starts.length, r, S.l.length, decide (0 < l)⟩
theorem at_putC {S : Tr} {l r : Int} (hl : (S.at l).isSome = true) (x : Int) : (S.putC l r).at x = if x ≠ 0 ∧ x.natAbs = l.natAbs then some (newCell S l r) else S.at x := by
  obtain ⟨c, hc⟩ := Option.isSome_iff_exists.1 hl
  obtain ⟨h1, h2, h3, h4⟩ := at_some hc
  unfold Tr.at Tr.putC newCell
  simp only
  by_cases hx : x = 0
  · simp [hx]
  · simp only [hx, if_false, ne_eq, not_false_eq_true, true_and]
    rw [List.getElem?_set]
    by_cases he : x.natAbs = l.natAbs
    · rw [if_pos (by omega), if_pos (by omega), if_pos he]
    · rw [if_neg (by omega), if_neg he]
theorem free_some {S : Tr} {l : Int} (h : S.free l = true) : ∃ c, S.at l = some c ∧ c.value = 0 := by
  unfold Tr.free at h
  cases hc : S.at l with
  | none => rw [hc] at h; cases h
  | some c => rw [hc] at h; exact ⟨c, rfl, by simpa using h⟩
theorem free_value {S : Tr} {l : Int} (h : S.free l = true) : S.value l = 0 := by
  obtain ⟨c, hc, h0⟩ := free_some h
  unfold Tr.value; rw [hc]; simp [h0]
theorem value_putC {S : Tr} {l r : Int} (h : S.free l = true) (x : Int) : (S.putC l r).value x = if x = l then 1 else if x = -l then -1 else S.value x := by
  obtain ⟨c, hc, h0⟩ := free_some h
  have hl0 := (at_some hc).1
  unfold Tr.value
  rw [at_putC (by rw [hc]; rfl)]
  by_cases hx : x = l
  · subst hx
    simp only [ne_eq, hl0, not_false_eq_true, and_self, if_true]
    unfold newCell
    split <;> simp_all
  · by_cases hx2 : x = -l
    · subst hx2
      rw [if_pos ⟨by omega, by omega⟩, if_neg hx, if_pos rfl]
      unfold newCell
      simp only
      by_cases hl : l < 0
      · rw [if_neg (by omega), if_pos hl]
      · rw [if_pos (by omega), if_neg hl]
    · rw [if_neg (by rintro ⟨_, h2⟩; omega), if_neg hx, if_neg hx2]
theorem mem_put {S : Tr} {l r x : Int} (h : S.free l = true) : x ∈ (S.put l r).l ↔ x ∈ S.l ∨ x = l := by
  unfold Tr.put; rw [if_pos h]; simp [Tr.putC]
theorem Tr.Ok.mem_iff {S : Tr} (h : S.Ok) (x : Int) : x ∈ S.l ↔ S.value x = 1 := by
  refine ⟨h.tr x, fun hv => ?_⟩
  have hr := right_iff.1 (value_right (S := S) (x := x) (by omega))
  unfold Tr.value at hv
  cases hc : S.at x with
  | none => rw [hc] at hv; simp at hv
  | some c =>
    rw [hc] at hv
    simp only at hv
    obtain ⟨y, hy, he⟩ := h.on (x.natAbs - 1) c (at_some hc).2.1 (by intro e; rw [e] at hv; simp at hv)
    have : y = x ∨ y = -x := by omega
    rcases this with rfl | rfl
    · exact hy
    · have := h.tr _ hy
      rw [value_neg] at this
      unfold Tr.value at this
      rw [hc] at this
      simp only at this
      omega
theorem put_ok {S : Tr} (h : S.Ok) (l r : Int) : (S.put l r).Ok := by
  by_cases hf : S.free l = true
  · have hf' := hf
    obtain ⟨c, hc, h0⟩ := free_some hf
    obtain ⟨g1, g2, g3, g4⟩ := at_some hc
    have e : S.put l r = S.putC l r := by unfold Tr.put; rw [if_pos hf]
    have hnot : ∀ y ∈ S.l, y.natAbs ≠ l.natAbs := fun y hy he => by
      have := h.tr y hy
      have e2 : y = l ∨ y = -l := by omega
      rcases e2 with rfl | rfl
      · rw [free_value hf] at this; omega
      · rw [value_neg, free_value hf] at this; omega
    rw [e]
    refine ⟨?_, fun x hx => ?_, ?_, fun i d hd hv => ?_, fun s hs => ?_, h.so⟩
    · refine ⟨by unfold Tr.putC; simp only [List.length_set]; exact h.sm.n, fun c hc => ?_⟩
      unfold Tr.putC at hc
      rcases List.mem_or_eq_of_mem_set hc with hc | hc
      · exact h.sm.v c hc
      · subst hc
        by_cases hl : l < 0 <;> simp [hl]
    · rw [value_putC hf]
      have hx' : x ∈ S.l ∨ x = l := by simpa [Tr.putC] using hx
      rcases hx' with hx | hx
      · have := hnot x hx
        rw [if_neg (fun e => this (by rw [e])), if_neg (fun e => this (by rw [e]; omega))]
        exact h.tr x hx
      · rw [if_pos hx]
    · show ((S.l ++ [l]).map Int.natAbs).Nodup
      rw [List.map_append, List.nodup_append]
      refine ⟨h.nd, by simp, fun a ha b hb => ?_⟩
      obtain ⟨y, hy, rfl⟩ := List.mem_map.1 ha
      simp only [List.map_cons, List.map_nil, List.mem_singleton] at hb
      subst hb
      exact hnot y hy
    · have hd' : (S.vars.set (l.natAbs - 1) (newCell S l r))[i]? = some d := hd
      rw [List.getElem?_set] at hd'
      by_cases hi : l.natAbs - 1 = i
      · exact ⟨l, by simp [Tr.putC], by omega⟩
      · rw [if_neg hi] at hd'
        obtain ⟨x, hx, he⟩ := h.on i d hd' hv
        exact ⟨x, by simp [Tr.putC, hx], he⟩
    · have := h.st s hs
      refine ⟨this.1, ?_⟩
      show s < ((S.l ++ [l]).length : Int)
      rw [List.length_append]; simp; omega
  · unfold Tr.put; rw [if_neg hf]; exact h
theorem put_vars (S : Tr) (l r : Int) : (S.put l r).vars.length = S.vars.length := by
  unfold Tr.put; split <;> simp [Tr.putC]
/-- One trail goes on from another, on the same level. -/
structure Tr.Ext (S S' : Tr) : Prop where
  ok : S.Ok → S'.Ok
  vars : S'.vars.length = S.vars.length
  val : ∀ x, S.value x ≠ 0 → S'.value x = S.value x
  starts : S'.starts = S.starts
  pre : ∃ t, S'.l = S.l ++ t
theorem Tr.Ext.refl (S : Tr) : S.Ext S := ⟨id, rfl, fun _ _ => rfl, rfl, [], by simp⟩
theorem Tr.Ext.trans {S S' S'' : Tr} (h : S.Ext S') (k : S'.Ext S'') : S.Ext S'' :=
  ⟨fun o => k.ok (h.ok o), k.vars.trans h.vars, fun x hx => by rw [k.val x (by rw [h.val x hx]; exact hx), h.val x hx], k.starts.trans h.starts, by
    obtain ⟨a, ha⟩ := h.pre
    obtain ⟨b, hb⟩ := k.pre
    exact ⟨a ++ b, by rw [hb, ha, List.append_assoc]⟩⟩
theorem put_ext (S : Tr) (l r : Int) : S.Ext (S.put l r) := by
  refine ⟨fun h => put_ok h l r, put_vars S l r, fun x hx => ?_, ?_, ?_⟩
  · unfold Tr.put
    split
    · rename_i hf
      rw [value_putC hf, if_neg (fun e => hx (by rw [e, free_value hf])), if_neg (fun e => hx (by rw [e, value_neg, free_value hf]; rfl))]
    · rfl
  · unfold Tr.put; split <;> rfl
  · unfold Tr.put
    split
    · exact ⟨[l], rfl⟩
    · exact ⟨[], by simp⟩
end Go.Sv
/- A literal fell: its watches are looked through. Propagation. -/
namespace Go.Sv
open Go Go.Proofs
set_option maxRecDepth 100000

theorem unitS_ext (S : Tr) (l r : Int) : S.Ext (unitS S l r) := by
  unfold unitS; split
  · exact put_ext S l r
  · exact Tr.Ext.refl S
/-- What a visit keeps. -/
structure VKeep (W : Wt) (S : Tr) (A : Ar) (x : Wat) (V : VR) : Prop where
  S : S.Ext V.S
  A : A.Sw V.A
  len : V.W.lists.length = W.lists.length
  row : ∀ i, (V.W.row i).length ≤ (W.row i).length + (if V.out = 1 then 1 else 0)
  pend : V.W.pending = W.pending
  head : V.W.head = W.head
  vis : V.W.visits = W.visits + 1
  out : V.out = 0 ∨ V.out = 1 ∨ V.out = 2
  xr : V.x.ref = x.ref
theorem visit_keep (W : Wt) (S : Tr) (A : Ar) (x : Wat) (f : Int) : VKeep W S A x (visit W S A x f) := by
  have uo : ∀ l r, unitO S l r = 0 ∨ unitO S l r = 2 := fun l r => by unfold unitO; split <;> simp
  unfold visit
  split
  · split
    · exact ⟨Tr.Ext.refl S, Ar.Sw.refl A, rfl, fun i => Nat.le_add_right _ _, rfl, rfl, rfl, .inl rfl, rfl⟩
    · split
      · exact ⟨unitS_ext S _ _, Ar.Sw.refl A, rfl, fun i => Nat.le_add_right _ _, rfl, rfl, rfl, by rcases uo x.blocker x.ref with h | h <;> simp [h], rfl⟩
      · simp only
        split
        · exact ⟨Tr.Ext.refl S, swap01_sw A _ _, rfl, fun i => Nat.le_add_right _ _, rfl, rfl, rfl, .inl rfl, rfl⟩
        · split
          · refine ⟨Tr.Ext.refl S, (swap01_sw A _ _).trans (swap_sw _ _ _ _), by rw [add_len], fun i => ?_, rfl, rfl, rfl, .inr (.inl rfl), rfl⟩
            simp only [if_true]
            rw [row_add]
            split
            · rw [List.length_append]; exact Nat.le_refl _
            · exact Nat.le_add_right _ _
          · exact ⟨unitS_ext S _ _, swap01_sw A _ _, rfl, fun i => Nat.le_add_right _ _, rfl, rfl, rfl, by rcases uo ((swap01 A x.ref f).lit x.ref 0) x.ref with h | h <;> simp [h], rfl⟩
  · exact ⟨Tr.Ext.refl S, Ar.Sw.refl A, rfl, fun i => Nat.le_add_right _ _, rfl, rfl, rfl, .inr (.inl rfl), rfl⟩

structure FR where
  clash : Option Int
  W : Wt
  S : Tr
  A : Ar
  row : List Wat
def fellGo (f : Int) : List Wat → List Wat → Wt → Tr → Ar → FR
  | [], kept, W, S, A => ⟨none, W, S, A, kept⟩
  | x :: xs, kept, W, S, A =>
    let v := visit W S A x f
    if v.out = 0 then fellGo f xs (kept ++ [v.x]) v.W v.S v.A
    else if v.out = 2 then ⟨some v.x.ref, v.W, v.S, v.A, kept ++ v.x :: xs⟩
    else fellGo f xs kept v.W v.S v.A
def fell (W : Wt) (S : Tr) (A : Ar) (f : Int) : FR :=
  let R := fellGo f (W.row (litIx f).toNat) [] W S A
  { R with W := { R.W with lists := R.W.lists.set (litIx f).toNat R.row } }

theorem copy_osl {C : Ctx} {t e sz by' : Nat} {z : List Value} (S : SlT C t e sz by' z) {ty : Nat} {L : List HPr} {w : World} (H : Holds L w) (i : Nat) {b o l c n k cd cs : Nat} {vs : List Value} {K : Value → World → Prop}
    (hi : L[i]? = some (osl e sz (aP b o) l c vs)) (hn : n ≤ k) (hk : k ≤ l)
    (h : ∀ w1, Holds (L.set i (osl e sz (aP b o) l c (setL vs (n * sz) (vs.drop (k * sz))))) w1 → K (vI ((l - k : Nat) : Int)) w1) :
    Rn C.P (Builtin.copy_ #[t, t] ty #[vS (aP b (o + n * sz)) (l - n) cd, vS (aP b (o + k * sz)) (l - k) cs]) w K := by
  obtain ⟨inf, zv, k1, k2, k3, k4, k5⟩ := S.ex
  have hlen := osl_len H i hi
  have hone := osl_one H i hi
  have hks : k * sz ≤ vs.length := by rw [hlen]; exact Nat.mul_le_mul_right _ hk
  have hns : n * sz ≤ k * sz := Nat.mul_le_mul_right _ hn
  have hmin : Nat.min (l - k) (l - n) = l - k := Nat.min_eq_left (by omega)
  have hdl : (vs.drop (k * sz)).length = (l - k) * inf.size := by rw [List.length_drop, hlen, k2, Nat.sub_mul]
  have hf := run_firstCells_some (P := C.P) w inf.size (l - k) ⟨b, o + k * sz, none⟩ (l - k) cs (vs.drop (k * sz)) hdl (fun j v hj => by
    rw [Addr.add_lit, Nat.add_assoc]
    exact oc H i hi (by rw [← List.getElem?_drop]; exact hj))
  have hst := ost (K := fun w1 => Holds (L.set i (osl e sz (aP b o) l c (setL vs (n * sz) (vs.drop (k * sz))))) w1) (k := n * sz) (us := vs.drop (k * sz)) H i hi (by
    simp only [List.all_eq_true] at hone ⊢
    intro x hx; exact hone x (List.mem_of_mem_drop hx)) (by rw [List.length_drop]; omega) (fun w1 H => H)
  have hall : ∀ v ∈ vs.drop (k * sz), v.oneCell' = true := fun v hv => by
    rw [isOne_eq]; exact List.all_eq_true.1 hone v (List.mem_of_mem_drop hv)
  have wr : ∀ (us : List Value) (p : Nat), Wr w b p us → ∀ j, j < us.length → (w.cell? ⟨b, p + 0 + j, none⟩).isSome = true ∧ w.frozen? ⟨b, p + 0 + j, none⟩ = false := by
    intro us
    induction us with
    | nil => intro p _ j hj; simp at hj
    | cons u us ih =>
      intro p hw j hj
      cases j with
      | zero => obtain ⟨⟨_, ⟨y, hy⟩, hz⟩, _⟩ := hw; exact ⟨by show (w.cell? ⟨b, p, none⟩).isSome = true; rw [hy]; rfl, hz⟩
      | succ j =>
        have := ih (p + 1) hw.2 j (by simpa using hj)
        rw [show p + 0 + (j + 1) = p + 1 + 0 + j by omega]
        exact this
  have hrun := run_storeCells_cells (P := C.P) b (o + n * sz) (vs.drop (k * sz)) 0 w (fun j hj => (wr _ _ hst.1 j hj).1) (fun j hj => (wr _ _ hst.1 j hj).2) hall
  rw [Nat.add_zero] at hrun
  refine ⟨vI ((l - k : Nat) : Int), w.setCells b (o + n * sz) (vs.drop (k * sz)), ?_, h _ (hst.2 _ (setCs_eq _ _ _ _))⟩
  simp [Builtin.copy_, run_underlying S.ht, Builtin.lenOf, hmin, sizeOf, typeInfo, k1, hf, hrun, goInt]

theorem flat_copy {α : Type} {f : α → List Value} {sz : Nat} (hf : ∀ x, (f x).length = sz) (ps : List α) (n k : Nat) (hn : n ≤ k) (hk : k ≤ ps.length) :
    setL (ps.flatMap f) (n * sz) ((ps.flatMap f).drop (k * sz)) = (ps.take n ++ ps.drop k ++ ps.drop (n + (ps.length - k))).flatMap f := by
  have fl : ∀ xs : List α, (xs.flatMap f).length = xs.length * sz := fun xs => flat_len xs fun x _ => hf x
  have e1 : (ps.flatMap f).drop (k * sz) = (ps.drop k).flatMap f := by
    have h0 : ps.flatMap f = (ps.take k).flatMap f ++ (ps.drop k).flatMap f := by rw [← List.flatMap_append, List.take_append_drop]
    rw [h0, List.drop_append, fl, List.length_take, Nat.min_eq_left hk, Nat.sub_self, List.drop_of_length_le (by rw [fl, List.length_take, Nat.min_eq_left hk]; exact Nat.le_refl _)]
    simp
  have e2 : ps = ps.take n ++ (ps.drop n).take (ps.length - k) ++ ps.drop (n + (ps.length - k)) := by
    rw [List.append_assoc, ← List.drop_drop, List.take_append_drop, List.take_append_drop]
  have e3 : ((ps.drop n).take (ps.length - k)).length = ps.length - k := by rw [List.length_take, List.length_drop]; omega
  have e4 : (ps.take n).length = n := by rw [List.length_take]; omega
  have h5 : ps.flatMap f = (ps.take n).flatMap f ++ ((ps.drop n).take (ps.length - k)).flatMap f ++ (ps.drop (n + (ps.length - k))).flatMap f := by
    rw [← List.flatMap_append, ← List.flatMap_append, ← e2]
  rw [e1, h5]
  have h6 : n * sz = ((ps.take n).flatMap f).length := by rw [fl, e4]
  rw [h6, setL_at _ _ _ _ (by rw [fl, fl, e3, List.length_drop])]
  simp [List.flatMap_append]

theorem fell_shut {L : List HPr} {w : World} {wx a t at_ : Nat} {W1 : Wt} {al : Option Addr} {cl : Nat} {hs : List (Option Addr × Nat)} {pa : Option Addr} {pc : Nat} {p : Option Addr} {c : Nat} {kept : List Wat} (hl : hs.length = W1.lists.length) (hlt : at_ < W1.lists.length)
    (H : Holds (wbk wx a t (vS al W1.lists.length cl) (vS pa W1.pending.length pc) (vI W1.head) (vI W1.visits) :: osl T.s_watch_watch 1 al W1.lists.length cl (setL (slots hs W1.lists) at_ [vS p kept.length c]) :: star ((rowsP T.watch_watch 3 Wat.vs hs W1.lists).set at_ emp) ::
      osl T.int 1 pa W1.pending.length pc (W1.pending.map vI) :: osl T.watch_watch 3 p kept.length c (kept.flatMap Wat.vs) :: L) w) : Holds (WtR wx a t { W1 with lists := W1.lists.set at_ kept } W1.lists.length :: L) w := by
  have H := (H.pick 2 rfl).pick 4 rfl
  have hg : ((rowsP T.watch_watch 3 Wat.vs hs W1.lists).set at_ emp)[at_]? = some emp := by rw [List.getElem?_set, if_pos rfl, if_pos (by rw [rowsP_len hl]; exact hlt)]
  have H := star_put at_ hg H
  rw [List.set_set] at H
  have e1 := rowsP_set T.watch_watch 3 Wat.vs hs W1.lists at_ (p, c) kept
  simp only at e1
  rw [e1] at H
  have e2 := slots_set hs W1.lists at_ (p, c) kept
  simp only at e2
  have H := (H.pick 2 rfl).pick 2 rfl
  refine WtR.sh (al := al) (cl := cl) (hs := hs.set at_ (p, c)) (pa := pa) (pc := pc) (by simp [hl]) (H.cast ?_)
  have e3 : (rowsP T.watch_watch 3 Wat.vs (hs.set at_ (p, c)) (W1.lists.set at_ kept)).set W1.lists.length emp = rowsP T.watch_watch 3 Wat.vs (hs.set at_ (p, c)) (W1.lists.set at_ kept) :=
    List.set_eq_of_length_le (by rw [rowsP_len (by simp [hl])]; simp)
  simp [wtL, e2, e3]
theorem k_fell {L : List HPr} {w : World} {wx a t : Nat} {W : Wt} {S : Tr} {A : Ar} (H : Holds (WtR wx a t W W.lists.length :: ArR a A :: TrR t S :: L) w) (hok : S.Ok) (ha : A.Sm) (f : Int) (hf : S.value f < 0) (hn : W.lists.length = 2 * S.vars.length)
    (hr : ∀ r, ∀ l ∈ A.lits r, right l S.vars.length = true) (hrow : ∀ i, (W.row i).length + (W.row (litIx f).toNat).length ≤ 1000000000) (hv0 : 0 ≤ W.visits) (hv : W.visits + (W.row (litIx f).toNat).length ≤ 4611686018427387904) :
    Calls cx.P F.watch_Watcher_fell #[vP wx 0, vI f] w (Ret fun v w' => v = (match (fell W S A f).clash with | some r => .tuple #[vI r, vB false] | none => .tuple #[vI 0, vB true]) ∧
      Holds (WtR wx a t (fell W S A f).W W.lists.length :: ArR a (fell W S A f).A :: TrR t (fell W S A f).S :: L) w') := by
  apply vc_watch_Watcher_fell
  have hf0 := value_right (S := S) (x := f) (by omega)
  obtain ⟨q1, q2, q3, q4⟩ := right_ix hf0
  have hnv := hok.sm.n
  obtain ⟨al, cl, hs, pa, pc, hl', H⟩ := WtR.op H
  refine Calls.ret (k_Index H (by omega)) ?_
  rintro _ w1 ⟨rfl, H⟩
  refine ⟨_, rfl, _, _, _, cel H 0 rfl rfl, ⟨q1, by omega⟩, opm H 1 rfl (by omega) fun b1 o1 e1 => ?_⟩
  subst e1
  generalize hat : (litIx f).toNat = at_ at *
  obtain ⟨row, hrw⟩ := lt_get (l := W.lists) (i := at_) (by omega)
  obtain ⟨h, hh⟩ := lt_get (l := hs) (i := at_) (by omega)
  have erow : W.row at_ = row := by unfold Wt.row; rw [hrw]; rfl
  rw [erow] at hrow hv
  refine ⟨h.1, row.length, h.2, oc H 1 rfl (slots_get hh hrw), ?_⟩
  have hemp : (rowsP T.watch_watch 3 Wat.vs hs W.lists).set W.lists.length emp = rowsP T.watch_watch 3 Wat.vs hs W.lists := List.set_eq_of_length_le (by rw [rowsP_len hl']; exact Nat.le_refl _)
  have H := star_take at_ (by rw [hemp]; exact rowsP_get hh hrw) (H.pick 2 rfl)
  have H := (((H.pick 1 rfl).pick 3 rfl).pick 3 rfl).pick 3 rfl
  rw [hemp] at H
  have H : Holds (osl T.watch_watch 3 h.1 row.length h.2 (row.flatMap Wat.vs) :: WtR wx a t W at_ :: ArR a A :: TrR t S :: L) w1 :=
    part_shut1 (Ls := wtL wx a t W at_ (aP b1 o1) cl hs pa pc) (fun _ h => ⟨aP b1 o1, cl, hs, pa, pc, hl', h⟩) H
  have efell : fell W S A f = { fellGo f row [] W S A with W := { (fellGo f row [] W S A).W with lists := (fellGo f row [] W S A).W.lists.set at_ (fellGo f row [] W S A).row } } := by
    unfold fell; rw [hat, erow]
  rw [efell]
  generalize hR : fellGo f row [] W S A = R at *
  refine ⟨fun vs w => ∃ (n i : Nat) (ps : List Wat) (W1 : Wt) (S1 : Tr) (A1 : Ar), vs = [vI n, vI i] ∧ n ≤ i ∧ i ≤ row.length ∧ ps.length = row.length ∧ ps.drop i = row.drop i ∧ fellGo f (row.drop i) (ps.take n) W1 S1 A1 = R ∧
      S.Ext S1 ∧ A.Sw A1 ∧ W1.lists.length = W.lists.length ∧ (∀ j, (W1.row j).length + (row.length - i) ≤ 1000000000) ∧ W1.visits = W.visits + i ∧
      Holds (osl T.watch_watch 3 h.1 row.length h.2 (ps.flatMap Wat.vs) :: WtR wx a t W1 at_ :: ArR a A1 :: TrR t S1 :: L) w,
    fun vs _ => (match vs with | [_, .int _ i] => (row.length : Int) - i | _ => 0).toNat,
    ⟨0, 0, row, W, S, A, rfl, Nat.le_refl _, Nat.zero_le _, rfl, rfl, by simpa using hR, Tr.Ext.refl S, Ar.Sw.refl A, rfl, fun j => by have := hrow j; omega, by simp, H⟩, ?_⟩
  rintro _ _ w2 ⟨n, i, ps, W1, S1, A1, hvs, hni, hil, hps, hdr, hgo, hext, hsw, hWl, hrows, hvis, H⟩
  simp only [List.cons.injEq, Value.int.injEq, true_and, and_true] at hvs
  obtain ⟨rfl, rfl⟩ := hvs
  have ok1 := hext.ok hok
  have hr1 : ∀ r, ∀ l ∈ A1.lits r, right l S1.vars.length = true := fun r l hl => by rw [hext.vars]; exact hr r l ((hsw.perm r).mem_iff.1 hl)
  refine gif_i (fun hlt => ?_) (fun hge => ?_)
  · have hlt' : i < row.length := by have := of_decide_eq_true hlt; omega
    obtain ⟨x, hx⟩ := lt_get hlt'
    have hdx : row.drop i = x :: row.drop (i + 1) := by
      rw [List.drop_eq_getElem_cons hlt', (List.getElem?_eq_some_iff.1 hx).2]
    have hpx : ps[i]? = some x := by
      have e : (ps.drop i)[0]? = (row.drop i)[0]? := by rw [hdr]
      rw [List.getElem?_drop, List.getElem?_drop, Nat.add_zero] at e
      rw [e, hx]
    obtain ⟨b2, o2, e2⟩ := osl_ptr H 0 rfl (by omega)
    rw [e2] at H ⊢
    have hf1 : S1.value f < 0 := by rw [hext.val f (by omega)]; exact hf
    refine ⟨⟨by omega, by omega⟩, pm_i ?_⟩
    rw [Int.toNat_natCast]
    refine Calls.ret (k_visit H hpx ok1.sm (by have := ok1.len; have := hext.vars; omega) (hsw.sm ha) f hf1 (by rw [hext.vars]; exact hf0) hat.symm (by rw [hWl, hext.vars]; exact hn) (hr1 _) (fun j => by have := hrows j; omega) (by omega) (by omega)) ?_
    rintro _ w3 ⟨rfl, H⟩
    have kp := visit_keep W1 S1 A1 x f
    rw [hdx] at hgo
    have hgo : (if (visit W1 S1 A1 x f).out = 0 then fellGo f (row.drop (i + 1)) (ps.take n ++ [(visit W1 S1 A1 x f).x]) (visit W1 S1 A1 x f).W (visit W1 S1 A1 x f).S (visit W1 S1 A1 x f).A
      else if (visit W1 S1 A1 x f).out = 2 then ⟨some (visit W1 S1 A1 x f).x.ref, (visit W1 S1 A1 x f).W, (visit W1 S1 A1 x f).S, (visit W1 S1 A1 x f).A, ps.take n ++ (visit W1 S1 A1 x f).x :: row.drop (i + 1)⟩
      else fellGo f (row.drop (i + 1)) (ps.take n) (visit W1 S1 A1 x f).W (visit W1 S1 A1 x f).S (visit W1 S1 A1 x f).A) = R := hgo
    generalize visit W1 S1 A1 x f = V at *
    have hpx' : (ps.set i V.x)[i]? = some V.x := by rw [List.getElem?_set, if_pos rfl, if_pos (by omega)]
    have hd2 : (ps.set i V.x).drop (i + 1) = row.drop (i + 1) := by
      rw [List.drop_set_of_lt (by omega), ← List.drop_drop, hdr, List.drop_drop]
    have ht2 : (ps.set i V.x).take n = ps.take n := List.take_set_of_le hni
    have hvis2 : V.W.visits = W.visits + ((i + 1 : Nat) : Int) := by rw [kp.vis, hvis]; omega
    have hrows2 : ∀ j, (V.W.row j).length + (row.length - (i + 1)) ≤ 1000000000 := fun j => by
      have h1 := hrows j
      have h2 := kp.row j
      have h3 : (if V.out = 1 then 1 else 0) ≤ 1 := by split <;> omega
      omega
    refine ⟨_, rfl, gif_i (fun h0 => ?_) (fun h0 => gif_i (fun h2 => ?_) (fun h2 => ?_))⟩
    · have h0' : V.out = 0 := by simpa using h0
      rw [if_pos h0'] at hgo
      refine ⟨⟨by omega, by omega⟩, pm_i ⟨V.x.ref, V.x.blocker, V.x.binary, ocL H 0 rfl (fun j u hj => ?_), ⟨by omega, by omega⟩, pm_i ?_⟩⟩
      · rw [flat_get _ _ _ _ (fun x _ => x.vs_len) hpx' (by have := get_lt hj; simpa using this)]
        exact hj
      · rw [Int.toNat_natCast]
        obtain ⟨y, hy⟩ := lt_get (l := ps.set i V.x) (i := n) (by rw [List.length_set]; omega)
        refine wat_set (x' := V.x) H 0 rfl hy 0 rfl (by simp) rfl fun w4 H => ⟨by unfold InI; omega, by unfold InI; omega, ⟨n + 1, i + 1, (ps.set i V.x).set n V.x, V.W, V.S, V.A, rfl, by omega, by omega, by simp [hps], ?_, ?_, hext.trans kp.S, hsw.trans kp.A, kp.len.trans hWl, hrows2, hvis2, H⟩, by simp only; omega⟩
        · rw [List.drop_set_of_lt (by omega)]; exact hd2
        · have e3 : ((ps.set i V.x).set n V.x).take (n + 1) = ps.take n ++ [V.x] := by
            have hn' : n < ((ps.set i V.x).set n V.x).length := by simp; omega
            rw [List.take_add_one, List.take_set_of_le (Nat.le_refl _), ht2, List.getElem?_set, if_pos rfl, if_pos (by rw [List.length_set]; omega)]
            rfl
          rw [e3]; exact hgo
    · have h0' : ¬ V.out = 0 := by simpa using h0
      have h2' : V.out = 2 := by simpa using h2
      rw [if_neg h0', if_pos h2'] at hgo
      subst hgo
      have H := H.swap
      obtain ⟨al2, cl2, hs2, pa2, pc2, hl2, H⟩ := WtR.op H
      have kl := kp.len
      obtain ⟨b5, o5, e5⟩ := osl_ptr H 1 rfl (by omega)
      subst e5
      have hcap := osl_cap H 4 rfl
      have eo : ∀ k : Nat, slOff (aP b2 o2) h.2 k 3 = if h.2 = k then aP b2 o2 else aP b2 (o2 + k * 3) := fun k => by
        unfold slOff; split
        · rfl
        · simp [aP, Addr.add]
      have hc1 : h.2 ≠ n := by omega
      have hc2 : h.2 ≠ i := by omega
      rw [Int.toNat_natCast, eo, eo, if_neg hc1, if_neg hc2]
      have hlen' : (ps.set i V.x).length = row.length := by rw [List.length_set, hps]
      refine dr H fun w4 H => ⟨⟨by omega, by omega⟩, ⟨by omega, by omega⟩, ?_⟩
      refine copy_osl slWat H 4 rfl hni hil fun w5 H => ⟨_, rfl, by unfold InI; omega, dr H fun w6 H => ⟨_, _, _, cel H 0 rfl rfl, ⟨by omega, by omega⟩, ⟨q1, by omega⟩, pm_i ?_⟩⟩
      have ek : ((n : Int) + ((row.length - i : Nat) : Int)).toNat = n + (row.length - i) := by omega
      rw [ek]
      have hfc := flat_copy (sz := 3) (fun x => x.vs_len) (ps.set i V.x) n i hni (by omega)
      rw [hlen', ht2] at hfc
      have hdi : (ps.set i V.x).drop i = V.x :: row.drop (i + 1) := by
        rw [List.drop_eq_getElem_cons (by omega), (List.getElem?_eq_some_iff.1 hpx').2, hd2]
      rw [hdi] at hfc
      have htl : (ps.take n).length = n := by rw [List.length_take]; omega
      have hkl : (ps.take n ++ V.x :: row.drop (i + 1)).length = n + (row.length - i) := by
        rw [List.length_append, htl, List.length_cons, List.length_drop]; omega
      refine ost H 1 rfl rfl (by rw [slots_len hl2]; simp; omega) fun w7 H => ⟨by unfold InI; omega, by unfold InI; omega, ⟨by omega, by omega⟩, pm_i ⟨V.x.ref, ?_, rfl, ?_⟩⟩
      · have en : ((n : Int) + ((row.length - i : Nat) : Int) - ((row.length : Int) - (i : Int))).toNat = n := by omega
        rw [en]
        refine oc H 4 rfl ?_
        rw [hfc]
        have := flat_get (f := Wat.vs) (n := 3) (ps.take n ++ V.x :: row.drop (i + 1) ++ (ps.set i V.x).drop (n + (row.length - i))) n 0 V.x (fun x _ => x.vs_len) (by rw [List.append_assoc, List.getElem?_append_right (by omega), htl, Nat.sub_self]; rfl) (by omega)
        exact this
      · have H := H.set 4 rfl fun m hm => isl_take (n + (row.length - i)) (by omega) hm
        have e6 : ((ps.take n ++ V.x :: row.drop (i + 1) ++ (ps.set i V.x).drop (n + (row.length - i))).flatMap Wat.vs).take ((n + (row.length - i)) * 3) = (ps.take n ++ V.x :: row.drop (i + 1)).flatMap Wat.vs := by
          rw [List.flatMap_append, List.take_append_of_le_length (by rw [flat_len _ fun x _ => x.vs_len, hkl]; exact Nat.le_refl _), List.take_of_length_le (by rw [flat_len _ fun x _ => x.vs_len, hkl]; exact Nat.le_refl _)]
        rw [hfc] at H
        simp only [wtL, List.cons_append, List.nil_append, List.set_cons_succ, List.set_cons_zero, e6] at H
        have H := fell_shut (wx := wx) (a := a) (t := t) (at_ := at_) (W1 := V.W) (p := aP b2 o2) (c := h.2) (kept := ps.take n ++ V.x :: row.drop (i + 1)) hl2 (by omega) (by rw [hkl]; exact H)
        rw [kl, hWl] at H
        exact H
    · have h0' : ¬ V.out = 0 := by simpa using h0
      have h2' : ¬ V.out = 2 := by simpa using h2
      rw [if_neg h0', if_neg h2'] at hgo
      exact ⟨by unfold InI; omega, ⟨n, i + 1, ps.set i V.x, V.W, V.S, V.A, rfl, by omega, by omega, by simp [hps], hd2, by rw [ht2]; exact hgo, hext.trans kp.S, hsw.trans kp.A, kp.len.trans hWl, hrows2, hvis2, H⟩, by simp only; omega⟩
  · have hge' : ¬ i < row.length := by have := of_decide_eq_false hge; omega
    have hi : i = row.length := by omega
    have e0 : row.drop i = [] := List.drop_eq_nil_of_le (by omega)
    rw [e0] at hgo
    have hgo : (⟨none, W1, S1, A1, ps.take n⟩ : FR) = R := hgo
    subst hgo
    have H := H.swap
    obtain ⟨al2, cl2, hs2, pa2, pc2, hl2, H⟩ := WtR.op H
    obtain ⟨b5, o5, e5⟩ := osl_ptr H 1 rfl (by omega)
    subst e5
    have hcap := osl_cap H 4 rfl
    refine dr H fun w3 H => ⟨_, _, _, cel H 0 rfl rfl, ⟨by omega, by omega⟩, ⟨q1, by omega⟩, pm_i ?_⟩
    rw [Int.toNat_natCast]
    refine ost H 1 rfl rfl (by rw [slots_len hl2]; simp; omega) fun w4 H => ⟨rfl, ?_⟩
    have H := H.set 4 rfl fun m hm => isl_take n (by omega) hm
    have htl : (ps.take n).length = n := by rw [List.length_take]; omega
    have e6 : (ps.flatMap Wat.vs).take (n * 3) = (ps.take n).flatMap Wat.vs := by
      have : ps.flatMap Wat.vs = (ps.take n).flatMap Wat.vs ++ (ps.drop n).flatMap Wat.vs := by rw [← List.flatMap_append, List.take_append_drop]
      rw [this, List.take_append_of_le_length (by rw [flat_len _ fun x _ => x.vs_len, htl]; exact Nat.le_refl _), List.take_of_length_le (by rw [flat_len _ fun x _ => x.vs_len, htl]; exact Nat.le_refl _)]
    simp only [wtL, List.cons_append, List.nil_append, List.set_cons_succ, List.set_cons_zero, e6] at H
    have H := fell_shut (wx := wx) (a := a) (t := t) (at_ := at_) (W1 := W1) (p := h.1) (c := h.2) (kept := ps.take n) hl2 (by omega) (by rw [htl]; exact H)
    rw [hWl] at H
    exact H
end Go.Sv
/- Propagation. -/
namespace Go.Sv
open Go Go.Proofs
set_option maxRecDepth 100000

def Wt.total (W : Wt) : Nat := (W.lists.map List.length).sum
theorem sum_set : ∀ (xs : List Nat) (i v : Nat), i < xs.length → (xs.set i v).sum + (xs[i]?).getD 0 = xs.sum + v
  | [], i, v, h => by simp at h
  | x :: xs, 0, v, _ => by simp; omega
  | x :: xs, i + 1, v, h => by
    have := sum_set xs i v (by simpa using h)
    simp at this ⊢; omega
theorem row_total (W : Wt) (i : Nat) : (W.row i).length ≤ W.total := by
  unfold Wt.row Wt.total
  cases h : W.lists[i]? with
  | none => simp
  | some r =>
    have := sum_set (W.lists.map List.length) i 0 (by simpa using get_lt h)
    rw [List.getElem?_map, h] at this
    simp at this ⊢; omega
theorem total_set (W : Wt) (i : Nat) (r : List Wat) (h : i < W.lists.length) : ({ W with lists := W.lists.set i r } : Wt).total + (W.row i).length = W.total + r.length := by
  unfold Wt.row Wt.total
  have := sum_set (W.lists.map List.length) i r.length (by simpa using h)
  rw [List.getElem?_map] at this
  simp only [List.map_set]
  rw [List.getElem?_eq_getElem h] at this ⊢
  simpa using this
theorem total_add (W : Wt) (l : Int) (x : Wat) : (W.add l x).total ≤ W.total + 1 := by
  by_cases h : (litIx l).toNat < W.lists.length
  · have := total_set W _ (W.row (litIx l).toNat ++ [x]) h
    unfold Wt.add
    rw [List.length_append] at this
    simp at this ⊢; omega
  · unfold Wt.add
    rw [List.set_eq_of_length_le (by omega)]; exact Nat.le_add_right _ _
theorem row_mono (W : Wt) (l : Int) (x : Wat) (i : Nat) : (W.row i).length ≤ ((W.add l x).row i).length := by
  rw [row_add]
  split
  · rw [List.length_append]; omega
  · exact Nat.le_refl _
theorem visit_total (W : Wt) (S : Tr) (A : Ar) (x : Wat) (f : Int) : (visit W S A x f).W.total ≤ W.total + (if (visit W S A x f).out = 1 then 1 else 0) ∧ ∀ i, (W.row i).length ≤ ((visit W S A x f).W.row i).length := by
  unfold visit
  split
  · split
    · exact ⟨Nat.le_add_right _ _, fun i => Nat.le_refl _⟩
    · split
      · exact ⟨Nat.le_add_right _ _, fun i => Nat.le_refl _⟩
      · simp only
        split
        · exact ⟨Nat.le_add_right _ _, fun i => Nat.le_refl _⟩
        · split
          · exact ⟨total_add _ _ _, fun i => row_mono _ _ _ i⟩
          · exact ⟨Nat.le_add_right _ _, fun i => Nat.le_refl _⟩
  · exact ⟨Nat.le_add_right _ _, fun i => Nat.le_refl _⟩
/-- What looking through a row keeps. -/
structure FKeep (W : Wt) (S : Tr) (A : Ar) (n : Nat) (R : FR) : Prop where
  S : S.Ext R.S
  A : A.Sw R.A
  len : R.W.lists.length = W.lists.length
  pend : R.W.pending = W.pending
  head : R.W.head = W.head
  vis : W.visits ≤ R.W.visits ∧ R.W.visits ≤ W.visits + n
  mono : ∀ i, (W.row i).length ≤ (R.W.row i).length
theorem fellGo_keep (f : Int) : ∀ (xs kept : List Wat) (W : Wt) (S : Tr) (A : Ar), FKeep W S A xs.length (fellGo f xs kept W S A) ∧ (fellGo f xs kept W S A).W.total + (fellGo f xs kept W S A).row.length ≤ W.total + kept.length + xs.length
  | [], kept, W, S, A => ⟨⟨Tr.Ext.refl S, Ar.Sw.refl A, rfl, rfl, rfl, ⟨Int.le_refl _, by simp [fellGo]⟩, fun _ => Nat.le_refl _⟩, by simp [fellGo]⟩
  | x :: xs, kept, W, S, A => by
    have kp := visit_keep W S A x f
    have tp := visit_total W S A x f
    unfold fellGo
    simp only
    generalize visit W S A x f = V at *
    have lift : ∀ R, FKeep V.W V.S V.A xs.length R → FKeep W S A (x :: xs).length R := fun R k =>
      ⟨kp.S.trans k.S, kp.A.trans k.A, k.len.trans kp.len, k.pend.trans kp.pend, k.head.trans kp.head, by have := k.vis; have := kp.vis; rw [List.length_cons]; omega, fun i => Nat.le_trans (tp.2 i) (k.mono i)⟩
    split
    · rename_i h0
      rw [h0] at tp
      obtain ⟨h1, h2⟩ := fellGo_keep f xs (kept ++ [V.x]) V.W V.S V.A
      refine ⟨lift _ h1, ?_⟩
      have := tp.1
      simp at this h2 ⊢; omega
    · split
      · rename_i h0 h2
        rw [h2] at tp
        refine ⟨⟨kp.S, kp.A, kp.len, kp.pend, kp.head, by have := kp.vis; rw [List.length_cons]; simp only; omega, tp.2⟩, ?_⟩
        have := tp.1
        simp at this ⊢; omega
      · obtain ⟨h1, h2⟩ := fellGo_keep f xs kept V.W V.S V.A
        refine ⟨lift _ h1, ?_⟩
        have h3 := tp.1
        have h4 : (if V.out = 1 then 1 else 0) ≤ 1 := by split <;> omega
        rw [List.length_cons]; omega
theorem fell_keep (W : Wt) (S : Tr) (A : Ar) (f : Int) (hlt : (litIx f).toNat < W.lists.length) : S.Ext (fell W S A f).S ∧ A.Sw (fell W S A f).A ∧ (fell W S A f).W.lists.length = W.lists.length ∧ (fell W S A f).W.pending = W.pending ∧ (fell W S A f).W.head = W.head ∧
    W.visits ≤ (fell W S A f).W.visits ∧ (fell W S A f).W.visits ≤ W.visits + (W.row (litIx f).toNat).length ∧ (fell W S A f).W.total ≤ W.total := by
  obtain ⟨k, h⟩ := fellGo_keep f (W.row (litIx f).toNat) [] W S A
  unfold fell
  simp only
  generalize fellGo f (W.row (litIx f).toNat) [] W S A = R at *
  refine ⟨k.S, k.A, by rw [List.length_set, k.len], k.pend, k.head, k.vis.1, k.vis.2, ?_⟩
  have h1 := total_set R.W (litIx f).toNat R.row (by rw [k.len]; exact hlt)
  have h2 := k.mono (litIx f).toNat
  simp at h; omega

theorem look_ext (S : Tr) (A : Ar) (r : Int) : S.Ext (look S A r).2 := by
  unfold look
  split
  · exact Tr.Ext.refl S
  · split
    · exact Tr.Ext.refl S
    · exact put_ext S _ _

structure PG where
  clash : Option Int
  pending : List Int
  visits : Int
  S : Tr
def pendGo (A : Ar) : List Int → Int → Tr → PG
  | [], v, S => ⟨none, [], v, S⟩
  | r :: rs, v, S => if A.has r then (if (look S A r).1 then pendGo A rs (v + 1) (look S A r).2 else ⟨some r, r :: rs, v + 1, (look S A r).2⟩) else pendGo A rs (v + 1) S
structure PR where
  clash : Option Int
  W : Wt
  S : Tr
  A : Ar
def headGo : Nat → Wt → Tr → Ar → PR
  | 0, W, S, A => ⟨none, W, S, A⟩
  | k + 1, W, S, A => if W.head < S.l.length then
      match (fell W S A (-(S.lAt W.head))).clash with
      | some r => ⟨some r, (fell W S A (-(S.lAt W.head))).W, (fell W S A (-(S.lAt W.head))).S, (fell W S A (-(S.lAt W.head))).A⟩
      | none => headGo k { (fell W S A (-(S.lAt W.head))).W with head := W.head + 1 } (fell W S A (-(S.lAt W.head))).S (fell W S A (-(S.lAt W.head))).A
    else ⟨none, W, S, A⟩
def prop (W : Wt) (S : Tr) (A : Ar) : PR :=
  let P := pendGo A W.pending W.visits S
  let W1 : Wt := { W with pending := P.pending, visits := P.visits }
  match P.clash with
  | some r => ⟨some r, W1, P.S, A⟩
  | none => headGo (P.S.vars.length + 1) W1 P.S A
theorem k_Propagate {L : List HPr} {w : World} {wx a t : Nat} {W : Wt} {S : Tr} {A : Ar} (H : Holds (WtR wx a t W W.lists.length :: ArR a A :: TrR t S :: L) w) (hok : S.Ok) (ha : A.Sm) (hn : W.lists.length = 2 * S.vars.length)
    (hr : ∀ r, ∀ l ∈ A.lits r, right l S.vars.length = true) (htot : W.total ≤ 500000000) (hh : 0 ≤ W.head) (hv0 : 0 ≤ W.visits) (hv : W.visits + W.pending.length + (S.vars.length + 1) * 1000000000 ≤ 4611686018427387904) :
    Calls cx.P F.watch_Watcher_Propagate #[vP wx 0] w (Ret fun v w' => v = (match (prop W S A).clash with | some r => .tuple #[vI r, vB false] | none => .tuple #[vI 0, vB true]) ∧
      Holds (WtR wx a t (prop W S A).W W.lists.length :: ArR a (prop W S A).A :: TrR t (prop W S A).S :: L) w') := by
  apply vc_watch_Watcher_Propagate
  refine ⟨fun _ w => ∃ (rs : List Int) (v : Int) (S1 : Tr), pendGo A rs v S1 = pendGo A W.pending W.visits S ∧ S.Ext S1 ∧ 0 ≤ v ∧ v + rs.length = W.visits + W.pending.length ∧ Holds (WtR wx a t { W with pending := rs, visits := v } W.lists.length :: ArR a A :: TrR t S1 :: L) w,
    fun _ w => (match w.cell? ⟨wx, 3, none⟩ with | some (.slice _ l _) => l | _ => 0), ⟨W.pending, W.visits, S, rfl, Tr.Ext.refl S, hv0, rfl, H⟩, ?_⟩
  rintro w1 ⟨rs, v, S1, hgo, hext, hv1, hv2, H⟩
  obtain ⟨al, cl, hs, pa, pc, hl', H⟩ := WtR.op H
  have ok1 := hext.ok hok
  have hnv := hok.sm.n
  have hmu : w1.cell? ⟨wx, 3, none⟩ = some (vS pa rs.length pc) := cel H 0 rfl rfl
  have hlits : ∀ r, ∀ l ∈ A.lits r, right l S1.vars.length = true := fun r l hl => by rw [hext.vars]; exact hr r l hl
  refine ⟨_, _, _, cel H 0 rfl rfl, gif_i (fun h => ?_) (fun h => ?_)⟩
  · have h' : 0 < rs.length := by have := of_decide_eq_true h; simp only at this; omega
    obtain ⟨r, rs, rfl⟩ : ∃ r rs', rs = r :: rs' := by
      cases rs with
      | nil => simp at h'
      | cons r rs => exact ⟨r, rs, rfl⟩
    simp only [List.length_cons] at hv2
    have hgo : (if A.has r then (if (look S1 A r).1 then pendGo A rs (v + 1) (look S1 A r).2 else ⟨some r, r :: rs, v + 1, (look S1 A r).2⟩) else pendGo A rs (v + 1) S1) = pendGo A W.pending W.visits S := hgo
    obtain ⟨b, o, e⟩ := osl_ptr H 3 rfl (by simp)
    subst e
    refine ⟨_, _, _, cel H 0 rfl rfl, ⟨by omega, by simp only [List.length_cons]; omega⟩, pm_i ⟨r, oc H 3 rfl (k := 0) rfl, v, cel H 0 rfl rfl, by unfold InI; omega, st H 0 rfl rfl (by simp) fun w2 H => ?_⟩⟩
    refine ⟨_, cel H 0 rfl rfl, Calls.ret (atr H 4 rfl fun H => k_Has H r) ?_⟩
    rintro _ w3 ⟨rfl, H⟩
    have fin : ∀ (S2 : Tr) w4, S1.Ext S2 → pendGo A rs (v + 1) S2 = pendGo A W.pending W.visits S → Holds (wbk wx a t (vS al W.lists.length cl) (vS (aP b o) (r :: rs).length pc) (vI W.head) (vI (v + 1)) :: osl T.s_watch_watch 1 al W.lists.length cl (slots hs W.lists) :: star ((rowsP T.watch_watch 3 Wat.vs hs W.lists).set W.lists.length emp) :: osl T.int 1 (aP b o) (r :: rs).length pc ((r :: rs).map vI) :: ArR a A :: TrR t S2 :: L) w4 →
        ∃ x6a x6l x6c, Cel w4 wx 3 (vS x6a x6l x6c) ∧ ((0 : Int) ≤ 1 ∧ 1 ≤ ((x6l : Nat) : Int)) ∧ St w4 wx 3 [vS (slOff x6a x6c 1 1) (x6l - 1) (x6c - 1)] fun w5 => (∃ (rs : List Int) (v : Int) (S1 : Tr), pendGo A rs v S1 = pendGo A W.pending W.visits S ∧ S.Ext S1 ∧ 0 ≤ v ∧ v + rs.length = W.visits + W.pending.length ∧ Holds (WtR wx a t { W with pending := rs, visits := v } W.lists.length :: ArR a A :: TrR t S1 :: L) w5) ∧ (match w5.cell? ⟨wx, 3, none⟩ with | some (.slice _ l _) => l | _ => 0) < (match w1.cell? ⟨wx, 3, none⟩ with | some (.slice _ l _) => l | _ => 0) := by
      intro S2 w4 hx hg H
      refine ⟨_, _, _, cel H 0 rfl rfl, ⟨by omega, by simp only [List.length_cons]; omega⟩, st H 0 rfl rfl (by simp) fun w5 H => ?_⟩
      have hc5 : ∃ p q, w5.cell? ⟨wx, 3, none⟩ = some (vS p rs.length q) := ⟨_, _, cel H 0 rfl rfl⟩
      obtain ⟨p, q, hc5⟩ := hc5
      refine ⟨⟨rs, v + 1, S2, hg, hext.trans hx, by omega, by omega, ?_⟩, by rw [hc5, hmu]; simp⟩
      have H := H.set 3 rfl fun m hm => isl_cut 1 (by simp) hm
      refine WtR.sh (al := al) (cl := cl) (hs := hs) (pa := slOff (aP b o) pc 1 1) (pc := pc - 1) hl' (H.cast ?_)
      simp [wtL, setL]
    refine ⟨_, rfl, gif_i (fun hb => ?_) (fun hb => ?_)⟩
    · rw [if_pos hb] at hgo
      refine Calls.ret (k_look H 0 5 4 rfl rfl rfl ok1.sm (by have := ok1.len; have := hext.vars; omega) ha r) ?_
      rintro _ w4 ⟨rfl, H⟩
      refine ⟨_, rfl, gif_i (fun hc => ?_) (fun hc => ?_)⟩
      · have hc' : ¬ (look S1 A r).1 = true := by simpa using hc
        rw [if_neg hc'] at hgo
        unfold prop
        rw [← hgo]
        exact ⟨rfl, WtR.sh (al := al) (cl := cl) (hs := hs) (pa := aP b o) (pc := pc) hl' H⟩
      · have hc' : (look S1 A r).1 = true := by simpa using hc
        rw [if_pos hc'] at hgo
        exact fin _ w4 (look_ext S1 A r) hgo H
    · rw [if_neg (by rw [hb]; simp)] at hgo
      exact fin _ w3 (Tr.Ext.refl S1) hgo H
  · have h' : ¬ 0 < rs.length := by have := of_decide_eq_false h; simp only at this; omega
    have hrs : rs = [] := List.eq_nil_of_length_eq_zero (by omega)
    subst hrs
    have hgo : (⟨none, [], v, S1⟩ : PG) = pendGo A W.pending W.visits S := hgo
    generalize hW1 : ({ W with pending := [], visits := v } : Wt) = W1 at H
    have hWl : W1.lists = W.lists := by rw [← hW1]
    have hWh : W1.head = W.head := by rw [← hW1]
    have hWv : W1.visits = v := by rw [← hW1]
    have hWp : W1.pending = [] := by rw [← hW1]
    have eprop : prop W S A = headGo (S1.vars.length + 1) W1 S1 A := by
      unfold prop; rw [← hgo, ← hW1]
    rw [eprop]
    generalize hR : headGo (S1.vars.length + 1) W1 S1 A = R
    have ln := ok1.len
    refine ⟨fun _ w => ∃ (k : Nat) (W2 : Wt) (S2 : Tr) (A2 : Ar), headGo k W2 S2 A2 = R ∧ 0 ≤ W2.head ∧ (S1.vars.length : Int) + 1 ≤ k + W2.head ∧ S1.Ext S2 ∧ A.Sw A2 ∧ W2.lists.length = W.lists.length ∧ W2.total ≤ 500000000 ∧ 0 ≤ W2.visits ∧ W2.visits + k * 1000000000 ≤ 4611686018427387904 ∧ Holds (WtR wx a t W2 W.lists.length :: ArR a A2 :: TrR t S2 :: L) w,
      fun _ w => (match w.cell? ⟨wx, 4, none⟩ with | some (.int _ h) => ((S1.vars.length : Int) - h).toNat | _ => 0), ⟨S1.vars.length + 1, W1, S1, A, hR, by omega, by omega, Tr.Ext.refl S1, Ar.Sw.refl A, by rw [hWl], by unfold Wt.total at htot ⊢; rw [hWl]; exact htot, by omega, by rw [hWv]; have := hext.vars; simp only [List.length_nil] at hv2; omega, WtR.sh (by rw [hWl]; exact hl') H⟩, ?_⟩
    rintro w7 ⟨k, W2, S2, A2, hg, hh2, hk, hx2, hsw, hW2l, ht2, hv3, hv4, H⟩
    obtain ⟨al2, cl2, hs2, pa2, pc2, hl2, H⟩ := WtR.op H
    have ok2 := hx2.ok ok1
    have ln2 := ok2.len
    have hv2' := hx2.vars
    have hv1' := hext.vars
    have hmu2 : w7.cell? ⟨wx, 4, none⟩ = some (vI W2.head) := cel H 0 rfl rfl
    refine dr H fun w8 H => ⟨_, cel H 0 rfl rfl, _, cel H 0 rfl rfl, Calls.ret (atr H 5 rfl fun H => k_TLen H) ?_⟩
    rintro _ w9 ⟨rfl, H⟩
    refine ⟨_, rfl, cel H 0 rfl rfl, gif_i (fun h2 => ?_) (fun h2 => ?_)⟩
    · have h2' : W2.head < S2.l.length := by have := of_decide_eq_true h2; exact this
      obtain ⟨k, rfl⟩ : ∃ k', k = k' + 1 := ⟨k - 1, by omega⟩
      refine dr H fun w10 H => ⟨_, cel H 0 rfl rfl, _, cel H 0 rfl rfl, Calls.ret (atr H 5 rfl fun H => k_TAt H W2.head) ?_⟩
      rintro _ w11 ⟨rfl, H⟩
      have hmem : S2.lAt W2.head ∈ S2.l := by
        unfold Tr.lAt
        obtain ⟨y, hy⟩ := lt_get (l := S2.l) (i := W2.head.toNat) (by omega)
        rw [if_neg (by omega), hy]; exact List.mem_of_getElem? hy
      have hval := ok2.tr _ hmem
      have hg : (if W2.head < S2.l.length then
        match (fell W2 S2 A2 (-(S2.lAt W2.head))).clash with
        | some r => (⟨some r, (fell W2 S2 A2 (-(S2.lAt W2.head))).W, (fell W2 S2 A2 (-(S2.lAt W2.head))).S, (fell W2 S2 A2 (-(S2.lAt W2.head))).A⟩ : PR)
        | none => headGo k { (fell W2 S2 A2 (-(S2.lAt W2.head))).W with head := W2.head + 1 } (fell W2 S2 A2 (-(S2.lAt W2.head))).S (fell W2 S2 A2 (-(S2.lAt W2.head))).A
        else ⟨none, W2, S2, A2⟩) = R := hg
      rw [if_pos h2'] at hg
      have hneg : S2.value (-(S2.lAt W2.head)) < 0 := by rw [value_neg]; omega
      have hrt := value_right (S := S2) (x := -(S2.lAt W2.head)) (by omega)
      obtain ⟨q1, q2, q3, q4⟩ := right_ix hrt
      have ef : (0 : Int) - S2.lAt W2.head = -(S2.lAt W2.head) := by omega
      refine ⟨_, rfl, by unfold InI; omega, ?_⟩
      rw [ef]
      generalize hf : -(S2.lAt W2.head) = f at *
      have hltf : (litIx f).toNat < W2.lists.length := by rw [hW2l, hn]; omega
      have hnn : W2.lists.length = 2 * S2.vars.length := by omega
      have hrt2 := row_total W2 (litIx f).toNat
      refine Calls.ret (k_fell (W := W2) (by rw [hW2l]; exact WtR.sh hl2 H) ok2 (hsw.sm ha) f hneg hnn (fun r l hl => by rw [hv2']; exact hlits r l ((hsw.perm r).mem_iff.1 hl)) (fun i => by have := row_total W2 i; omega) hv3 (by omega)) ?_
      rintro _ w12 ⟨rfl, H⟩
      obtain ⟨f1, f2, f3, f4, f5, f6, f7, f8⟩ := fell_keep W2 S2 A2 f hltf
      generalize fell W2 S2 A2 f = FRs at *
      cases hcl : FRs.clash with
      | some r =>
        rw [hcl] at hg
        rw [← hg]
        rw [hW2l] at H
        exact ⟨r, false, rfl, rfl, H⟩
      | none =>
        rw [hcl] at hg
        refine ⟨0, true, rfl, ?_⟩
        rw [hW2l] at H
        obtain ⟨al3, cl3, hs3, pa3, pc3, hl3, H⟩ := WtR.op H
        refine ⟨_, cel H 0 rfl rfl, by unfold InI; omega, st H 0 rfl rfl (by simp) fun w13 H => ?_⟩
        have hmu3 : w13.cell? ⟨wx, 4, none⟩ = some (vI (FRs.W.head + 1)) := cel H 0 rfl rfl
        refine ⟨⟨k, { FRs.W with head := W2.head + 1 }, FRs.S, FRs.A, hg, by simp only; omega, by simp only; omega, hx2.trans f1, hsw.trans f2, f3.trans hW2l, by unfold Wt.total at f8 ht2 ⊢; simp only; omega, by simp only; omega, by simp only; omega, WtR.sh (al := al3) (cl := cl3) (hs := hs3) (pa := pa3) (pc := pc3) hl3 (H.cast ?_)⟩, ?_⟩
        · rw [f5]; simp [wtL, setL]
        · simp only [hmu3, hmu2]
          omega
    · have h2' : ¬ W2.head < S2.l.length := by have := of_decide_eq_false h2; exact this
      have : R = ⟨none, W2, S2, A2⟩ := by
        rw [← hg]
        cases k with
        | zero => rfl
        | succ k => show (if W2.head < S2.l.length then _ else _) = _; rw [if_neg h2']
      rw [this]
      exact ⟨rfl, WtR.sh hl2 H⟩
end Go.Sv
/- A new watcher; back to a level. -/
namespace Go.Sv
open Go Go.Proofs
set_option maxRecDepth 100000

theorem SatL_triv : ∀ {L : List HPr} (m : Hp), (∀ A ∈ L, ∀ m, A m) → SatL L m
  | [], _, _ => trivial
  | A :: _, _, h => ⟨fun _ => false, h A (List.mem_cons_self ..) _, SatL_triv _ fun B hB => h B (List.mem_cons_of_mem _ hB)⟩
theorem holds_triv {A : HPr} {L : List HPr} {w : World} (H : Holds L w) (h : ∀ m, A m) : Holds (A :: L) w := by
  refine ⟨fun _ => false, h _, ?_⟩
  have : res (hpOf w) (fun b => !false) = hpOf w := res_all _
  rw [this]; exact H
theorem osl_triv (T sz : Nat) (m : Hp) : osl T sz none 0 0 [] m := ⟨by simp, Nat.le_refl _, rfl, .inl ⟨rfl, rfl⟩⟩
theorem k_watch_New {L : List HPr} {w : World} (H : Holds L w) (a t n : Nat) (hn : n ≤ 100000) :
    Calls cx.P F.watch_New #[vP a 0, vP t 0, vI (n : Int)] w (Ret fun v w' => ∃ wx, v = vP wx 0 ∧ Holds (WtR wx a t ⟨List.replicate (2 * n) [], [], 0, 0⟩ (2 * n) :: L) w') := by
  apply vc_watch_New
  refine ⟨by unfold InI; omega, omk slWats H (by omega) (Int.le_refl _) (by omega) (by omega) fun p w1 H => ⟨_, _, _, rfl, al H fun wx w2 H => ⟨wx, rfl, ?_⟩⟩⟩
  have e1 : (2 * (n : Int)).toNat = 2 * n := by omega
  rw [e1] at H
  have H := holds_triv (osl_nil T.int 1 H) (A := star (rowsP (α := Wat) T.watch_watch 3 Wat.vs (List.replicate (2 * n) (none, 0)) (List.replicate (2 * n) []))) (fun m => SatL_triv m fun A hA m => by
    unfold rowsP at hA
    rw [List.zipWith_replicate] at hA
    have := List.eq_of_mem_replicate hA
    subst this
    exact osl_triv _ _ m)
  have H := (H.pick 3 rfl).pick 3 rfl
  refine WtR.sh (al := p) (cl := 2 * n) (hs := List.replicate (2 * n) (none, 0)) (pa := none) (pc := 0) (by simp) (H.cast ?_)
  have e2 : (rowsP (α := Wat) T.watch_watch 3 Wat.vs (List.replicate (2 * n) (none, 0)) (List.replicate (2 * n) [])).set (2 * n) emp = rowsP T.watch_watch 3 Wat.vs (List.replicate (2 * n) (none, 0)) (List.replicate (2 * n) []) :=
    List.set_eq_of_length_le (by simp [rowsP])
  have e3 : repL (2 * n) [vNS] = slots (α := Wat) (List.replicate (2 * n) (none, 0)) (List.replicate (2 * n) []) := by
    unfold repL slots
    rw [List.zipWith_replicate]
    simp [List.flatten_replicate_singleton]
  simp only [wtL, List.length_replicate, e2, e3, List.length_nil, List.map_nil]
  rfl
/-- Back to a level. -/
def wback (W : Wt) (S : Tr) (level : Int) : Wt := { W with head := min W.head ((S.back level).l.length : Int) }
theorem k_WBack {L : List HPr} {w : World} {wx a t hole : Nat} {W : Wt} {S : Tr} {A : Ar} (H : Holds (WtR wx a t W hole :: ArR a A :: TrR t S :: L) w) (hok : S.Ok) (level : Int) :
    Calls cx.P F.watch_Watcher_Back #[vP wx 0, vI level] w (Ret fun v w' => ∃ p c, v = vS p (S.backOut level).length c ∧ Holds (osl T.int 1 p (S.backOut level).length c ((S.backOut level).map vI) :: WtR wx a t (wback W S level) hole :: ArR a A :: TrR t (S.back level) :: L) w') := by
  apply vc_watch_Watcher_Back
  have hl := hok.len
  have hn := hok.sm.n
  obtain ⟨al, cl, hs, pa, pc, hl', H⟩ := WtR.op H
  have H := H.pick 5 rfl
  refine ⟨_, cel H 1 rfl rfl, Calls.ret (k_TBack H hok.sm (by omega) (fun x hx => value_right (by rw [hok.tr x hx]; omega)) (fun s hs => ⟨(hok.st s hs).1, Int.le_of_lt (hok.st s hs).2⟩) level) ?_⟩
  rintro _ w1 ⟨p, c, rfl, H⟩
  refine ⟨_, _, _, rfl, dr H fun w2 H => ⟨_, cel H 2 rfl rfl, _, cel H 2 rfl rfl, Calls.ret (atr H 1 rfl fun H => k_TLen H) ?_⟩⟩
  rintro _ w3 ⟨rfl, H⟩
  refine ⟨_, rfl, cel H 2 rfl rfl, ?_⟩
  rw [iMin_eq]
  refine st H 2 rfl rfl (by simp) fun w4 H => ⟨p, c, rfl, ?_⟩
  have H := ((((((H.pick 1 rfl).pick 6 rfl).pick 6 rfl).pick 6 rfl).pick 6 rfl).pick 6 rfl).pick 6 rfl
  refine part_shut1 (Ls := wtL wx a t (wback W S level) hole al cl hs pa pc) (fun _ h => ⟨al, cl, hs, pa, pc, hl', h⟩) (H.cast ?_)
  simp [wtL, setL, wback]
end Go.Sv
/- What each function comes to, read off its code by reckoning. -/
namespace Go.Sv
open Go Go.Proofs
set_option maxRecDepth 100000
theorem vc_scores_New (vars : Int) (w : World) (R : Value → World → Prop)
    (hvc : Dr w fun w1 => InI (vars + 1) ∧ InI (vars + 1) ∧ (Rn cx.P (Instr.makeSlice T.s_int (vI (vars + 1)) (vI (vars + 1))) w1 fun v1 w2 => ∃ r1a r1l r1c, v1 = vS r1a r1l r1c ∧ Rn cx.P (Instr.makeSlice T.s_int (vI (vars + 1)) (vI (vars + 1))) w2 fun v2 w3 => ∃ r2a r2l r2c, v2 = vS r2a r2l r2c ∧ Al w3 [vS r1a r1l r1c, vS r2a r2l r2c, vNS, vI 1048576] T.scores_Heap fun b1 w4 => ∃ (I1 : List Value → World → Prop) (μ1 : List Value → World → Nat), I1 [vI 1] w4 ∧ (∀ v3, ∀ w5, I1 [vI v3] w5 → gif (decide (v3 ≤ (vars : Int))) (Dr w5 fun w6 => ∃ x1a x1l x1c, Cel w6 b1 1 (vS x1a x1l x1c) ∧ ∃ x2a x2l x2c, Cel w6 b1 2 (vS x2a x2l x2c) ∧ ((0 : Int) ≤ v3 ∧ v3 < ((x1l : Nat) : Int)) ∧ pm x1a fun b2 o2 => St w6 b2 (o2 + ((v3).toNat)) [vI ((x2l : Nat) : Int)] fun w7 => ∃ x3a x3l x3c, Cel w7 b1 2 (vS x3a x3l x3c) ∧ Al w7 [vI v3] T.int fun b3 w8 => Rn cx.P (Builtin.append_ #[T.s_int, T.s_int] T.s_int #[vS x3a x3l x3c, vS (aP b3 0) 1 1]) w8 fun v4 w9 => ∃ r3a r3l r3c, v4 = vS r3a r3l r3c ∧ St w9 b1 2 [vS r3a r3l r3c] fun w10 => InI (v3 + 1) ∧ I1 [vI (v3 + 1)] w10 ∧ μ1 [vI (v3 + 1)] w10 < μ1 [vI v3] w5) (R (vP b1 0) w5))) ∧ (Rn cx.P (Instr.makeSlice T.s_int (vI (vars + 1)) (vI (vars + 1))) w1 fun v5 w11 => ∃ r4a r4l r4c, v5 = vS r4a r4l r4c ∧ Rn cx.P (Instr.makeSlice T.s_int (vI (vars + 1)) (vI (vars + 1))) w11 fun v6 w12 => ∃ r5a r5l r5c, v6 = vS r5a r5l r5c ∧ Al w12 [vS r5a r5l r5c, vS r4a r4l r4c, vNS, vI 1048576] T.scores_Heap fun b4 w13 => ∃ (I2 : List Value → World → Prop) (μ2 : List Value → World → Nat), I2 [vI 1] w13 ∧ (∀ v7, ∀ w14, I2 [vI v7] w14 → gif (decide (v7 ≤ (vars : Int))) (Dr w14 fun w15 => ∃ x4a x4l x4c, Cel w15 b4 1 (vS x4a x4l x4c) ∧ ∃ x5a x5l x5c, Cel w15 b4 2 (vS x5a x5l x5c) ∧ ((0 : Int) ≤ v7 ∧ v7 < ((x4l : Nat) : Int)) ∧ pm x4a fun b5 o5 => St w15 b5 (o5 + ((v7).toNat)) [vI ((x5l : Nat) : Int)] fun w16 => ∃ x6a x6l x6c, Cel w16 b4 2 (vS x6a x6l x6c) ∧ Al w16 [vI v7] T.int fun b6 w17 => Rn cx.P (Builtin.append_ #[T.s_int, T.s_int] T.s_int #[vS x6a x6l x6c, vS (aP b6 0) 1 1]) w17 fun v8 w18 => ∃ r6a r6l r6c, v8 = vS r6a r6l r6c ∧ St w18 b4 2 [vS r6a r6l r6c] fun w19 => InI (v7 + 1) ∧ I2 [vI (v7 + 1)] w19 ∧ μ2 [vI (v7 + 1)] w19 < μ2 [vI v7] w14) (R (vP b4 0) w14)))) :
    Calls cx.P F.scores_New #[vI vars] w (Ret R) :=
  calls_of_gFn (C := cx) (an := ⟨[(3, [(4, 3)], [0, 3])], []⟩) (f := F.scores_New) (fn := Tryz.f37) (args := [vI vars]) Tryz.func37 hvc (by kernel_rfl)

theorem vc_scores_Heap_right (h : Nat) (v : Int) (w : World) (R : Value → World → Prop)
    (hvc : gif (decide (v ≥ (1 : Int))) (∃ x1a x1l x1c, Cel w h 0 (vS x1a x1l x1c) ∧ R (vB (decide (v < (((x1l : Nat) : Int) : Int)))) w) (R (vB false) w)) :
    Calls cx.P F.scores_Heap_right #[vP h 0, vI v] w (Ret R) :=
  calls_of_gFn (C := cx) (an := ⟨[], []⟩) (f := F.scores_Heap_right) (fn := Tryz.f155) (args := [vP h 0, vI v]) Tryz.func155 hvc (by kernel_rfl)

theorem vc_scores_Heap_ahead (h : Nat) (xp : Int) (y : Int) (w : World) (R : Value → World → Prop)
    (hvc : Dr w fun w1 => ∃ x1a x1l x1c, Cel w1 h 0 (vS x1a x1l x1c) ∧ ((0 : Int) ≤ xp ∧ xp < ((x1l : Nat) : Int)) ∧ pm x1a fun b1 o1 => ∃ x2, Cel w1 b1 (o1 + ((xp).toNat)) (vI x2) ∧ ∃ x3a x3l x3c, Cel w1 h 0 (vS x3a x3l x3c) ∧ ((0 : Int) ≤ y ∧ y < ((x3l : Nat) : Int)) ∧ pm x3a fun b2 o2 => ∃ x4, Cel w1 b2 (o2 + ((y).toNat)) (vI x4) ∧ gif (decide (x2 > (x4 : Int))) (R (vB true) w1) (∃ x5a x5l x5c, Cel w1 h 0 (vS x5a x5l x5c) ∧ ((0 : Int) ≤ xp ∧ xp < ((x5l : Nat) : Int)) ∧ pm x5a fun b3 o3 => ∃ x6, Cel w1 b3 (o3 + ((xp).toNat)) (vI x6) ∧ ∃ x7a x7l x7c, Cel w1 h 0 (vS x7a x7l x7c) ∧ ((0 : Int) ≤ y ∧ y < ((x7l : Nat) : Int)) ∧ pm x7a fun b4 o4 => ∃ x8, Cel w1 b4 (o4 + ((y).toNat)) (vI x8) ∧ gif (x6 == (x8 : Int)) (R (vB (decide (xp < (y : Int)))) w1) (R (vB false) w1))) :
    Calls cx.P F.scores_Heap_ahead #[vP h 0, vI xp, vI y] w (Ret R) :=
  calls_of_gFn (C := cx) (an := ⟨[], []⟩) (f := F.scores_Heap_ahead) (fn := Tryz.f186) (args := [vP h 0, vI xp, vI y]) Tryz.func186 hvc (by kernel_rfl)

theorem vc_scores_Heap_set (h : Nat) (i : Int) (v : Int) (w : World) (R : Value → World → Prop)
    (hvc : Dr w fun w1 => ∃ x1a x1l x1c, Cel w1 h 2 (vS x1a x1l x1c) ∧ ∃ x2a x2l x2c, Cel w1 h 1 (vS x2a x2l x2c) ∧ ((0 : Int) ≤ i ∧ i < ((x1l : Nat) : Int)) ∧ pm x1a fun b1 o1 => St w1 b1 (o1 + ((i).toNat)) [vI v] fun w2 => ((0 : Int) ≤ v ∧ v < ((x2l : Nat) : Int)) ∧ pm x2a fun b2 o2 => St w2 b2 (o2 + ((v).toNat)) [vI i] fun w3 => R (.tuple #[]) w3) :
    Calls cx.P F.scores_Heap_set #[vP h 0, vI i, vI v] w (Ret R) :=
  calls_of_gFn (C := cx) (an := ⟨[], []⟩) (f := F.scores_Heap_set) (fn := Tryz.f187) (args := [vP h 0, vI i, vI v]) Tryz.func187 hvc (by kernel_rfl)

theorem vc_scores_Heap_up (h : Nat) (i : Int) (w : World) (R : Value → World → Prop)
    (hvc : ∃ x1a x1l x1c, Cel w h 2 (vS x1a x1l x1c) ∧ ((0 : Int) ≤ i ∧ i < ((x1l : Nat) : Int)) ∧ pm x1a fun b1 o1 => ∃ x2, Cel w b1 (o1 + ((i).toNat)) (vI x2) ∧ ∃ (I1 : List Value → World → Prop) (μ1 : List Value → World → Nat), I1 [vI i] w ∧ (∀ i1, ∀ w1, I1 [vI i1] w1 → gif (decide (i1 > (0 : Int))) (∃ x3a x3l x3c, Cel w1 h 2 (vS x3a x3l x3c) ∧ InI (i1 - 1) ∧ (2 : Int) ≠ 0 ∧ InI (Int.tdiv (i1 - 1) 2) ∧ ((0 : Int) ≤ Int.tdiv (i1 - 1) 2 ∧ Int.tdiv (i1 - 1) 2 < ((x3l : Nat) : Int)) ∧ pm x3a fun b2 o2 => ∃ x4, Cel w1 b2 (o2 + ((Int.tdiv (i1 - 1) 2).toNat)) (vI x4) ∧ Calls cx.P F.scores_Heap_ahead #[vP h 0, vI x2, vI x4] w1 (Ret fun v1 w2 => ∃ r1, v1 = vB r1 ∧ gif r1 (∃ x5a x5l x5c, Cel w2 h 2 (vS x5a x5l x5c) ∧ InI (i1 - 1) ∧ (2 : Int) ≠ 0 ∧ InI (Int.tdiv (i1 - 1) 2) ∧ ((0 : Int) ≤ Int.tdiv (i1 - 1) 2 ∧ Int.tdiv (i1 - 1) 2 < ((x5l : Nat) : Int)) ∧ pm x5a fun b3 o3 => ∃ x6, Cel w2 b3 (o3 + ((Int.tdiv (i1 - 1) 2).toNat)) (vI x6) ∧ Calls cx.P F.scores_Heap_set #[vP h 0, vI i1, vI x6] w2 (Ret fun v2 w3 => v2 = .tuple #[] ∧ InI (i1 - 1) ∧ (2 : Int) ≠ 0 ∧ InI (Int.tdiv (i1 - 1) 2) ∧ I1 [vI (Int.tdiv (i1 - 1) 2)] w3 ∧ μ1 [vI (Int.tdiv (i1 - 1) 2)] w3 < μ1 [vI i1] w1)) (Calls cx.P F.scores_Heap_set #[vP h 0, vI i1, vI x2] w2 (Ret fun v3 w4 => v3 = .tuple #[] ∧ R (.tuple #[]) w4)))) (Calls cx.P F.scores_Heap_set #[vP h 0, vI i1, vI x2] w1 (Ret fun v4 w5 => v4 = .tuple #[] ∧ R (.tuple #[]) w5)))) :
    Calls cx.P F.scores_Heap_up #[vP h 0, vI i] w (Ret R) :=
  calls_of_gFn (C := cx) (an := ⟨[(1, [(1, 3)], [0, 4])], []⟩) (f := F.scores_Heap_up) (fn := Tryz.f156) (args := [vP h 0, vI i]) Tryz.func156 hvc (by kernel_rfl)

theorem vc_scores_Heap_sink (h : Nat) (i : Int) (w : World) (R : Value → World → Prop)
    (hvc : ∃ x1a x1l x1c, Cel w h 2 (vS x1a x1l x1c) ∧ ((0 : Int) ≤ i ∧ i < ((x1l : Nat) : Int)) ∧ pm x1a fun b1 o1 => ∃ x2, Cel w b1 (o1 + ((i).toNat)) (vI x2) ∧ ∃ (I1 : List Value → World → Prop) (μ1 : List Value → World → Nat), I1 [vI i] w ∧ (∀ i1, ∀ w1, I1 [vI i1] w1 → InI (2 * i1) ∧ InI ((2 * i1) + 1) ∧ Dr w1 fun w2 => InI (((2 * i1) + 1) + 1) ∧ ∃ x3a x3l x3c, Cel w2 h 2 (vS x3a x3l x3c) ∧ gif (decide (((2 * i1) + 1) + 1 < (((x3l : Nat) : Int) : Int))) (∃ x4a x4l x4c, Cel w2 h 2 (vS x4a x4l x4c) ∧ InI (((2 * i1) + 1) + 1) ∧ ((0 : Int) ≤ ((2 * i1) + 1) + 1 ∧ ((2 * i1) + 1) + 1 < ((x4l : Nat) : Int)) ∧ pm x4a fun b2 o2 => ∃ x5, Cel w2 b2 (o2 + ((((2 * i1) + 1) + 1).toNat)) (vI x5) ∧ ∃ x6a x6l x6c, Cel w2 h 2 (vS x6a x6l x6c) ∧ ((0 : Int) ≤ (2 * i1) + 1 ∧ (2 * i1) + 1 < ((x6l : Nat) : Int)) ∧ pm x6a fun b3 o3 => ∃ x7, Cel w2 b3 (o3 + (((2 * i1) + 1).toNat)) (vI x7) ∧ Calls cx.P F.scores_Heap_ahead #[vP h 0, vI x5, vI x7] w2 (Ret fun v1 w3 => ∃ r1, v1 = vB r1 ∧ gif r1 (InI (((2 * i1) + 1) + 1) ∧ ∃ x8a x8l x8c, Cel w3 h 2 (vS x8a x8l x8c) ∧ gif (decide (((2 * i1) + 1) + 1 ≥ (((x8l : Nat) : Int) : Int))) (Calls cx.P F.scores_Heap_set #[vP h 0, vI i1, vI x2] w3 (Ret fun v2 w4 => v2 = .tuple #[] ∧ R (.tuple #[]) w4)) (∃ x9a x9l x9c, Cel w3 h 2 (vS x9a x9l x9c) ∧ ((0 : Int) ≤ ((2 * i1) + 1) + 1 ∧ ((2 * i1) + 1) + 1 < ((x9l : Nat) : Int)) ∧ pm x9a fun b4 o4 => ∃ x10, Cel w3 b4 (o4 + ((((2 * i1) + 1) + 1).toNat)) (vI x10) ∧ Calls cx.P F.scores_Heap_ahead #[vP h 0, vI x2, vI x10] w3 (Ret fun v3 w5 => ∃ r2, v3 = vB r2 ∧ gif r2 (Calls cx.P F.scores_Heap_set #[vP h 0, vI i1, vI x2] w5 (Ret fun v4 w6 => v4 = .tuple #[] ∧ R (.tuple #[]) w6)) (∃ x11a x11l x11c, Cel w5 h 2 (vS x11a x11l x11c) ∧ ((0 : Int) ≤ ((2 * i1) + 1) + 1 ∧ ((2 * i1) + 1) + 1 < ((x11l : Nat) : Int)) ∧ pm x11a fun b5 o5 => ∃ x12, Cel w5 b5 (o5 + ((((2 * i1) + 1) + 1).toNat)) (vI x12) ∧ Calls cx.P F.scores_Heap_set #[vP h 0, vI i1, vI x12] w5 (Ret fun v5 w7 => v5 = .tuple #[] ∧ I1 [vI (((2 * i1) + 1) + 1)] w7 ∧ μ1 [vI (((2 * i1) + 1) + 1)] w7 < μ1 [vI i1] w1))))) (∃ x13a x13l x13c, Cel w3 h 2 (vS x13a x13l x13c) ∧ gif (decide ((2 * i1) + 1 ≥ (((x13l : Nat) : Int) : Int))) (Calls cx.P F.scores_Heap_set #[vP h 0, vI i1, vI x2] w3 (Ret fun v6 w8 => v6 = .tuple #[] ∧ R (.tuple #[]) w8)) (∃ x14a x14l x14c, Cel w3 h 2 (vS x14a x14l x14c) ∧ ((0 : Int) ≤ (2 * i1) + 1 ∧ (2 * i1) + 1 < ((x14l : Nat) : Int)) ∧ pm x14a fun b6 o6 => ∃ x15, Cel w3 b6 (o6 + (((2 * i1) + 1).toNat)) (vI x15) ∧ Calls cx.P F.scores_Heap_ahead #[vP h 0, vI x2, vI x15] w3 (Ret fun v7 w9 => ∃ r3, v7 = vB r3 ∧ gif r3 (Calls cx.P F.scores_Heap_set #[vP h 0, vI i1, vI x2] w9 (Ret fun v8 w10 => v8 = .tuple #[] ∧ R (.tuple #[]) w10)) (∃ x16a x16l x16c, Cel w9 h 2 (vS x16a x16l x16c) ∧ ((0 : Int) ≤ (2 * i1) + 1 ∧ (2 * i1) + 1 < ((x16l : Nat) : Int)) ∧ pm x16a fun b7 o7 => ∃ x17, Cel w9 b7 (o7 + (((2 * i1) + 1).toNat)) (vI x17) ∧ Calls cx.P F.scores_Heap_set #[vP h 0, vI i1, vI x17] w9 (Ret fun v9 w11 => v9 = .tuple #[] ∧ I1 [vI ((2 * i1) + 1)] w11 ∧ μ1 [vI ((2 * i1) + 1)] w11 < μ1 [vI i1] w1))))))) (∃ x18a x18l x18c, Cel w2 h 2 (vS x18a x18l x18c) ∧ gif (decide ((2 * i1) + 1 ≥ (((x18l : Nat) : Int) : Int))) (Calls cx.P F.scores_Heap_set #[vP h 0, vI i1, vI x2] w2 (Ret fun v10 w12 => v10 = .tuple #[] ∧ R (.tuple #[]) w12)) (∃ x19a x19l x19c, Cel w2 h 2 (vS x19a x19l x19c) ∧ ((0 : Int) ≤ (2 * i1) + 1 ∧ (2 * i1) + 1 < ((x19l : Nat) : Int)) ∧ pm x19a fun b8 o8 => ∃ x20, Cel w2 b8 (o8 + (((2 * i1) + 1).toNat)) (vI x20) ∧ Calls cx.P F.scores_Heap_ahead #[vP h 0, vI x2, vI x20] w2 (Ret fun v11 w13 => ∃ r4, v11 = vB r4 ∧ gif r4 (Calls cx.P F.scores_Heap_set #[vP h 0, vI i1, vI x2] w13 (Ret fun v12 w14 => v12 = .tuple #[] ∧ R (.tuple #[]) w14)) (∃ x21a x21l x21c, Cel w13 h 2 (vS x21a x21l x21c) ∧ ((0 : Int) ≤ (2 * i1) + 1 ∧ (2 * i1) + 1 < ((x21l : Nat) : Int)) ∧ pm x21a fun b9 o9 => ∃ x22, Cel w13 b9 (o9 + (((2 * i1) + 1).toNat)) (vI x22) ∧ Calls cx.P F.scores_Heap_set #[vP h 0, vI i1, vI x22] w13 (Ret fun v13 w15 => v13 = .tuple #[] ∧ I1 [vI ((2 * i1) + 1)] w15 ∧ μ1 [vI ((2 * i1) + 1)] w15 < μ1 [vI i1] w1))))))) :
    Calls cx.P F.scores_Heap_sink #[vP h 0, vI i] w (Ret R) :=
  calls_of_gFn (C := cx) (an := ⟨[(1, [(1, 3)], [0, 4])], []⟩) (f := F.scores_Heap_sink) (fn := Tryz.f190) (args := [vP h 0, vI i]) Tryz.func190 hvc (by kernel_rfl)

theorem vc_scores_Heap_lower (h : Nat) (w : World) (R : Value → World → Prop)
    (hvc : ∃ x1a x1l x1c, Cel w h 0 (vS x1a x1l x1c) ∧ ∃ (I1 : List Value → World → Prop) (μ1 : List Value → World → Nat), I1 [vI 0] w ∧ (∀ x2, ∀ w1, I1 [vI x2] w1 → gif (decide (x2 < (((x1l : Nat) : Int) : Int))) (∃ x3a x3l x3c, Cel w1 h 0 (vS x3a x3l x3c) ∧ ((0 : Int) ≤ x2 ∧ x2 < ((x3l : Nat) : Int)) ∧ pm x3a fun b1 o1 => ∃ x4, Cel w1 b1 (o1 + ((x2).toNat)) (vI x4) ∧ (0 : Int) ≤ (30 : Int) ∧ ((0 : Int) ≤ x2 ∧ x2 < ((x3l : Nat) : Int)) ∧ pm x3a fun b2 o2 => St w1 b2 (o2 + ((x2).toNat)) [vI (shrI .i64 x4 30)] fun w2 => InI (x2 + 1) ∧ I1 [vI (x2 + 1)] w2 ∧ μ1 [vI (x2 + 1)] w2 < μ1 [vI x2] w1) (∃ x5, Cel w1 h 3 (vI x5) ∧ (0 : Int) ≤ (30 : Int) ∧ St w1 h 3 [vI (iMax (shrI .i64 x5 30) 1)] fun w3 => ∃ x6a x6l x6c, Cel w3 h 2 (vS x6a x6l x6c) ∧ InI (((x6l : Nat) : Int) - 1) ∧ ∃ (I2 : List Value → World → Prop) (μ2 : List Value → World → Nat), I2 [vI (((x6l : Nat) : Int) - 1)] w3 ∧ (∀ i1, ∀ w4, I2 [vI i1] w4 → gif (decide (i1 ≥ (0 : Int))) (Calls cx.P F.scores_Heap_sink #[vP h 0, vI i1] w4 (Ret fun v1 w5 => v1 = .tuple #[] ∧ InI (i1 - 1) ∧ I2 [vI (i1 - 1)] w5 ∧ μ2 [vI (i1 - 1)] w5 < μ2 [vI i1] w4)) (R (.tuple #[]) w4))))) :
    Calls cx.P F.scores_Heap_lower #[vP h 0] w (Ret R) :=
  calls_of_gFn (C := cx) (an := ⟨[(1, [(9, 3)], [0, 8]), (7, [(3, 3)], [0])], []⟩) (f := F.scores_Heap_lower) (fn := Tryz.f160) (args := [vP h 0]) Tryz.func160 hvc (by kernel_rfl)

theorem vc_scores_Heap_Bump (h : Nat) (v : Int) (w : World) (R : Value → World → Prop)
    (hvc : Calls cx.P F.scores_Heap_right #[vP h 0, vI v] w (Ret fun v1 w1 => ∃ r1, v1 = vB r1 ∧ gif (!r1) (R (vB false) w1) (Dr w1 fun w2 => ∃ x1a x1l x1c, Cel w2 h 0 (vS x1a x1l x1c) ∧ ((0 : Int) ≤ v ∧ v < ((x1l : Nat) : Int)) ∧ pm x1a fun b1 o1 => ∃ x2, Cel w2 b1 (o1 + ((v).toNat)) (vI x2) ∧ ∃ x3, Cel w2 h 3 (vI x3) ∧ InI (x2 + x3) ∧ ((0 : Int) ≤ v ∧ v < ((x1l : Nat) : Int)) ∧ pm x1a fun b2 o2 => St w2 b2 (o2 + ((v).toNat)) [vI (x2 + x3)] fun w3 => ∃ x4a x4l x4c, Cel w3 h 1 (vS x4a x4l x4c) ∧ ((0 : Int) ≤ v ∧ v < ((x4l : Nat) : Int)) ∧ pm x4a fun b3 o3 => ∃ x5, Cel w3 b3 (o3 + ((v).toNat)) (vI x5) ∧ gif (decide (x5 ≥ (0 : Int))) (∃ x6a x6l x6c, Cel w3 h 1 (vS x6a x6l x6c) ∧ ((0 : Int) ≤ v ∧ v < ((x6l : Nat) : Int)) ∧ pm x6a fun b4 o4 => ∃ x7, Cel w3 b4 (o4 + ((v).toNat)) (vI x7) ∧ Calls cx.P F.scores_Heap_up #[vP h 0, vI x7] w3 (Ret fun v2 w4 => v2 = .tuple #[] ∧ ∃ x8a x8l x8c, Cel w4 h 0 (vS x8a x8l x8c) ∧ ((0 : Int) ≤ v ∧ v < ((x8l : Nat) : Int)) ∧ pm x8a fun b5 o5 => ∃ x9, Cel w4 b5 (o5 + ((v).toNat)) (vI x9) ∧ gif (decide (x9 > (1125899906842624 : Int))) (Calls cx.P F.scores_Heap_lower #[vP h 0] w4 (Ret fun v3 w5 => v3 = .tuple #[] ∧ R (vB true) w5)) (R (vB true) w4))) (∃ x10a x10l x10c, Cel w3 h 0 (vS x10a x10l x10c) ∧ ((0 : Int) ≤ v ∧ v < ((x10l : Nat) : Int)) ∧ pm x10a fun b6 o6 => ∃ x11, Cel w3 b6 (o6 + ((v).toNat)) (vI x11) ∧ gif (decide (x11 > (1125899906842624 : Int))) (Calls cx.P F.scores_Heap_lower #[vP h 0] w3 (Ret fun v4 w6 => v4 = .tuple #[] ∧ R (vB true) w6)) (R (vB true) w3))))) :
    Calls cx.P F.scores_Heap_Bump #[vP h 0, vI v] w (Ret R) :=
  calls_of_gFn (C := cx) (an := ⟨[], []⟩) (f := F.scores_Heap_Bump) (fn := Tryz.f121) (args := [vP h 0, vI v]) Tryz.func121 hvc (by kernel_rfl)

theorem vc_scores_Heap_Decay (h : Nat) (w : World) (R : Value → World → Prop)
    (hvc : Dr w fun w1 => ∃ x1, Cel w1 h 3 (vI x1) ∧ ∃ x2, Cel w1 h 3 (vI x2) ∧ (15 : Int) ≠ 0 ∧ InI (Int.tdiv x2 15) ∧ InI ((Int.tdiv x2 15) + 1) ∧ InI (x1 + ((Int.tdiv x2 15) + 1)) ∧ St w1 h 3 [vI (x1 + ((Int.tdiv x2 15) + 1))] fun w2 => ∃ x3, Cel w2 h 3 (vI x3) ∧ gif (decide (x3 > (1125899906842624 : Int))) (Calls cx.P F.scores_Heap_lower #[vP h 0] w2 (Ret fun v1 w3 => v1 = .tuple #[] ∧ R (.tuple #[]) w3)) (R (.tuple #[]) w2)) :
    Calls cx.P F.scores_Heap_Decay #[vP h 0] w (Ret R) :=
  calls_of_gFn (C := cx) (an := ⟨[], []⟩) (f := F.scores_Heap_Decay) (fn := Tryz.f122) (args := [vP h 0]) Tryz.func122 hvc (by kernel_rfl)

theorem vc_scores_Heap_First (h : Nat) (w : World) (R : Value → World → Prop)
    (hvc : ∃ x1a x1l x1c, Cel w h 2 (vS x1a x1l x1c) ∧ gif (((x1l : Nat) : Int) == (0 : Int)) (R (.tuple #[vI 0, vB false]) w) (∃ x2a x2l x2c, Cel w h 2 (vS x2a x2l x2c) ∧ ((0 : Int) ≤ 0 ∧ 0 < ((x2l : Nat) : Int)) ∧ pm x2a fun b1 o1 => ∃ x3, Cel w b1 o1 (vI x3) ∧ R (.tuple #[vI x3, vB true]) w)) :
    Calls cx.P F.scores_Heap_First #[vP h 0] w (Ret R) :=
  calls_of_gFn (C := cx) (an := ⟨[], []⟩) (f := F.scores_Heap_First) (fn := Tryz.f189) (args := [vP h 0]) Tryz.func189 hvc (by kernel_rfl)

theorem vc_scores_Heap_Take (h : Nat) (w : World) (R : Value → World → Prop)
    (hvc : Calls cx.P F.scores_Heap_First #[vP h 0] w (Ret fun v1 w1 => ∃ r1 r2, v1 = .tuple #[vI r1, vB r2] ∧ gif (!r2) (R (.tuple #[vI 0, vB false]) w1) (Dr w1 fun w2 => ∃ x1a x1l x1c, Cel w2 h 2 (vS x1a x1l x1c) ∧ ∃ x2a x2l x2c, Cel w2 h 2 (vS x2a x2l x2c) ∧ InI (((x2l : Nat) : Int) - 1) ∧ ((0 : Int) ≤ ((x2l : Nat) : Int) - 1 ∧ ((x2l : Nat) : Int) - 1 < ((x1l : Nat) : Int)) ∧ pm x1a fun b1 o1 => ∃ x3, Cel w2 b1 (o1 + ((((x2l : Nat) : Int) - 1).toNat)) (vI x3) ∧ Dr w2 fun w3 => ∃ x4a x4l x4c, Cel w3 h 2 (vS x4a x4l x4c) ∧ ∃ x5a x5l x5c, Cel w3 h 2 (vS x5a x5l x5c) ∧ InI (((x5l : Nat) : Int) - 1) ∧ ((0 : Int) ≤ ((x5l : Nat) : Int) - 1 ∧ ((x5l : Nat) : Int) - 1 ≤ ((x4c : Nat) : Int)) ∧ St w3 h 2 [vS x4a ((((x5l : Nat) : Int) - 1).toNat) x4c] fun w4 => ∃ x6a x6l x6c, Cel w4 h 2 (vS x6a x6l x6c) ∧ gif (decide (((x6l : Nat) : Int) > (0 : Int))) (Calls cx.P F.scores_Heap_set #[vP h 0, vI 0, vI x3] w4 (Ret fun v2 w5 => v2 = .tuple #[] ∧ Calls cx.P F.scores_Heap_sink #[vP h 0, vI 0] w5 (Ret fun v3 w6 => v3 = .tuple #[] ∧ ∃ x7a x7l x7c, Cel w6 h 1 (vS x7a x7l x7c) ∧ ((0 : Int) ≤ r1 ∧ r1 < ((x7l : Nat) : Int)) ∧ pm x7a fun b2 o2 => St w6 b2 (o2 + ((r1).toNat)) [vI (-1)] fun w7 => R (.tuple #[vI r1, vB true]) w7))) (∃ x8a x8l x8c, Cel w4 h 1 (vS x8a x8l x8c) ∧ ((0 : Int) ≤ r1 ∧ r1 < ((x8l : Nat) : Int)) ∧ pm x8a fun b3 o3 => St w4 b3 (o3 + ((r1).toNat)) [vI (-1)] fun w8 => R (.tuple #[vI r1, vB true]) w8)))) :
    Calls cx.P F.scores_Heap_Take #[vP h 0] w (Ret R) :=
  calls_of_gFn (C := cx) (an := ⟨[], []⟩) (f := F.scores_Heap_Take) (fn := Tryz.f159) (args := [vP h 0]) Tryz.func159 hvc (by kernel_rfl)

theorem vc_scores_Heap_Put (h : Nat) (v : Int) (w : World) (R : Value → World → Prop)
    (hvc : Calls cx.P F.scores_Heap_right #[vP h 0, vI v] w (Ret fun v1 w1 => ∃ r1, v1 = vB r1 ∧ gif (!r1) (R (vB false) w1) (∃ x1a x1l x1c, Cel w1 h 1 (vS x1a x1l x1c) ∧ ((0 : Int) ≤ v ∧ v < ((x1l : Nat) : Int)) ∧ pm x1a fun b1 o1 => ∃ x2, Cel w1 b1 (o1 + ((v).toNat)) (vI x2) ∧ gif (decide (x2 ≥ (0 : Int))) (R (vB false) w1) (∃ x3a x3l x3c, Cel w1 h 2 (vS x3a x3l x3c) ∧ Al w1 [vI v] T.int fun b2 w2 => Rn cx.P (Builtin.append_ #[T.s_int, T.s_int] T.s_int #[vS x3a x3l x3c, vS (aP b2 0) 1 1]) w2 fun v2 w3 => ∃ r2a r2l r2c, v2 = vS r2a r2l r2c ∧ St w3 h 2 [vS r2a r2l r2c] fun w4 => Dr w4 fun w5 => ∃ x4a x4l x4c, Cel w5 h 1 (vS x4a x4l x4c) ∧ ∃ x5a x5l x5c, Cel w5 h 2 (vS x5a x5l x5c) ∧ InI (((x5l : Nat) : Int) - 1) ∧ ((0 : Int) ≤ v ∧ v < ((x4l : Nat) : Int)) ∧ pm x4a fun b3 o3 => St w5 b3 (o3 + ((v).toNat)) [vI (((x5l : Nat) : Int) - 1)] fun w6 => ∃ x6a x6l x6c, Cel w6 h 2 (vS x6a x6l x6c) ∧ InI (((x6l : Nat) : Int) - 1) ∧ Calls cx.P F.scores_Heap_up #[vP h 0, vI (((x6l : Nat) : Int) - 1)] w6 (Ret fun v3 w7 => v3 = .tuple #[] ∧ R (vB true) w7))))) :
    Calls cx.P F.scores_Heap_Put #[vP h 0, vI v] w (Ret R) :=
  calls_of_gFn (C := cx) (an := ⟨[], []⟩) (f := F.scores_Heap_Put) (fn := Tryz.f115) (args := [vP h 0, vI v]) Tryz.func115 hvc (by kernel_rfl)

theorem vc_vmtf_New (vars : Int) (w : World) (R : Value → World → Prop)
    (hvc : InI (vars + 1) ∧ Rn cx.P (Instr.makeSlice T.s_vmtf_link (vI (vars + 1)) (vI (vars + 1))) w fun v1 w1 => ∃ r1a r1l r1c, v1 = vS r1a r1l r1c ∧ Al w1 [vS r1a r1l r1c, vI 0] T.vmtf_Queue fun b1 w2 => ∃ x1a x1l x1c, Cel w2 b1 0 (vS x1a x1l x1c) ∧ ∃ (I1 : List Value → World → Prop) (μ1 : List Value → World → Nat), I1 [vI 0] w2 ∧ (∀ x2, ∀ w3, I1 [vI x2] w3 → gif (decide (x2 < (((x1l : Nat) : Int) : Int))) (Dr w3 fun w4 => ∃ x3a x3l x3c, Cel w4 b1 0 (vS x3a x3l x3c) ∧ ∃ x4a x4l x4c, Cel w4 b1 0 (vS x4a x4l x4c) ∧ InI (x2 - 1) ∧ InI (x2 + 1) ∧ ((0 : Int) ≤ x2 ∧ x2 < ((x3l : Nat) : Int)) ∧ pm x3a fun b2 o2 => St w4 b2 (o2 + ((x2).toNat) * 3) [vI (x2 - 1)] fun w5 => ((0 : Int) ≤ x2 ∧ x2 < ((x4l : Nat) : Int)) ∧ pm x4a fun b3 o3 => St w5 b3 (o3 + ((x2).toNat) * 3 + 1) [vI (x2 + 1)] fun w6 => InI (x2 + 1) ∧ I1 [vI (x2 + 1)] w6 ∧ μ1 [vI (x2 + 1)] w6 < μ1 [vI x2] w3) (Dr w3 fun w7 => ∃ x5a x5l x5c, Cel w7 b1 0 (vS x5a x5l x5c) ∧ ∃ x6a x6l x6c, Cel w7 b1 0 (vS x6a x6l x6c) ∧ ((0 : Int) ≤ 0 ∧ 0 < ((x5l : Nat) : Int)) ∧ pm x5a fun b4 o4 => St w7 b4 o4 [vI vars] fun w8 => ((0 : Int) ≤ vars ∧ vars < ((x6l : Nat) : Int)) ∧ pm x6a fun b5 o5 => St w8 b5 (o5 + ((vars).toNat) * 3 + 1) [vI 0] fun w9 => R (vP b1 0) w9))) :
    Calls cx.P F.vmtf_New #[vI vars] w (Ret R) :=
  calls_of_gFn (C := cx) (an := ⟨[(3, [(15, 3)], [0, 3, 14])], []⟩) (f := F.vmtf_New) (fn := Tryz.f38) (args := [vI vars]) Tryz.func38 hvc (by kernel_rfl)

theorem vc_vmtf_Queue_right (q : Nat) (v : Int) (w : World) (R : Value → World → Prop)
    (hvc : gif (decide (v ≥ (1 : Int))) (∃ x1a x1l x1c, Cel w q 0 (vS x1a x1l x1c) ∧ R (vB (decide (v < (((x1l : Nat) : Int) : Int)))) w) (R (vB false) w)) :
    Calls cx.P F.vmtf_Queue_right #[vP q 0, vI v] w (Ret R) :=
  calls_of_gFn (C := cx) (an := ⟨[], []⟩) (f := F.vmtf_Queue_right) (fn := Tryz.f163) (args := [vP q 0, vI v]) Tryz.func163 hvc (by kernel_rfl)

theorem vc_vmtf_Queue_join (q : Nat) (xp : Int) (y : Int) (w : World) (R : Value → World → Prop)
    (hvc : Dr w fun w1 => ∃ x1a x1l x1c, Cel w1 q 0 (vS x1a x1l x1c) ∧ ∃ x2a x2l x2c, Cel w1 q 0 (vS x2a x2l x2c) ∧ ((0 : Int) ≤ xp ∧ xp < ((x1l : Nat) : Int)) ∧ pm x1a fun b1 o1 => St w1 b1 (o1 + ((xp).toNat) * 3 + 1) [vI y] fun w2 => ((0 : Int) ≤ y ∧ y < ((x2l : Nat) : Int)) ∧ pm x2a fun b2 o2 => St w2 b2 (o2 + ((y).toNat) * 3) [vI xp] fun w3 => R (.tuple #[]) w3) :
    Calls cx.P F.vmtf_Queue_join #[vP q 0, vI xp, vI y] w (Ret R) :=
  calls_of_gFn (C := cx) (an := ⟨[], []⟩) (f := F.vmtf_Queue_join) (fn := Tryz.f164) (args := [vP q 0, vI xp, vI y]) Tryz.func164 hvc (by kernel_rfl)

theorem vc_vmtf_Queue_Bump (q : Nat) (v : Int) (w : World) (R : Value → World → Prop)
    (hvc : Calls cx.P F.vmtf_Queue_right #[vP q 0, vI v] w (Ret fun v1 w1 => ∃ r1, v1 = vB r1 ∧ gif (!r1) (R (vB false) w1) (∃ x1, Cel w1 q 1 (vI x1) ∧ InI (x1 + 1) ∧ St w1 q 1 [vI (x1 + 1)] fun w2 => Dr w2 fun w3 => ∃ x2a x2l x2c, Cel w3 q 0 (vS x2a x2l x2c) ∧ ∃ x3, Cel w3 q 1 (vI x3) ∧ ((0 : Int) ≤ v ∧ v < ((x2l : Nat) : Int)) ∧ pm x2a fun b1 o1 => St w3 b1 (o1 + ((v).toNat) * 3 + 2) [vI x3] fun w4 => Dr w4 fun w5 => ∃ x4a x4l x4c, Cel w5 q 0 (vS x4a x4l x4c) ∧ ((0 : Int) ≤ v ∧ v < ((x4l : Nat) : Int)) ∧ pm x4a fun b2 o2 => ∃ x5, Cel w5 b2 (o2 + ((v).toNat) * 3) (vI x5) ∧ ∃ x6a x6l x6c, Cel w5 q 0 (vS x6a x6l x6c) ∧ ((0 : Int) ≤ v ∧ v < ((x6l : Nat) : Int)) ∧ pm x6a fun b3 o3 => ∃ x7, Cel w5 b3 (o3 + ((v).toNat) * 3 + 1) (vI x7) ∧ Calls cx.P F.vmtf_Queue_join #[vP q 0, vI x5, vI x7] w5 (Ret fun v2 w6 => v2 = .tuple #[] ∧ ∃ x8a x8l x8c, Cel w6 q 0 (vS x8a x8l x8c) ∧ ((0 : Int) ≤ 0 ∧ 0 < ((x8l : Nat) : Int)) ∧ pm x8a fun b4 o4 => ∃ x9, Cel w6 b4 (o4 + 1) (vI x9) ∧ Calls cx.P F.vmtf_Queue_join #[vP q 0, vI v, vI x9] w6 (Ret fun v3 w7 => v3 = .tuple #[] ∧ Calls cx.P F.vmtf_Queue_join #[vP q 0, vI 0, vI v] w7 (Ret fun v4 w8 => v4 = .tuple #[] ∧ R (vB true) w8)))))) :
    Calls cx.P F.vmtf_Queue_Bump #[vP q 0, vI v] w (Ret R) :=
  calls_of_gFn (C := cx) (an := ⟨[], []⟩) (f := F.vmtf_Queue_Bump) (fn := Tryz.f126) (args := [vP q 0, vI v]) Tryz.func126 hvc (by kernel_rfl)

theorem vc_vmtf_Queue_All (q : Nat) (w : World) (R : Value → World → Prop)
    (hvc : Al w [vP q 0] T.p_vmtf_Queue fun b1 w1 => R (.func (.func F.vmtf_Queue_All_1) #[] #[vP b1 0]) w1) :
    Calls cx.P F.vmtf_Queue_All #[vP q 0] w (Ret R) :=
  calls_of_gFn (C := cx) (an := ⟨[], []⟩) (f := F.vmtf_Queue_All) (fn := Tryz.f188) (args := [vP q 0]) Tryz.func188 hvc (by kernel_rfl)

theorem vc_vmtf_Queue_Stamp (q : Nat) (v : Int) (w : World) (R : Value → World → Prop)
    (hvc : Calls cx.P F.vmtf_Queue_right #[vP q 0, vI v] w (Ret fun v1 w1 => ∃ r1, v1 = vB r1 ∧ gif (!r1) (R (vI 0) w1) (∃ x1a x1l x1c, Cel w1 q 0 (vS x1a x1l x1c) ∧ ((0 : Int) ≤ v ∧ v < ((x1l : Nat) : Int)) ∧ pm x1a fun b1 o1 => ∃ x2, Cel w1 b1 (o1 + ((v).toNat) * 3 + 2) (vI x2) ∧ R (vI x2) w1))) :
    Calls cx.P F.vmtf_Queue_Stamp #[vP q 0, vI v] w (Ret R) :=
  calls_of_gFn (C := cx) (an := ⟨[], []⟩) (f := F.vmtf_Queue_Stamp) (fn := Tryz.f125) (args := [vP q 0, vI v]) Tryz.func125 hvc (by kernel_rfl)

theorem vc_vmtf_Queue_All_1 (yield : Nat) (cap0 : Nat) (w : World) (R : Value → World → Prop)
    (hvc : ∃ x1, Cel w cap0 0 (.pointer x1) ∧ pm x1 fun b1 o1 => ∃ x2a x2l x2c, Cel w b1 o1 (vS x2a x2l x2c) ∧ ((0 : Int) ≤ 0 ∧ 0 < ((x2l : Nat) : Int)) ∧ pm x2a fun b2 o2 => ∃ x3, Cel w b2 (o2 + 1) (vI x3) ∧ ∃ (I1 : List Value → World → Prop) (μ1 : List Value → World → Nat), I1 [vI x3] w ∧ (∀ v1, ∀ w1, I1 [vI v1] w1 → gif (v1 != (0 : Int)) (Rnd cx.P yield [vI v1] w1 fun v2 w2 => ∃ r1, v2 = vB r1 ∧ gif (!r1) (R (.tuple #[]) w2) (∃ x4, Cel w2 cap0 0 (.pointer x4) ∧ pm x4 fun b3 o3 => ∃ x5a x5l x5c, Cel w2 b3 o3 (vS x5a x5l x5c) ∧ ((0 : Int) ≤ v1 ∧ v1 < ((x5l : Nat) : Int)) ∧ pm x5a fun b4 o4 => ∃ x6, Cel w2 b4 (o4 + ((v1).toNat) * 3 + 1) (vI x6) ∧ I1 [vI x6] w2 ∧ μ1 [vI x6] w2 < μ1 [vI v1] w1)) (R (.tuple #[]) w1))) :
    Calls cx.P F.vmtf_Queue_All_1 #[.func (.yield yield) #[] #[], vP cap0 0] w (Ret R) :=
  calls_of_gFn (C := cx) (an := ⟨[(1, [(3, 3)], [0, 1])], []⟩) (f := F.vmtf_Queue_All_1) (fn := Tryz.f199) (args := [.func (.yield yield) #[] #[], vP cap0 0]) Tryz.func199 hvc (by kernel_rfl)

theorem vc_search_Search_next_1 (v : Int) (cap0 : Nat) (w : World) (R : Value → World → Prop)
    (hvc : ∃ x1, Cel w cap0 0 (.pointer x1) ∧ pm x1 fun b1 o1 => ∃ x2, Cel w b1 (o1 + 18) (.pointer x2) ∧ Calls cx.P F.trail_Trail_Value #[.pointer x2, vI v] w (Ret fun v1 w1 => ∃ r1, v1 = vI r1 ∧ R (vB (r1 != (0 : Int))) w1)) :
    Calls cx.P F.search_Search_next_1 #[vI v, vP cap0 0] w (Ret R) :=
  calls_of_gFn (C := cx) (an := ⟨[], []⟩) (f := F.search_Search_next_1) (fn := Tryz.f158) (args := [vI v, vP cap0 0]) Tryz.func158 hvc (by kernel_rfl)

end Go.Sv
/- The heap of scores. -/
namespace Go.Sv
open Go Go.Proofs
set_option maxRecDepth 100000

structure Hq where
  score : List Int
  place : List Int
  l : List Int
  rise : Int
def hqL (h : Nat) (Q : Hq) (a1 : Option Addr) (c1 : Nat) (a2 : Option Addr) (c2 : Nat) (a3 : Option Addr) (c3 : Nat) : List HPr :=
  [blk h [vS a1 Q.score.length c1, vS a2 Q.place.length c2, vS a3 Q.l.length c3, vI Q.rise] T.scores_Heap,
   osl T.int 1 a1 Q.score.length c1 (Q.score.map vI), osl T.int 1 a2 Q.place.length c2 (Q.place.map vI), osl T.int 1 a3 Q.l.length c3 (Q.l.map vI)]
def HqR (h : Nat) (Q : Hq) : HPr := fun m => ∃ a1 c1 a2 c2 a3 c3, SatL (hqL h Q a1 c1 a2 c2 a3 c3) m
theorem HqR.op {h : Nat} {Q : Hq} {L : List HPr} {w : World} (H : Holds (HqR h Q :: L) w) : ∃ a1 c1 a2 c2 a3 c3, Holds (hqL h Q a1 c1 a2 c2 a3 c3 ++ L) w := by
  obtain ⟨F, ⟨a1, c1, a2, c2, a3, c3, h⟩, hL⟩ := H
  exact ⟨a1, c1, a2, c2, a3, c3, SatL_app.2 ⟨F, h, hL⟩⟩
theorem HqR.sh {h : Nat} {Q : Hq} {L : List HPr} {w : World} {a1 : Option Addr} {c1 : Nat} {a2 : Option Addr} {c2 : Nat} {a3 : Option Addr} {c3 : Nat} (H : Holds (hqL h Q a1 c1 a2 c2 a3 c3 ++ L) w) : Holds (HqR h Q :: L) w :=
  part_shut (fun _ h => ⟨a1, c1, a2, c2, a3, c3, h⟩) H
def Hq.sc (Q : Hq) (x : Int) : Int := (Q.score[x.toNat]?).getD 0
def Hq.pl (Q : Hq) (x : Int) : Int := (Q.place[x.toNat]?).getD 0
def Hq.at (Q : Hq) (i : Int) : Int := (Q.l[i.toNat]?).getD 0
def Hq.ahead (Q : Hq) (x y : Int) : Bool := decide (Q.sc x > Q.sc y) || (Q.sc x == Q.sc y && decide (x < y))
/-- An element of a list of whole numbers. -/
theorem celI {L : List HPr} {w : World} (H : Holds L w) {b o l c : Nat} {xs : List Int} (j : Nat) (hj : L[j]? = some (osl T.int 1 (aP b o) l c (xs.map vI))) {i : Int} (h0 : 0 ≤ i) (h1 : i < (xs.length : Int)) : Cel w b (o + i.toNat) (vI ((xs[i.toNat]?).getD 0)) := by
  refine oc H j hj ?_
  obtain ⟨x, hx⟩ := lt_get (l := xs) (i := i.toNat) (by omega)
  rw [map_get vI hx, hx]; rfl
theorem setI {L : List HPr} {w : World} (H : Holds L w) {b o c : Nat} {xs : List Int} (j : Nat) (hj : L[j]? = some (osl T.int 1 (aP b o) xs.length c (xs.map vI))) {i v : Int} (h0 : 0 ≤ i) (h1 : i < (xs.length : Int)) {K : World → Prop}
    (hK : ∀ w1, Holds (L.set j (osl T.int 1 (aP b o) (xs.set i.toNat v).length c ((xs.set i.toNat v).map vI))) w1 → K w1) : St w b (o + i.toNat) [vI v] K := by
  refine ost H j hj rfl (by simp; omega) fun w1 H => hK w1 (H.cast ?_)
  rw [map_set vI, List.length_set]
theorem k_ahead {L : List HPr} {w : World} {h : Nat} {Q : Hq} (H : Holds (HqR h Q :: L) w) {x y : Int} (hx : 0 ≤ x) (hx2 : x < (Q.score.length : Int)) (hy : 0 ≤ y) (hy2 : y < (Q.score.length : Int)) :
    Calls cx.P F.scores_Heap_ahead #[vP h 0, vI x, vI y] w (Ret fun v w' => v = vB (Q.ahead x y) ∧ Holds (HqR h Q :: L) w') := by
  apply vc_scores_Heap_ahead
  obtain ⟨a1, c1, a2, c2, a3, c3, H⟩ := HqR.op H
  obtain ⟨b, o, rfl⟩ := osl_ptr H 1 rfl (by omega)
  unfold Hq.ahead Hq.sc
  refine dr H fun w1 H => ⟨_, _, _, cel H 0 rfl rfl, ⟨hx, hx2⟩, pm_i ⟨_, celI H 1 rfl hx hx2, _, _, _, cel H 0 rfl rfl, ⟨hy, hy2⟩, pm_i ⟨_, celI H 1 rfl hy hy2, gif_i (fun h => ?_) (fun h => ⟨_, _, _, cel H 0 rfl rfl, ⟨hx, hx2⟩, pm_i ⟨_, celI H 1 rfl hx hx2, _, _, _, cel H 0 rfl rfl, ⟨hy, hy2⟩, pm_i ⟨_, celI H 1 rfl hy hy2, gif_i (fun h2 => ?_) (fun h2 => ?_)⟩⟩⟩)⟩⟩⟩
  · exact ⟨by rw [h]; rfl, HqR.sh H⟩
  · exact ⟨by rw [h, h2]; rfl, HqR.sh H⟩
  · exact ⟨by rw [h, h2]; rfl, HqR.sh H⟩
def Hq.set (Q : Hq) (i v : Int) : Hq := { Q with l := Q.l.set i.toNat v, place := Q.place.set v.toNat i }
theorem k_hset {L : List HPr} {w : World} {h : Nat} {Q : Hq} (H : Holds (HqR h Q :: L) w) {i v : Int} (hi : 0 ≤ i) (hi2 : i < (Q.l.length : Int)) (hv : 0 ≤ v) (hv2 : v < (Q.place.length : Int)) :
    Calls cx.P F.scores_Heap_set #[vP h 0, vI i, vI v] w (Ret fun r w' => r = .tuple #[] ∧ Holds (HqR h (Q.set i v) :: L) w') := by
  apply vc_scores_Heap_set
  obtain ⟨a1, c1, a2, c2, a3, c3, H⟩ := HqR.op H
  obtain ⟨b, o, rfl⟩ := osl_ptr H 3 rfl (by omega)
  obtain ⟨b2, o2, rfl⟩ := osl_ptr H 2 rfl (by omega)
  refine dr H fun w1 H => ⟨_, _, _, cel H 0 rfl rfl, _, _, _, cel H 0 rfl rfl, ⟨hi, hi2⟩, pm_i (setI H 3 rfl hi hi2 fun w2 H => ⟨⟨hv, hv2⟩, pm_i (setI H 2 rfl hv hv2 fun w3 H => ⟨rfl, ?_⟩)⟩)⟩
  refine HqR.sh (a1 := a1) (c1 := c1) (a2 := aP b2 o2) (c2 := c2) (a3 := aP b o) (c3 := c3) (H.cast ?_)
  simp [hqL, Hq.set]
structure Hq.Sm (Q : Hq) : Prop where
  n : Q.score.length ≤ 200000
  p : Q.place.length = Q.score.length
  l : Q.l.length ≤ 200000
  r : ∀ v ∈ Q.l, 1 ≤ v ∧ v < (Q.score.length : Int)
theorem Hq.Sm.at {Q : Hq} (h : Q.Sm) {i : Int} (h0 : 0 ≤ i) (h1 : i < (Q.l.length : Int)) : 1 ≤ Q.at i ∧ Q.at i < (Q.score.length : Int) := by
  unfold Hq.at
  obtain ⟨x, hx⟩ := lt_get (l := Q.l) (i := i.toNat) (by omega)
  rw [hx]; exact h.r x (List.mem_of_getElem? hx)
theorem Hq.Sm.set {Q : Hq} (h : Q.Sm) {i v : Int} (hv : 1 ≤ v) (hv2 : v < (Q.score.length : Int)) : (Q.set i v).Sm := by
  refine ⟨h.n, by unfold Hq.set; simp only [List.length_set]; exact h.p, by unfold Hq.set; simp only [List.length_set]; exact h.l, fun x hx => ?_⟩
  rcases List.mem_or_eq_of_mem_set hx with hx | hx
  · exact h.r x hx
  · subst hx; exact ⟨hv, hv2⟩
def Hq.kid (Q : Hq) (i : Int) : Int := if 2 * i + 1 + 1 < Q.l.length ∧ Q.ahead (Q.at (2 * i + 1 + 1)) (Q.at (2 * i + 1)) = true then 2 * i + 1 + 1 else 2 * i + 1
def sinkGo : Nat → Hq → Int → Int → Hq
  | 0, Q, i, v => Q.set i v
  | k + 1, Q, i, v => if Q.kid i ≥ Q.l.length ∨ Q.ahead v (Q.at (Q.kid i)) = true then Q.set i v else sinkGo k (Q.set i (Q.at (Q.kid i))) (Q.kid i) v
def Hq.sink (Q : Hq) (i : Int) : Hq := sinkGo Q.l.length Q i (Q.at i)
theorem k_sink {L : List HPr} {w : World} {h : Nat} {Q : Hq} (H : Holds (HqR h Q :: L) w) (hs : Q.Sm) {i : Int} (hi : 0 ≤ i) (hi2 : i < (Q.l.length : Int)) :
    Calls cx.P F.scores_Heap_sink #[vP h 0, vI i] w (Ret fun r w' => r = .tuple #[] ∧ Holds (HqR h (Q.sink i) :: L) w') := by
  apply vc_scores_Heap_sink
  have hv := hs.at hi hi2
  obtain ⟨a1, c1, a2, c2, a3, c3, H'⟩ := HqR.op H
  obtain ⟨b, o, rfl⟩ := osl_ptr H' 3 rfl (by omega)
  refine ⟨_, _, _, cel H' 0 rfl rfl, ⟨hi, hi2⟩, pm_i ⟨Q.at i, celI H' 3 rfl hi hi2, ?_⟩⟩
  unfold Hq.sink
  generalize hR : sinkGo Q.l.length Q i (Q.at i) = R
  generalize Q.at i = v at *
  refine ⟨fun vs w => ∃ (k : Nat) (i1 : Int) (Q1 : Hq), vs = [vI i1] ∧ 0 ≤ i1 ∧ i1 < Q.l.length ∧ (Q.l.length : Int) ≤ k + i1 ∧ Q1.Sm ∧ Q1.l.length = Q.l.length ∧ Q1.score = Q.score ∧ sinkGo k Q1 i1 v = R ∧ Holds (HqR h Q1 :: L) w, fun vs _ => (match vs with | [.int _ j] => (Q.l.length : Int) - j | _ => 0).toNat,
    ⟨Q.l.length, i, Q, rfl, hi, hi2, by omega, hs, rfl, rfl, hR, H⟩, ?_⟩
  rintro i1 w1 ⟨k, j1, Q1, hvs, h0, h1, hk, s1, l1, sc1, hg, H⟩
  simp only [List.cons.injEq, Value.int.injEq, true_and, and_true] at hvs
  subst hvs
  have hll := hs.l
  obtain ⟨k, rfl⟩ : ∃ k', k = k' + 1 := ⟨k - 1, by omega⟩
  have hg : (if Q1.kid i1 ≥ Q1.l.length ∨ Q1.ahead v (Q1.at (Q1.kid i1)) = true then Q1.set i1 v else sinkGo k (Q1.set i1 (Q1.at (Q1.kid i1))) (Q1.kid i1) v) = R := hg
  have vsc : v < (Q1.score.length : Int) := by rw [sc1]; exact hv.2
  have vpl : v < (Q1.place.length : Int) := by rw [s1.p]; exact vsc
  have rd : ∀ {w2 : World} (j : Int), 0 ≤ j → j < (Q1.l.length : Int) → Holds (HqR h Q1 :: L) w2 → ∃ xa xl xc, Cel w2 h 2 (vS xa xl xc) ∧ ((0 : Int) ≤ j ∧ j < ((xl : Nat) : Int)) ∧ pm xa fun b3 o3 => Cel w2 b3 (o3 + j.toNat) (vI (Q1.at j)) := by
    intro w2 j hj hj2 H
    obtain ⟨a1, c1, a2, c2, a3, c3, H⟩ := HqR.op H
    obtain ⟨b, o, rfl⟩ := osl_ptr H 3 rfl (by omega)
    exact ⟨_, _, _, cel H 0 rfl rfl, ⟨hj, hj2⟩, pm_i (celI H 3 rfl hj hj2)⟩
  have ln : ∀ {w2 : World}, Holds (HqR h Q1 :: L) w2 → ∃ xa xc, Cel w2 h 2 (vS xa Q1.l.length xc) := by
    intro w2 H
    obtain ⟨a1, c1, a2, c2, a3, c3, H⟩ := HqR.op H
    exact ⟨_, _, cel H 0 rfl rfl⟩
  -- what is done once the child is known
  have rest : ∀ (c : Int) (w3 : World), c = Q1.kid i1 → i1 < c → 0 ≤ c → c ≤ 2 * i1 + 2 → Holds (HqR h Q1 :: L) w3 →
      ∃ xa xl xc, Cel w3 h 2 (vS xa xl xc) ∧ gif (decide (c ≥ (((xl : Nat) : Int) : Int))) (Calls cx.P F.scores_Heap_set #[vP h 0, vI i1, vI v] w3 (Ret fun v2 w4 => v2 = .tuple #[] ∧ (Value.tuple #[] = .tuple #[] ∧ Holds (HqR h R :: L) w4)))
        (∃ x9a x9l x9c, Cel w3 h 2 (vS x9a x9l x9c) ∧ ((0 : Int) ≤ c ∧ c < ((x9l : Nat) : Int)) ∧ pm x9a fun b4 o4 => ∃ x10, Cel w3 b4 (o4 + c.toNat) (vI x10) ∧ Calls cx.P F.scores_Heap_ahead #[vP h 0, vI v, vI x10] w3 (Ret fun v3 w5 => ∃ r2, v3 = vB r2 ∧ gif r2 (Calls cx.P F.scores_Heap_set #[vP h 0, vI i1, vI v] w5 (Ret fun v4 w6 => v4 = .tuple #[] ∧ (Value.tuple #[] = .tuple #[] ∧ Holds (HqR h R :: L) w6)))
          (∃ x11a x11l x11c, Cel w5 h 2 (vS x11a x11l x11c) ∧ ((0 : Int) ≤ c ∧ c < ((x11l : Nat) : Int)) ∧ pm x11a fun b5 o5 => ∃ x12, Cel w5 b5 (o5 + c.toNat) (vI x12) ∧ Calls cx.P F.scores_Heap_set #[vP h 0, vI i1, vI x12] w5 (Ret fun v5 w7 => v5 = .tuple #[] ∧ (∃ (k : Nat) (i1 : Int) (Q1 : Hq), [vI c] = [vI i1] ∧ 0 ≤ i1 ∧ i1 < Q.l.length ∧ (Q.l.length : Int) ≤ k + i1 ∧ Q1.Sm ∧ Q1.l.length = Q.l.length ∧ Q1.score = Q.score ∧ sinkGo k Q1 i1 v = R ∧ Holds (HqR h Q1 :: L) w7) ∧ ((Q.l.length : Int) - c).toNat < ((Q.l.length : Int) - i1).toNat)))) := by
    intro c w3 hc hic hc0 hc2 H
    obtain ⟨xa, xc, hl⟩ := ln H
    refine ⟨xa, _, xc, hl, gif_i (fun hge => ?_) (fun hge => ?_)⟩
    · have hge' := of_decide_eq_true hge
      rw [if_pos (.inl (by rw [← hc]; exact hge'))] at hg
      refine Calls.ret (k_hset H h0 (by omega) (by omega) vpl) ?_
      rintro _ w4 ⟨rfl, H⟩
      exact ⟨rfl, rfl, hg ▸ H⟩
    · have hge' := of_decide_eq_false hge
      have hcl : c < (Q1.l.length : Int) := by omega
      obtain ⟨ya, yl, yc, g1, g2, g3⟩ := rd c hc0 hcl H
      obtain ⟨b4, o4, rfl, g3⟩ := pm_some g3
      have cat := s1.at hc0 hcl
      refine ⟨_, yl, yc, g1, g2, pm_i ⟨_, g3, Calls.ret (k_ahead H (by omega) vsc (by omega) cat.2) ?_⟩⟩
      rintro _ w5 ⟨rfl, H⟩
      refine ⟨_, rfl, gif_i (fun ha => ?_) (fun ha => ?_)⟩
      · rw [if_pos (.inr (by rw [← hc]; exact ha))] at hg
        refine Calls.ret (k_hset H h0 (by omega) (by omega) vpl) ?_
        rintro _ w6 ⟨rfl, H⟩
        exact ⟨rfl, rfl, hg ▸ H⟩
      · rw [if_neg (by rw [← hc]; simp only [not_or]; exact ⟨by omega, by rw [ha]; simp⟩), ← hc] at hg
        obtain ⟨ya, yl, yc, g1, g2, g3⟩ := rd c hc0 hcl H
        obtain ⟨b4, o4, rfl, g3⟩ := pm_some g3
        refine ⟨_, yl, yc, g1, g2, pm_i ⟨_, g3, Calls.ret (k_hset H h0 (by omega) (by omega) (by rw [s1.p]; exact cat.2)) ?_⟩⟩
        rintro _ w7 ⟨rfl, H⟩
        exact ⟨rfl, ⟨k, c, _, rfl, hc0, by omega, by omega, s1.set cat.1 cat.2, by unfold Hq.set; simp only [List.length_set]; exact l1, sc1, hg, H⟩, by omega⟩
  refine ⟨by unfold InI; omega, by unfold InI; omega, dr H fun w2 H => ⟨by unfold InI; omega, ?_⟩⟩
  obtain ⟨xa, xc, hl⟩ := ln H
  refine ⟨xa, _, xc, hl, gif_i (fun hlt => ?_) (fun hlt => ?_)⟩
  · have hlt' := of_decide_eq_true hlt
    obtain ⟨ya, yl, yc, g1, g2, g3⟩ := rd (2 * i1 + 1 + 1) (by omega) (by omega) H
    obtain ⟨b4, o4, rfl, g3⟩ := pm_some g3
    obtain ⟨za, zl, zc, e1, e2, e3⟩ := rd (2 * i1 + 1) (by omega) (by omega) H
    obtain ⟨b5, o5, rfl, e3⟩ := pm_some e3
    have cat := s1.at (i := 2 * i1 + 1 + 1) (by omega) (by omega)
    have cat2 := s1.at (i := 2 * i1 + 1) (by omega) (by omega)
    refine ⟨_, yl, yc, g1, by unfold InI; omega, g2, pm_i ⟨_, g3, _, zl, zc, e1, e2, pm_i ⟨_, e3, Calls.ret (k_ahead H (by omega) cat.2 (by omega) cat2.2) ?_⟩⟩⟩
    rintro _ w3 ⟨rfl, H⟩
    refine ⟨_, rfl, gif_i (fun ha => ⟨by unfold InI; omega, rest _ w3 ?_ (by omega) (by omega) (by omega) H⟩) (fun ha => rest _ w3 ?_ (by omega) (by omega) (by omega) H)⟩
    · unfold Hq.kid; rw [if_pos ⟨hlt', ha⟩]
    · unfold Hq.kid; rw [if_neg (by rw [ha]; simp)]
  · have hlt' := of_decide_eq_false hlt
    refine rest _ w2 ?_ (by omega) (by omega) (by omega) H
    unfold Hq.kid; rw [if_neg (fun h => hlt' h.1)]

theorem k_hright {L : List HPr} {w : World} {h : Nat} {Q : Hq} (H : Holds (HqR h Q :: L) w) (v : Int) :
    Calls cx.P F.scores_Heap_right #[vP h 0, vI v] w (Ret fun r w' => r = vB (decide (1 ≤ v) && decide (v < (Q.score.length : Int))) ∧ Holds (HqR h Q :: L) w') := by
  apply vc_scores_Heap_right
  obtain ⟨a1, c1, a2, c2, a3, c3, H⟩ := HqR.op H
  refine gif_i (fun h => ⟨_, _, _, cel H 0 rfl rfl, ?_, HqR.sh H⟩) (fun h => ⟨?_, HqR.sh H⟩)
  · have h' : decide (1 ≤ v) = true := h
    rw [h']; rfl
  · have h' : decide (1 ≤ v) = false := h
    rw [h']; rfl
theorem k_First {L : List HPr} {w : World} {h : Nat} {Q : Hq} (H : Holds (HqR h Q :: L) w) :
    Calls cx.P F.scores_Heap_First #[vP h 0] w (Ret fun r w' => r = (match Q.l with | [] => .tuple #[vI 0, vB false] | v :: _ => .tuple #[vI v, vB true]) ∧ Holds (HqR h Q :: L) w') := by
  apply vc_scores_Heap_First
  obtain ⟨a1, c1, a2, c2, a3, c3, H⟩ := HqR.op H
  refine ⟨_, _, _, cel H 0 rfl rfl, gif_i (fun h => ?_) (fun h => ?_)⟩
  · have h' : Q.l.length = 0 := by have := eq_of_beq h; omega
    have e : Q.l = [] := List.eq_nil_of_length_eq_zero h'
    rw [e]; exact ⟨rfl, HqR.sh H⟩
  · have h' : Q.l.length ≠ 0 := by have := h; simp at this; intro e; exact this (List.eq_nil_of_length_eq_zero e)
    obtain ⟨v, l, hl⟩ : ∃ v l, Q.l = v :: l := by
      cases hq : Q.l with
      | nil => rw [hq] at h'; simp at h'
      | cons v l => exact ⟨v, l, rfl⟩
    obtain ⟨b, o, rfl⟩ := osl_ptr H 3 rfl (by omega)
    have hc : Cel w b (o + (0 : Int).toNat) (vI ((Q.l[(0 : Int).toNat]?).getD 0)) := celI H 3 rfl (Int.le_refl _) (by omega)
    refine ⟨_, _, _, cel H 0 rfl rfl, ⟨by omega, by omega⟩, pm_i ⟨_, hc, ?_, HqR.sh H⟩⟩
    rw [hl]; rfl
/-- The first is taken. -/
def Hq.cut (Q : Hq) : Hq := { Q with l := Q.l.take (Q.l.length - 1) }
def Hq.sift (Q : Hq) (last : Int) : Hq := if Q.l.length > 0 then (Q.set 0 last).sink 0 else Q
def Hq.gone (Q : Hq) (v : Int) : Hq := { Q with place := Q.place.set v.toNat (-1) }
def Hq.take (Q : Hq) : Hq := match Q.l with
  | [] => Q
  | v :: _ => (Q.cut.sift (Q.at ((Q.l.length : Int) - 1))).gone v
def Hq.top (Q : Hq) : Value := match Q.l with
  | [] => .tuple #[vI 0, vB false]
  | v :: _ => .tuple #[vI v, vB true]
theorem list_cases {α : Type} (l : List α) : l = [] ∨ ∃ x xs, l = x :: xs := by
  cases l with
  | nil => exact .inl rfl
  | cons x xs => exact .inr ⟨x, xs, rfl⟩
theorem sinkGo_len : ∀ (k : Nat) (Q : Hq) (i v : Int), (sinkGo k Q i v).l.length = Q.l.length ∧ (sinkGo k Q i v).place.length = Q.place.length ∧ (sinkGo k Q i v).score = Q.score
  | 0, Q, i, v => by simp [sinkGo, Hq.set]
  | k + 1, Q, i, v => by
    unfold sinkGo
    split
    · simp [Hq.set]
    · have := sinkGo_len k (Q.set i (Q.at (Q.kid i))) (Q.kid i) v
      simp [Hq.set] at this ⊢; exact this
theorem k_Take {L : List HPr} {w : World} {h : Nat} {Q : Hq} (H : Holds (HqR h Q :: L) w) (hs : Q.Sm) :
    Calls cx.P F.scores_Heap_Take #[vP h 0] w (Ret fun r w' => r = Q.top ∧ Holds (HqR h Q.take :: L) w') := by
  apply vc_scores_Heap_Take
  have hsl := hs.l
  refine Calls.ret (k_First H) ?_
  rintro _ w1 ⟨rfl, H⟩
  rcases list_cases Q.l with hl | ⟨v, l, hl⟩
  · have e1 : Q.top = .tuple #[vI 0, vB false] := by unfold Hq.top; rw [hl]
    have e2 : Q.take = Q := by unfold Hq.take; rw [hl]
    rw [e1, e2, hl]
    exact ⟨0, false, rfl, rfl, H⟩
  · have e1 : Q.top = .tuple #[vI v, vB true] := by unfold Hq.top; rw [hl]
    have e2 : Q.take = (Q.cut.sift (Q.at ((Q.l.length : Int) - 1))).gone v := by unfold Hq.take; rw [hl]
    have e3 : (match Q.l with | [] => (.tuple #[vI 0, vB false] : Value) | v :: _ => .tuple #[vI v, vB true]) = .tuple #[vI v, vB true] := by rw [hl]
    rw [e1, e2, e3]
    have hlen : Q.l.length = l.length + 1 := by rw [hl]; rfl
    have hv := hs.r v (by rw [hl]; exact List.mem_cons_self ..)
    refine ⟨v, true, rfl, ?_⟩
    obtain ⟨a1, c1, a2, c2, a3, c3, H⟩ := HqR.op H
    obtain ⟨b, o, rfl⟩ := osl_ptr H 3 rfl (by omega)
    have hcap := osl_cap H 3 rfl
    have e0 : ((Q.l.length : Int) - 1).toNat = Q.l.length - 1 := by omega
    refine dr H fun w2 H => ⟨_, _, _, cel H 0 rfl rfl, _, _, _, cel H 0 rfl rfl, by unfold InI; omega, ⟨by omega, by omega⟩, pm_i ⟨Q.at ((Q.l.length : Int) - 1), celI H 3 rfl (by omega) (by omega), dr H fun w3 H => ⟨_, _, _, cel H 0 rfl rfl, _, _, _, cel H 0 rfl rfl, by unfold InI; omega, ⟨by omega, by omega⟩, st H 0 rfl rfl (by simp) fun w4 H => ?_⟩⟩⟩
    rw [e0] at H
    have hat := hs.at (i := (Q.l.length : Int) - 1) (by omega) (by omega)
    generalize Q.at ((Q.l.length : Int) - 1) = last at *
    have H := H.set 3 rfl fun m hm => isl_take (Q.l.length - 1) (by omega) hm
    have q1l : Q.cut.l = Q.l.take (Q.l.length - 1) := rfl
    have q1n : Q.cut.l.length = Q.l.length - 1 := by rw [q1l, List.length_take]; omega
    have q1s : Q.cut.score = Q.score := rfl
    have q1p : Q.cut.place = Q.place := rfl
    have H : Holds (hqL h Q.cut a1 c1 a2 c2 (aP b o) c3 ++ L) w4 := H.cast (by
      have : min (Q.l.length - 1) Q.l.length = Q.l.length - 1 := by omega
      simp [hqL, setL, List.map_take, this, Hq.cut])
    have s1 : Q.cut.Sm := ⟨hs.n, hs.p, by omega, fun x hx => hs.r x (List.mem_of_mem_take hx)⟩
    generalize Q.cut = Q1 at *
    have last_ : ∀ (Q2 : Hq) (w6 : World), Q2.place.length = Q.place.length → Holds (HqR h Q2 :: L) w6 → ∃ x7a x7l x7c, Cel w6 h 1 (vS x7a x7l x7c) ∧ ((0 : Int) ≤ v ∧ v < ((x7l : Nat) : Int)) ∧ pm x7a fun b2 o2 => St w6 b2 (o2 + v.toNat) [vI (-1)] fun w7 => (Value.tuple #[vI v, vB true] = .tuple #[vI v, vB true] ∧ Holds (HqR h (Q2.gone v) :: L) w7) := by
      intro Q2 w6 hp H
      obtain ⟨a1, c1, a2, c2, a3, c3, H⟩ := HqR.op H
      have := hs.p
      obtain ⟨b, o, rfl⟩ := osl_ptr H 2 rfl (by omega)
      refine ⟨_, _, _, cel H 0 rfl rfl, ⟨by omega, by omega⟩, pm_i (setI H 2 rfl (by omega) (by omega) fun w7 H => ⟨rfl, ?_⟩)⟩
      refine HqR.sh (a1 := a1) (c1 := c1) (a2 := aP b o) (c2 := c2) (a3 := a3) (c3 := c3) (H.cast ?_)
      simp [hqL, Hq.gone]
    unfold Hq.sift
    refine ⟨_, _, _, cel H 0 rfl rfl, gif_i (fun h0 => ?_) (fun h0 => ?_)⟩
    · have h0' : Q1.l.length > 0 := by have := of_decide_eq_true h0; omega
      rw [if_pos h0']
      refine Calls.ret (k_hset (HqR.sh H) (Int.le_refl _) (by omega) (by omega) (by rw [s1.p, q1s]; exact hat.2)) ?_
      rintro _ w5 ⟨rfl, H⟩
      have s2 := s1.set (i := 0) hat.1 (by rw [q1s]; exact hat.2)
      refine ⟨rfl, Calls.ret (k_sink H s2 (Int.le_refl _) (by unfold Hq.set; simp only [List.length_set]; omega)) ?_⟩
      rintro _ w6 ⟨rfl, H⟩
      refine ⟨rfl, last_ _ w6 ?_ H⟩
      unfold Hq.sink
      rw [(sinkGo_len _ _ _ _).2.1]
      unfold Hq.set
      simp only [List.length_set]; rw [q1p]
    · have h0' : ¬ Q1.l.length > 0 := by have := of_decide_eq_false h0; omega
      rw [if_neg h0']
      exact last_ _ w4 (by rw [q1p]) (HqR.sh H)

/-! ### a new heap -/
def hnew (n : Nat) : Nat → Hq
  | 0 => ⟨List.replicate (n + 1) 0, List.replicate (n + 1) 0, [], 1048576⟩
  | k + 1 => { hnew n k with place := (hnew n k).place.set (k + 1) ((hnew n k).l.length : Int), l := (hnew n k).l ++ [((k + 1 : Nat) : Int)] }
def Hq.new (n : Nat) : Hq := hnew n n
theorem hnew_len (n : Nat) : ∀ k, (hnew n k).score.length = n + 1 ∧ (hnew n k).place.length = n + 1 ∧ (hnew n k).l.length = k ∧ (hnew n k).score = List.replicate (n + 1) 0 ∧ (hnew n k).rise = 1048576
  | 0 => by simp [hnew]
  | k + 1 => by
    have := hnew_len n k
    simp [hnew]; omega
theorem hnew_mem (n : Nat) : ∀ k, ∀ v ∈ (hnew n k).l, 1 ≤ v ∧ v ≤ (k : Int)
  | 0, v, h => by simp [hnew] at h
  | k + 1, v, h => by
    simp only [hnew, List.mem_append, List.mem_singleton] at h
    rcases h with h | h
    · have := hnew_mem n k v h; omega
    · omega
theorem hnew_sm {n : Nat} (hn : n ≤ 100000) : (Hq.new n).Sm := by
  have := hnew_len n n
  have hm := hnew_mem n n
  unfold Hq.new
  refine ⟨by omega, by omega, by omega, fun v hv => ?_⟩
  have := hm v hv
  omega
theorem k_scores_New {L : List HPr} {w : World} (H : Holds L w) {n : Nat} (hn : n ≤ 100000) :
    Calls cx.P F.scores_New #[vI (n : Int)] w (Ret fun v w' => ∃ h, v = vP h 0 ∧ Holds (HqR h (Hq.new n) :: L) w') := by
  apply vc_scores_New
  have e0 : ((n : Int) + 1).toNat = n + 1 := by omega
  refine dr H fun w1 H => ⟨by unfold InI; omega, by unfold InI; omega, ?o1, ?o2⟩
  all_goals
    refine omk slInt H (by omega) (Int.le_refl _) (by omega) (by omega) fun a1 w2 H => ⟨_, _, _, rfl, ?_⟩
    refine omk slInt H (by omega) (Int.le_refl _) (by omega) (by omega) fun a2 w3 H => ⟨_, _, _, rfl, al H fun h w4 H => ?_⟩
    rw [e0] at H
    have er : repL (n + 1) [vI 0] = (List.replicate (n + 1) (0 : Int)).map vI := by simp [repL, List.flatten_replicate_singleton]
    rw [er] at H
  case' o1 =>
    have H := osl_nil T.int 1 H
    have H : Holds (hqL h (hnew n 0) a1 (n + 1) a2 (n + 1) none 0 ++ L) w4 := ((((H.pick 0 rfl).pick 2 rfl).pick 3 rfl).pick 3 rfl).cast (by simp [hqL, hnew])
  case' o2 =>
    have H := osl_nil T.int 1 H
    have H : Holds (hqL h (hnew n 0) a2 (n + 1) a1 (n + 1) none 0 ++ L) w4 := ((((H.pick 0 rfl).pick 3 rfl).pick 3 rfl).pick 3 rfl).cast (by simp [hqL, hnew])
  all_goals
    refine ⟨fun vs w => ∃ k : Nat, vs = [vI ((k : Int) + 1)] ∧ k ≤ n ∧ Holds (HqR h (hnew n k) :: L) w, fun vs _ => (match vs with | [.int _ j] => (n : Int) + 1 - j | _ => 0).toNat, ⟨0, rfl, Nat.zero_le _, HqR.sh H⟩, ?_⟩
    rintro v w5 ⟨k, hv, hk, H⟩
    simp only [List.cons.injEq, Value.int.injEq, true_and, and_true] at hv
    subst hv
    have hl := hnew_len n k
    obtain ⟨b1, d1, b2, d2, b3, d3, H⟩ := HqR.op H
    refine gif_i (fun h => ?_) (fun h => ?_)
    · have h' : k < n := by have := of_decide_eq_true h; omega
      obtain ⟨b, o, rfl⟩ := osl_ptr H 2 rfl (by omega)
      refine dr H fun w6 H => ⟨_, _, _, cel H 0 rfl rfl, _, _, _, cel H 0 rfl rfl, ⟨by omega, by omega⟩, pm_i (setI H 2 rfl (by omega) (by omega) fun w7 H => ⟨_, _, _, cel H 0 rfl rfl, al H fun b6 w8 H => ?_⟩)⟩
      refine oap slInt H 4 rfl (asrc_blk slInt H 0 rfl rfl rfl) (by omega) (by omega) fun a' c' w9 H => ⟨_, _, _, rfl, st H 1 rfl rfl (by simp) fun w10 H => ⟨by unfold InI; omega, ⟨k + 1, by rw [show ((k + 1 : Nat) : Int) = (k : Int) + 1 by omega], h', ?_⟩, by simp only; omega⟩⟩
      refine HqR.sh (a1 := b1) (c1 := d1) (a2 := aP b o) (c2 := d2) (a3 := a') (c3 := c') (H.tail.cast ?_)
      have e1 : ((k : Int) + 1).toNat = k + 1 := by omega
      simp [hqL, setL, hnew, e1]
    · have h' : ¬ k < n := by have := of_decide_eq_false h; omega
      have : k = n := by omega
      subst this
      exact ⟨_, rfl, HqR.sh H⟩
end Go.Sv
/- Back into the heap. -/
namespace Go.Sv
open Go Go.Proofs
set_option maxRecDepth 100000

def par (i : Int) : Int := Int.tdiv (i - 1) 2
theorem par_lt {i : Int} (h : 0 < i) : 0 ≤ par i ∧ par i < i := by
  unfold par
  rw [Int.tdiv_eq_ediv_of_nonneg (by omega)]
  omega
def upGo : Nat → Hq → Int → Int → Hq
  | 0, Q, i, v => Q.set i v
  | k + 1, Q, i, v => if 0 < i ∧ Q.ahead v (Q.at (par i)) = true then upGo k (Q.set i (Q.at (par i))) (par i) v else Q.set i v
def Hq.up (Q : Hq) (i : Int) : Hq := upGo i.toNat Q i (Q.at i)
theorem hq_rd {L : List HPr} {h : Nat} {Q1 : Hq} {w2 : World} (j : Int) (hj : 0 ≤ j) (hj2 : j < (Q1.l.length : Int)) (H : Holds (HqR h Q1 :: L) w2) : ∃ b o xc, Cel w2 h 2 (vS (aP b o) Q1.l.length xc) ∧ Cel w2 b (o + j.toNat) (vI (Q1.at j)) := by
  obtain ⟨a1, c1, a2, c2, a3, c3, H⟩ := HqR.op H
  obtain ⟨b, o, rfl⟩ := osl_ptr H 3 rfl (by omega)
  exact ⟨b, o, c3, cel H 0 rfl rfl, celI H 3 rfl hj hj2⟩
theorem k_up {L : List HPr} {w : World} {h : Nat} {Q : Hq} (H : Holds (HqR h Q :: L) w) (hs : Q.Sm) {i : Int} (hi : 0 ≤ i) (hi2 : i < (Q.l.length : Int)) :
    Calls cx.P F.scores_Heap_up #[vP h 0, vI i] w (Ret fun r w' => r = .tuple #[] ∧ Holds (HqR h (Q.up i) :: L) w') := by
  apply vc_scores_Heap_up
  have hv := hs.at hi hi2
  obtain ⟨b, o, xc, g1, g2⟩ := hq_rd i hi hi2 H
  refine ⟨_, _, _, g1, ⟨hi, hi2⟩, pm_i ⟨Q.at i, g2, ?_⟩⟩
  unfold Hq.up
  generalize hR : upGo i.toNat Q i (Q.at i) = R
  generalize Q.at i = v at *
  have hll := hs.l
  refine ⟨fun vs w => ∃ (k : Nat) (i1 : Int) (Q1 : Hq), vs = [vI i1] ∧ 0 ≤ i1 ∧ i1 < Q.l.length ∧ i1 ≤ k ∧ Q1.Sm ∧ Q1.l.length = Q.l.length ∧ Q1.score = Q.score ∧ upGo k Q1 i1 v = R ∧ Holds (HqR h Q1 :: L) w, fun vs _ => (match vs with | [.int _ j] => j | _ => 0).toNat,
    ⟨i.toNat, i, Q, rfl, hi, hi2, by omega, hs, rfl, rfl, hR, H⟩, ?_⟩
  rintro i1 w1 ⟨k, j1, Q1, hvs, h0, h1, hk, s1, l1, sc1, hg, H⟩
  simp only [List.cons.injEq, Value.int.injEq, true_and, and_true] at hvs
  subst hvs
  have vsc : v < (Q1.score.length : Int) := by rw [sc1]; exact hv.2
  have vpl : v < (Q1.place.length : Int) := by rw [s1.p]; exact vsc
  have fin : ∀ w4, Q1.set i1 v = R → Holds (HqR h Q1 :: L) w4 → Calls cx.P F.scores_Heap_set #[vP h 0, vI i1, vI v] w4 (Ret fun v4 w5 => v4 = .tuple #[] ∧ (Value.tuple #[] = .tuple #[] ∧ Holds (HqR h R :: L) w5)) := by
    intro w4 e H
    refine Calls.ret (k_hset H h0 (by omega) (by omega) vpl) ?_
    rintro _ w5 ⟨rfl, H⟩
    exact ⟨rfl, rfl, e ▸ H⟩
  refine gif_i (fun hpos => ?_) (fun hpos => ?_)
  · have hpos' : 0 < i1 := of_decide_eq_true hpos
    obtain ⟨k, rfl⟩ : ∃ k', k = k' + 1 := ⟨k - 1, by omega⟩
    have hp := par_lt hpos'
    have hp' : Int.tdiv (i1 - 1) 2 = par i1 := rfl
    have hg : (if 0 < i1 ∧ Q1.ahead v (Q1.at (par i1)) = true then upGo k (Q1.set i1 (Q1.at (par i1))) (par i1) v else Q1.set i1 v) = R := hg
    have cat := s1.at hp.1 (by omega)
    rw [hp']
    obtain ⟨b, o, xc, g1, g2⟩ := hq_rd (par i1) hp.1 (by omega) H
    refine ⟨_, _, _, g1, by unfold InI; omega, by omega, by unfold InI; omega, ⟨hp.1, by omega⟩, pm_i ⟨_, g2, Calls.ret (k_ahead H (by omega) vsc (by omega) cat.2) ?_⟩⟩
    rintro _ w2 ⟨rfl, H⟩
    refine ⟨_, rfl, gif_i (fun ha => ?_) (fun ha => ?_)⟩
    · rw [if_pos ⟨hpos', ha⟩] at hg
      obtain ⟨b, o, xc, g1, g2⟩ := hq_rd (par i1) hp.1 (by omega) H
      refine ⟨_, _, _, g1, by unfold InI; omega, by omega, by unfold InI; omega, ⟨hp.1, by omega⟩, pm_i ⟨_, g2, Calls.ret (k_hset H h0 (by omega) (by omega) (by rw [s1.p]; exact cat.2)) ?_⟩⟩
      rintro _ w3 ⟨rfl, H⟩
      exact ⟨rfl, by unfold InI; omega, by omega, by unfold InI; omega, ⟨k, par i1, _, rfl, hp.1, by omega, by omega, s1.set cat.1 cat.2, by unfold Hq.set; simp only [List.length_set]; exact l1, sc1, hg, H⟩, by simp only; omega⟩
    · rw [if_neg (by rw [ha]; simp)] at hg
      exact fin w2 hg H
  · have hpos' : ¬ 0 < i1 := of_decide_eq_false hpos
    have e : Q1.set i1 v = R := by
      cases k with
      | zero => exact hg
      | succ k =>
        have hg : (if 0 < i1 ∧ Q1.ahead v (Q1.at (par i1)) = true then upGo k (Q1.set i1 (Q1.at (par i1))) (par i1) v else Q1.set i1 v) = R := hg
        rw [if_neg (fun h => hpos' h.1)] at hg; exact hg
    exact fin w1 e H

def Hq.more (Q : Hq) (v : Int) : Hq := { Q with l := Q.l ++ [v], place := Q.place.set v.toNat (Q.l.length : Int) }
def Hq.put (Q : Hq) (v : Int) : Hq := if 1 ≤ v ∧ v < (Q.score.length : Int) ∧ Q.pl v < 0 then (Q.more v).up (Q.l.length : Int) else Q
theorem k_HPut {L : List HPr} {w : World} {h : Nat} {Q : Hq} (H : Holds (HqR h Q :: L) w) (hs : Q.Sm) (hl : Q.l.length < 200000) (v : Int) :
    Calls cx.P F.scores_Heap_Put #[vP h 0, vI v] w (Ret fun r w' => (∃ x, r = vB x) ∧ Holds (HqR h (Q.put v) :: L) w') := by
  apply vc_scores_Heap_Put
  refine Calls.ret (k_hright H v) ?_
  rintro _ w1 ⟨rfl, H⟩
  unfold Hq.put
  have hp := hs.p
  refine ⟨_, rfl, gif_i (fun hr => ?_) (fun hr => ?_)⟩
  · have hr' : ¬ (1 ≤ v ∧ v < (Q.score.length : Int)) := by have h := hr; simp at h; omega
    rw [if_neg (fun h => hr' ⟨h.1, h.2.1⟩)]
    exact ⟨⟨_, rfl⟩, H⟩
  · have hr' : 1 ≤ v ∧ v < (Q.score.length : Int) := by simpa using hr
    obtain ⟨a1, c1, a2, c2, a3, c3, H⟩ := HqR.op H
    obtain ⟨b, o, rfl⟩ := osl_ptr H 2 rfl (by omega)
    refine ⟨_, _, _, cel H 0 rfl rfl, ⟨by omega, by omega⟩, pm_i ⟨Q.pl v, celI H 2 rfl (by omega) (by omega), gif_i (fun h2 => ?_) (fun h2 => ?_)⟩⟩
    · have h2' : Q.pl v ≥ 0 := of_decide_eq_true h2
      rw [if_neg (fun h => by omega)]
      exact ⟨⟨_, rfl⟩, HqR.sh H⟩
    · have h2' : ¬ Q.pl v ≥ 0 := of_decide_eq_false h2
      rw [if_pos ⟨hr'.1, hr'.2, by omega⟩]
      refine ⟨_, _, _, cel H 0 rfl rfl, al H fun b2 w2 H => ?_⟩
      refine oap slInt H 4 rfl (asrc_blk slInt H 0 rfl rfl rfl) (by omega) (by omega) fun a' c' w3 H => ⟨_, _, _, rfl, ?_⟩
      have H := H.tail
      refine st H 0 rfl rfl (by simp) fun w4 H => dr H fun w5 H => ⟨_, _, _, cel H 0 rfl rfl, _, _, _, cel H 0 rfl rfl, by unfold InI; omega, ⟨by omega, by omega⟩, pm_i ?_⟩
      have en : (((Q.l.length + 1 : Nat) : Int) - 1) = (Q.l.length : Int) := by omega
      rw [en]
      refine setI H 2 rfl (by omega) (by omega) fun w6 H => ⟨_, _, _, cel H 0 rfl rfl, by unfold InI; omega, ?_⟩
      rw [en]
      have H : Holds (HqR h (Q.more v) :: L) w6 := HqR.sh (a1 := a1) (c1 := c1) (a2 := aP b o) (c2 := c2) (a3 := a') (c3 := c') (H.cast (by simp [hqL, setL, Hq.more]))
      have ml : (Q.more v).l.length = Q.l.length + 1 := by simp [Hq.more]
      have sm : (Q.more v).Sm := by
        refine ⟨hs.n, by unfold Hq.more; simp only [List.length_set]; exact hs.p, by omega, fun x hx => ?_⟩
        have hx : x ∈ Q.l ++ [v] := hx
        rcases List.mem_append.1 hx with hx | hx
        · exact hs.r x hx
        · have : x = v := by simpa using hx
          subst this; exact hr'
      refine Calls.ret (k_up H sm (by omega) (by omega)) ?_
      rintro _ w7 ⟨rfl, H⟩
      exact ⟨rfl, ⟨_, rfl⟩, H⟩
end Go.Sv
/- Loops over a function. -/
namespace Go.Sv
open Go

def mkD : Option Nat → List Deferred
  | none => []
  | some r => [{ target := .collected r, args := #[] }]
/-- The loop's end. -/
def EndL (w : World) (l : Nat) (Kn Kr : World → Prop) : Prop := ∃ rc, w.heap[l]? = some (.loop rc) ∧ rc.state ≠ .busy ∧ ∀ w1, w1 = w.putObj l (.loop { rc with state := .exhausted }) → match rc.pending with
  | none => Kn w1
  | some .ret => Kr w1
  | some _ => False
/-- A round's end. -/
def EndR (w : World) (l : Nat) (jump : Option Code) (K : World → Prop) : Prop := ∃ rc, w.heap[l]? = some (.loop rc) ∧ ∀ w1, w1 = w.putObj l (.loop { rc with state := if jump.isNone then .ready else .done, pending := jump }) → K w1
/-- A round's beginning. -/
def BegR (w : World) (l : Nat) (K : World → Prop) : Prop := ∃ rc, w.heap[l]? = some (.loop rc) ∧ rc.state = .ready ∧ ∀ w1, w1 = w.putObj l (.loop { rc with state := .busy }) → K w1
/-- What was put off in a loop is taken: nothing. -/
def Tk (w : World) (r : Nat) (K : World → Prop) : Prop := w.heap[r]? = some (.deferred (some [])) ∧ ∀ w1, w1 = w.putObj r (.deferred none) → K w1
/-- The loop's record, as it is laid. -/
def loopOf (fid : Nat) (t : Array Value) (ps : Array Tmp) (asg bdy : Code) (r : Nat) : Loop := { state := .ready, pending := none, fn := fid, tmps := t, params := ps, assign := asg, body := bdy, defers := r }
def gRange (C : Ctx) (n fid : Nat) (vg : Value) (ps : Array Tmp) (asg bdy : Code) (e : Env) (w : World) (Kn Kr : Nat → World → Prop) : Prop := match vg with
  | .func (.func f) first cap => ob (C.fn f) fun _ => ∀ t, Agr n e t → ∀ r w1, r = w.heap.size → w1 = (w.alloc (.deferred (some []))).alloc (.loop (loopOf fid t ps asg bdy r)) →
      Calls C.P f (first.toList ++ [Value.func (.yield (r + 1)) #[] #[]] ++ cap.toList).toArray w1 (Ret fun _ w2 => EndL w2 (r + 1) (Kn r) (Kr r))
  | _ => False
def gTop (C : Ctx) (an : An) (n fid : Nat) : Code → (Ex → Option Nat → Env → World → Prop) → Option Nat → Env → World → Prop
  | .seq a b, Q, ms, e, w => gTop C an n fid a (fun x ms e w => match x with
    | .normal => gTop C an n fid b Q ms e w
    | x => Q x ms e w) ms e w
  | .block id b, Q, ms, e, w => gTop C an n fid b (fun x ms e w => match x with
    | .exit i => cond (Nat.beq i id) (Q .normal ms e w) (Q (.exit i) ms e w)
    | x => Q x ms e w) ms e w
  | .rangeFunc g ps asg bdy, Q, none, e, w => ob (ev e g) fun vg => gRange C n fid vg ps asg bdy e w (fun r w1 => Q .normal (some r) e w1) (fun r w1 => Q .ret (some r) e w1)
  | c, Q, ms, e, w => gCode C an n c (fun x e w => Q x ms e w) e w
def gEnd (C : Ctx) (ms : Option Nat) (rs : List ResultVar) (e : Env) (w : World) (R : Value → World → Prop) : Prop := match ms with
  | none => gResL C w e rs fun vs => R (retV vs) w
  | some r => Tk w r fun w1 => gResL C w1 e rs fun vs => R (retV vs) w1
def gFunT (C : Ctx) (an : An) (n fid : Nat) (rs : List ResultVar) (c : Code) (args : List Value) (w : World) (R : Value → World → Prop) : Prop :=
  cond (Nat.ble args.length n) (gTop C an n fid c (fun x ms e w => match x with
    | .exit _ => False
    | _ => gEnd C ms rs e w R) none (argE 0 args) w) False

section
variable {C : Ctx} {an : An} {n fid : Nat}
def wd (b : Frame) (ms : Option Nat) : Frame := { b with defers := mkD ms }
theorem wd_mode {b : Frame} {ms : Option Nat} (h : b.mode = .run) : (wd b ms).mode = .run := h
def ComesT (C : Ctx) (n fid : Nat) (c : Code) (Q : Ex → Option Nat → Env → World → Prop) (ms : Option Nat) (e : Env) (w : World) : Prop :=
  ∀ (b : Frame) (t : Array Value) (k : List Item) (cs : List Frame), b.mode = .run → b.roundOf = none → b.fn = fid → Agr n e t →
    ∃ x ms' e' t' w', Q x ms' e' w' ∧ Agr n e' t' ∧ Arr C.P (stM (wd b ms) t (.code c :: k) cs w) (wd b ms') k cs x t' w'
theorem stM_atR {b : Frame} (hb : b.mode = .run) (t : Array Value) (k : List Item) (cs : List Frame) (w : World) : stM b t k cs w = lone (b.atR { tmps := t, defers := b.defers } k) cs w := by
  simp [stM, Frame.atR, hb]
theorem comesT_range {g : Operand} {ps : Array Tmp} {asg bdy : Code} {vg : Value} {Kn Kr : Nat → World → Prop} {e : Env} {w : World} (hg : ev e g = some vg) (h : gRange C n fid vg ps asg bdy e w Kn Kr) :
    ComesT C n fid (.rangeFunc g ps asg bdy) (fun x ms e' w' => match x, ms with | .normal, some r => e' = e ∧ Kn r w' | .ret, some r => e' = e ∧ Kr r w' | _, _ => False) none e w := by
  intro b t k cs hb hr hf ha
  unfold wd
  unfold gRange at h
  split at h
  · rename_i f first cap
    obtain ⟨rf, hrf, h⟩ := ob_some h
    have h := h t ha _ _ rfl rfl
    generalize hr0 : w.heap.size = r at h
    generalize hw1 : (w.alloc (.deferred (some []))).alloc (.loop (loopOf fid t ps asg bdy r)) = w1 at h
    have henter : (Instr.enterLoop b.fn t ps asg bdy b.roundOf).run C.P w = .ok (r + 1, mkD (some r)) w1 := by
      rw [hr, hf, run_enterLoop_outer, ← hw1, ← hr0]; rfl
    have hev : evT t g = .func (.func f) first cap := ev_evT ha hg
    have heval : ({ tmps := t, defers := mkD none } : Act).eval = evT t := by funext x; cases x <;> rfl
    have hres : (resolve ({ tmps := t, defers := mkD none } : Act).eval (rangeCall g (r + 1)) 0).run C.P w1 = .ok ⟨.fn (.func f) cap, first ++ #[.func (.yield (r + 1)) #[] #[]]⟩ w1 := by
      rw [heval]
      have hm : (#[Operand.const (Value.func (.yield (r + 1)) #[] #[])]).map (evT t) = #[Value.func (.yield (r + 1)) #[] #[]] := by simp [evT]
      simp only [resolve, hev, hm, Deferred.ofValue, Sem.run_pure]
    have harr : (first ++ #[Value.func (.yield (r + 1)) #[] #[]] ++ cap) = (first.toList ++ [Value.func (.yield (r + 1)) #[] #[]] ++ cap.toList).toArray := by
      apply Array.toList_inj.1; simp
    have hinv : (invoke (.fn (.func f) cap) (first ++ #[Value.func (.yield (r + 1)) #[] #[]])).run C.P w1 = .ok (.enter f (first.toList ++ [Value.func (.yield (r + 1)) #[] #[]] ++ cap.toList).toArray) w1 := by
      rw [← harr]; simp only [invoke, callFunc_ok hrf]
    have hstep := stepR_rangeFunc (P := C.P) (b := { b with defers := mkD none }) (a := { tmps := t, defers := mkD none }) (k := k) (cs := cs) (w := w) (g := g) (ps := ps) (assign := asg) (body := bdy) henter hres hinv
    obtain ⟨en, w2, fr, hR, hsteps, _, hleave⟩ := h (({ b with defers := mkD none } : Frame).atR { tmps := t, defers := mkD (some r) ++ mkD none } (.inRangeFunc (r + 1) :: k) :: cs)
    have hst : stM { b with defers := mkD none } t (.code (.rangeFunc g ps asg bdy) :: k) cs w = lone (({ b with defers := mkD none } : Frame).atR { tmps := t, defers := mkD none } (.code (.rangeFunc g ps asg bdy) :: k)) cs w := stM_atR (b := { b with defers := mkD none }) hb _ _ _ _
    rw [hst]
    cases en with
    | returned v =>
      obtain ⟨rc, h1, h2, h3⟩ := hR
      have hend := run_endLoop (P := C.P) h1 h2
      have h3 := h3 _ rfl
      have s2 := step_leave_returned (c := ({ b with defers := mkD none } : Frame).atR { tmps := t, defers := mkD (some r) ++ mkD none } (.inRangeFunc (r + 1) :: k)) (cs := cs) hleave
      rw [finish_atR_inRangeFunc] at s2
      have s3 := stepR_endRangeFunc (P := C.P) (b := { b with defers := mkD none }) (a := { tmps := t, defers := mkD (some r) ++ mkD none }) (k := k) (cs := cs) hend
      have sall := Steps.head hstep (Steps.trans hsteps (Steps.head s2 (.one s3)))
      have hba : ∀ k' w', lone (({ b with defers := mkD none } : Frame).atR { tmps := t, defers := mkD (some r) ++ mkD none } k') cs w' = stM { b with defers := mkD (some r) } t k' cs w' := by
        intro k' w'; simp [stM, Frame.atR, hb, mkD]
      rw [hba] at sall
      cases hp : rc.pending with
      | none =>
        rw [hp] at h3 sall
        exact ⟨.normal, some r, e, t, _, ⟨rfl, h3⟩, ha, sall⟩
      | some c =>
        rw [hp] at h3 sall
        cases c <;> simp only at h3 <;> first
          | exact h3.elim
          | exact ⟨.ret, some r, e, t, _, ⟨rfl, h3⟩, ha, _, sall⟩
    | panicked chain => exact hR.elim
    | outgrown => exact hR.elim
  · exact h.elim
theorem comesT_of {c : Code} {Q : Ex → Option Nat → Env → World → Prop} {ms : Option Nat} {e : Env} {w : World} (h : gCode C an n c (fun x e w => Q x ms e w) e w) : ComesT C n fid c Q ms e w := by
  intro b t k cs hb hr hf ha
  obtain ⟨x, e', t', w', hq, ha', _, harr⟩ := gCode_ok c _ _ _ h (wd b ms) t k cs (wd_mode hb) ha
  exact ⟨x, ms, e', t', w', hq, ha', harr⟩
theorem comesT_seq {a c : Code} {Q : Ex → Option Nat → Env → World → Prop} {ms : Option Nat} {e : Env} {w : World}
    (h : ComesT C n fid a (fun x ms e w => match x with | .normal => ComesT C n fid c Q ms e w | x => Q x ms e w) ms e w) : ComesT C n fid (.seq a c) Q ms e w := by
  intro b t k cs hb hr hf ha
  obtain ⟨x, ms1, e1, t1, w1, hq, ha1, harr⟩ := h b t (.code c :: k) cs hb hr hf ha
  have s0 := st_seq (P := C.P) (b := wd b ms) (t := t) (k := k) (cs := cs) (w := w) (x := a) (y := c) (wd_mode hb)
  cases x with
  | normal =>
    obtain ⟨x, ms2, e2, t2, w2, hq2, ha2, harr2⟩ := hq b t1 k cs hb hr hf ha1
    exact ⟨x, ms2, e2, t2, w2, hq2, ha2, Arr.of_steps (.head s0 harr) harr2⟩
  | exit id =>
    obtain ⟨k', h1, h2⟩ := harr
    exact ⟨.exit id, ms1, e1, t1, w1, hq, ha1, k', by rw [h1]; rfl, .head s0 h2⟩
  | ret =>
    obtain ⟨k', h2⟩ := harr
    exact ⟨.ret, ms1, e1, t1, w1, hq, ha1, k', .head s0 h2⟩
theorem comesT_block {id : Nat} {c : Code} {Q : Ex → Option Nat → Env → World → Prop} {ms : Option Nat} {e : Env} {w : World}
    (h : ComesT C n fid c (fun x ms e w => match x with | .exit i => cond (Nat.beq i id) (Q .normal ms e w) (Q (.exit i) ms e w) | x => Q x ms e w) ms e w) : ComesT C n fid (.block id c) Q ms e w := by
  intro b t k cs hb hr hf ha
  obtain ⟨x, ms1, e1, t1, w1, hq, ha1, harr⟩ := h b t (.inBlock id :: k) cs hb hr hf ha
  have s0 := st_block (P := C.P) (b := wd b ms) (t := t) (k := k) (cs := cs) (w := w) (id := id) (c := c) (wd_mode hb)
  cases x with
  | normal => exact ⟨.normal, ms1, e1, t1, w1, hq, ha1, .head s0 (Steps.trans harr (.one (st_inBlock (wd_mode hb))))⟩
  | ret =>
    obtain ⟨k', h2⟩ := harr
    exact ⟨.ret, ms1, e1, t1, w1, hq, ha1, k', .head s0 h2⟩
  | exit i =>
    obtain ⟨k', h1, h2⟩ := harr
    simp only at hq
    cases hbq : Nat.beq i id with
    | true =>
      rw [hbq] at hq
      have := Nat.eq_of_beq_eq_true hbq
      subst this
      have hx : exitTo i k' = some k := by rw [h1]; simp [exitTo]
      exact ⟨.normal, ms1, e1, t1, w1, hq, ha1, .head s0 (Steps.trans h2 (.one (st_exit (wd_mode hb) hx)))⟩
    | false =>
      rw [hbq] at hq
      have hne : i ≠ id := fun e => by subst e; simp [Nat.beq_refl] at hbq
      exact ⟨.exit i, ms1, e1, t1, w1, hq, ha1, k', by rw [h1]; simp [exitTo, Ne.symm hne], .head s0 h2⟩
theorem comesT_mono {c : Code} {Q Q' : Ex → Option Nat → Env → World → Prop} {ms : Option Nat} {e : Env} {w : World} (h : ComesT C n fid c Q ms e w) (hq : ∀ x ms e w, Q x ms e w → Q' x ms e w) : ComesT C n fid c Q' ms e w := by
  intro b t k cs hb hr hf ha
  obtain ⟨x, ms1, e1, t1, w1, h1, h2⟩ := h b t k cs hb hr hf ha
  exact ⟨x, ms1, e1, t1, w1, hq _ _ _ _ h1, h2⟩
theorem gTop_ok (c : Code) : ∀ (Q : Ex → Option Nat → Env → World → Prop) (ms : Option Nat) (e : Env) (w : World), gTop C an n fid c Q ms e w → ComesT C n fid c Q ms e w := by
  induction c with
  | seq a b iha ihb =>
    intro Q ms e w h
    rw [gTop] at h
    refine comesT_seq (comesT_mono (iha _ _ _ _ h) fun x ms e w hx => ?_)
    cases x with
    | normal => exact ihb _ _ _ _ hx
    | exit i => exact hx
    | ret => exact hx
  | block id b ih =>
    intro Q ms e w h
    rw [gTop] at h
    exact comesT_block (ih _ _ _ _ h)
  | rangeFunc g ps asg bdy _ _ =>
    intro Q ms e w h
    cases ms with
    | some r => rw [gTop] at h; exact comesT_of (an := an) h; all_goals (intros; simp_all)
    | none =>
      rw [gTop] at h
      obtain ⟨vg, hg, h⟩ := ob_some h
      refine comesT_mono (comesT_range hg h) fun x ms e' w' hx => ?_
      cases x <;> cases ms <;> first
        | exact hx.elim
        | (obtain ⟨rfl, hx⟩ := hx; exact hx)
  | _ => intro Q ms e w h; rw [gTop] at h; exact comesT_of (an := an) h; all_goals (intros; simp_all)

theorem st_take {P : Program} {fr : Frame} {cs : List Frame} {w : World} {r : Nat} (hm : fr.mode = .returning) (hd : fr.defers = mkD (some r)) (h : w.heap[r]? = some (.deferred (some []))) : step P (lone fr cs w) = .next (lone { fr with defers := [] } cs (w.putObj r (.deferred none))) :=
  step_lone_go (by simp [stepG, unwind, hm, hd, mkD, Sem.runT_eq, run_takeDeferred h])
theorem calls_of_gFunT {f : Nat} {fn : Func} {c : Code} {args : List Value} {w : World} {R : Value → World → Prop} (hf : C.P.funcs[f]? = some fn) (hb : fn.body = some c)
    (h : gFunT C an fn.ntmps f fn.results.toList c args w R) : Calls C.P f args.toArray w (Ret R) := by
  unfold gFunT at h
  obtain ⟨hle, h⟩ := cond_true_of h
  have hle := Nat.le_of_ble_eq_true hle
  intro cs
  let b : Frame := { (default : Frame) with fn := f, kind := .normal }
  have hbm : b.mode = .run := rfl
  have henter : ∀ cs, lone (Frame.enter C.P f args.toArray .normal) cs w = stM (wd b none) (args.toArray ++ Array.replicate (fn.ntmps - args.length) undef) [.code c] cs w := by
    intro cs
    simp [Frame.enter, stM, hf, hb, b, wd, mkD]
    rfl
  have ha : Agr fn.ntmps (argE 0 args) (args.toArray ++ Array.replicate (fn.ntmps - args.length) undef) := by
    refine ⟨by simp; omega, fun i v hv => ?_⟩
    obtain ⟨_, h1⟩ := argE_get hv
    rw [Nat.sub_zero] at h1
    have hlt := (List.getElem?_eq_some_iff.1 h1).1
    rw [Array.getElem?_append_left (by simpa using hlt)]
    simpa using h1
  obtain ⟨x, ms, e', t', w', hq, ha', harr⟩ := gTop_ok c _ _ _ _ h b _ [] cs hbm rfl rfl ha
  rw [henter]
  have res : ∀ (w1 : World) (todo : List Item), gResL C w1 e' fn.results.toList (fun vs => R (retV vs) w1) → ∃ v, R v w1 ∧ ({ b with tmps := t', todo := todo, mode := .returning } : Frame).leaving C.P w1 (.returned v) := by
    intro w1 todo hr
    obtain ⟨vs, h1, h2⟩ := gResL_ok ha' hr
    refine ⟨retV vs, h2, rfl, rfl, rfl, fn, hf, ?_⟩
    unfold results
    rw [Array.mapM_eq_mapM_toList]
    simp only [Sem.run_bind, Sem.run_map]
    erw [h1]
    simp only [Result.andThen_ok, Sem.run_pure]
    match vs with
    | [] => rfl
    | [v] => rfl
    | _ :: _ :: _ => rfl
  have fin : ∀ (todo : List Item), gEnd C ms fn.results.toList e' w' R →
      ∃ v w1, R v w1 ∧ Steps C.P (lone { wd b ms with tmps := t', todo := todo, mode := .returning } cs w') (lone { b with tmps := t', todo := todo, mode := .returning } cs w1) ∧ ({ b with tmps := t', todo := todo, mode := .returning } : Frame).leaving C.P w1 (.returned v) := by
    intro todo hr
    cases ms with
    | none =>
      obtain ⟨v, h1, h2⟩ := res w' todo hr
      exact ⟨v, w', h1, Steps.refl _ _, h2⟩
    | some r =>
      obtain ⟨h0, h1⟩ := hr
      obtain ⟨v, h2, h3⟩ := res _ todo (h1 _ rfl)
      exact ⟨v, _, h2, .one (st_take (fr := { wd b (some r) with tmps := t', todo := todo, mode := .returning }) rfl rfl h0), h3⟩
  cases x with
  | normal =>
    obtain ⟨v, w1, hR, hs, hl⟩ := fin [] hq
    exact ⟨.returned v, w1, _, hR, Steps.trans harr (.head (st_fnend (b := wd b ms) hbm rfl) hs), rfl, hl⟩
  | ret =>
    obtain ⟨k', hs⟩ := harr
    obtain ⟨v, w1, hR, hs2, hl⟩ := fin (.code .ret :: k') hq
    exact ⟨.returned v, w1, _, hR, Steps.trans hs (.head (st_fnret (b := wd b ms) hbm rfl) hs2), rfl, hl⟩
  | exit id => exact hq.elim

/-! ### a round -/
def setAll (e : Env) : List Tmp → List Value → Option Env
  | [], [] => some e
  | p :: ps, v :: vs => setAll ((p, v) :: e) ps vs
  | _, _ => none
theorem agr_set {n : Nat} {e : Env} {t : Array Value} (ha : Agr n e t) {p : Nat} {v : Value} (hp : p < n) : Agr n ((p, v) :: e) (t.setIfInBounds p v) := by
  refine ⟨by simp [ha.1], fun i u hu => ?_⟩
  simp only [Env.get] at hu
  cases hb : Nat.beq i p with
  | true =>
    rw [hb] at hu
    have := Nat.eq_of_beq_eq_true hb
    subst this
    simp only [cond_true, Option.some.injEq] at hu
    subst hu
    simp [ha.1, hp]
  | false =>
    rw [hb] at hu
    have hne : p ≠ i := fun e => by subst e; simp at hb
    rw [Array.getElem?_setIfInBounds_ne hne]
    exact ha.2 _ _ hu
theorem agr_setAll {n : Nat} : ∀ {ps : List Tmp} {vs : List Value} {e e' : Env} {t : Array Value}, Agr n e t → ps.all (fun p => Nat.blt p n) = true → setAll e ps vs = some e' → Agr n e' ((ps.zip vs).foldl (fun tm (x : Tmp × Value) => tm.setIfInBounds x.1 x.2) t)
  | [], [], e, e', t, ha, _, h => by simp only [setAll, Option.some.injEq] at h; subst h; exact ha
  | [], _ :: _, _, _, _, _, _, h => by simp [setAll] at h
  | _ :: _, [], _, _, _, _, _, h => by simp [setAll] at h
  | p :: ps, v :: vs, e, e', t, ha, hp, h => by
    simp only [List.all_cons, Bool.and_eq_true] at hp
    have hlt : p < n := Nat.le_of_ble_eq_true hp.1
    show Agr n e' ((ps.zip vs).foldl (fun tm (x : Tmp × Value) => tm.setIfInBounds x.1 x.2) (t.setIfInBounds p v))
    exact agr_setAll (agr_set ha hlt) hp.2 h
/-- What a round comes to. -/
def gRound (C : Ctx) (an : An) (n l : Nat) (ps : List Tmp) (asg bdy : Code) (e : Env) (vs : List Value) (w : World) (K : Value → World → Prop) : Prop :=
  cond (ps.all fun p => Nat.blt p n) (ob (setAll e ps vs) fun e1 => gCode C an n asg (fun x e2 w2 => match x with
    | .normal => BegR w2 l fun w3 => gCode C an n bdy (fun x _ w4 => match x with
      | .normal => EndR w4 l none (K (.bool true))
      | .ret => EndR w4 l (some .ret) (K (.bool false))
      | .exit _ => False) e2 w3
    | _ => False) e1 w) False
theorem rnd_of_gRound {l : Nat} {rc : Loop} {vs : List Value} {w : World} {e : Env} {K : Value → World → Prop} (hl : w.heap[l]? = some (.loop rc)) (ha : Agr n e rc.tmps) (hlen : vs.length = rc.params.size)
    (h : gRound C an n l rc.params.toList rc.assign rc.body e vs w K) : Rnd C.P l vs w K := by
  unfold gRound at h
  obtain ⟨hps, h⟩ := cond_true_of h
  obtain ⟨e1, he1, h⟩ := ob_some h
  unfold Rnd
  rw [run_yield hl (by simpa using hlen)]
  intro c cs hc
  let b : Frame := { (default : Frame) with fn := rc.fn, kind := .normal, roundOf := some l }
  have hb : b.mode = .run := rfl
  have ha1 : Agr n e1 ((rc.params.zip vs.toArray).foldl (fun tmps (x : Tmp × Value) => tmps.setIfInBounds x.1 x.2) rc.tmps) := by
    have := agr_setAll ha hps he1
    rw [← Array.foldl_toList, Array.toList_zip]
    exact this
  generalize (rc.params.zip vs.toArray).foldl (fun tmps (x : Tmp × Value) => tmps.setIfInBounds x.1 x.2) rc.tmps = t1 at *
  have h0 : ∀ cs', lone (Frame.round l rc.fn t1 rc.assign rc.body .normal) cs' w = stM b t1 [.code rc.assign, .beginRound, .code rc.body] cs' w := by
    intro cs'; simp [Frame.round, stM, b]; rfl
  have at1 : ∀ t k w', stM b t k (c :: cs) w' = lone (b.atR { tmps := t, defers := b.defers } k) (c :: cs) w' := fun t k w' => stM_atR hb t k _ w'
  obtain ⟨x, e2, t2, w2, hq, ha2, _, harr⟩ := gCode_ok rc.assign _ _ _ h b t1 [.beginRound, .code rc.body] (c :: cs) hb ha1
  cases x with
  | exit i => exact hq.elim
  | ret => exact hq.elim
  | normal =>
    obtain ⟨rc2, g1, g2, g3⟩ := hq
    have hbr := run_beginRound (P := C.P) g1 g2
    have sb := stepR_beginRound (P := C.P) (b := b) (a := { tmps := t2, defers := b.defers }) (k := [.code rc.body]) (cs := c :: cs) rfl hbr
    obtain ⟨x, e4, t4, w4, hq4, ha4, _, harr4⟩ := gCode_ok rc.body _ _ _ (g3 _ rfl) b t2 [] (c :: cs) hb ha2
    have s1 : Steps C.P (lone (Frame.round l rc.fn t1 rc.assign rc.body .normal) (c :: cs) w) (stM b t2 [.code rc.body] (c :: cs) (w2.putObj l (.loop { rc2 with state := .busy }))) := by
      rw [h0]
      refine Steps.trans harr (.one ?_)
      rw [at1, at1]; exact sb
    cases x with
    | exit i => exact hq4.elim
    | normal =>
      obtain ⟨rc4, k1, k2⟩ := hq4
      have he := run_endRound (P := C.P) none k1
      have se := stepR_round_end (P := C.P) (b := b) (a := { tmps := t4, defers := b.defers }) (c := c) (cs := cs) rfl rfl he
      refine ⟨_, _, k2 _ rfl, Steps.trans s1 (Steps.trans harr4 (.one ?_))⟩
      rw [at1]; exact se
    | ret =>
      obtain ⟨rc4, k1, k2⟩ := hq4
      obtain ⟨k', hs⟩ := harr4
      have he := run_endRound (P := C.P) (some .ret) k1
      have se := stepR_round_ret (P := C.P) (b := b) (a := { tmps := t4, defers := b.defers }) (k := k') (c := c) (cs := cs) rfl rfl he
      refine ⟨_, _, k2 _ rfl, Steps.trans s1 (Steps.trans hs (.one ?_))⟩
      rw [at1]; exact se
end
end Go.Sv
/- The queue. -/
namespace Go.Sv
open Go Go.Proofs
set_option maxRecDepth 100000

structure Lk where
  ahead : Int
  behind : Int
  stamp : Int
def Lk.vs (x : Lk) : List Value := [vI x.ahead, vI x.behind, vI x.stamp]
theorem Lk.vs_len (x : Lk) : x.vs.length = 3 := rfl
structure Qu where
  l : List Lk
  bumps : Int
theorem slLk : SlT cx T.s_vmtf_link T.vmtf_link 3 24 [vI 0, vI 0, vI 0] := SlT.mk' rfl rfl rfl rfl rfl
def quL (q : Nat) (Q : Qu) (a : Option Addr) (c : Nat) : List HPr :=
  [blk q [vS a Q.l.length c, vI Q.bumps] T.vmtf_Queue, osl T.vmtf_link 3 a Q.l.length c (Q.l.flatMap Lk.vs)]
def QuR (q : Nat) (Q : Qu) : HPr := fun m => ∃ a c, SatL (quL q Q a c) m
theorem QuR.op {q : Nat} {Q : Qu} {L : List HPr} {w : World} (H : Holds (QuR q Q :: L) w) : ∃ a c, Holds (quL q Q a c ++ L) w := by
  obtain ⟨F, ⟨a, c, h⟩, hL⟩ := H
  exact ⟨a, c, SatL_app.2 ⟨F, h, hL⟩⟩
theorem QuR.sh {q : Nat} {Q : Qu} {L : List HPr} {w : World} {a : Option Addr} {c : Nat} (H : Holds (quL q Q a c ++ L) w) : Holds (QuR q Q :: L) w :=
  part_shut (fun _ h => ⟨a, c, h⟩) H
def Qu.behind (Q : Qu) (v : Int) : Int := match Q.l[v.toNat]? with
  | some x => x.behind
  | none => 0
theorem lk_cel {L : List HPr} {w : World} (H : Holds L w) {b o n c : Nat} {ls : List Lk} (j : Nat) (hj : L[j]? = some (osl T.vmtf_link 3 (aP b o) n c (ls.flatMap Lk.vs))) {i : Nat} {x : Lk} (hx : ls[i]? = some x) (k : Nat) (hk : k < 3) {v : Value} (hv : x.vs[k]? = some v) : Cel w b (o + i * 3 + k) v := by
  rw [Nat.add_assoc]
  exact oc H j hj (by rw [flat_get _ _ _ _ (fun x _ => x.vs_len) hx hk]; exact hv)
theorem lk_set {L : List HPr} {w : World} (H : Holds L w) {b o c : Nat} {ls : List Lk} (j : Nat) (hj : L[j]? = some (osl T.vmtf_link 3 (aP b o) ls.length c (ls.flatMap Lk.vs))) {i : Nat} {x x' : Lk} (hx : ls[i]? = some x) (k : Nat) {us : List Value} (ha : us.all isOne = true) (hk : k + us.length ≤ 3) (he : setL x.vs k us = x'.vs) {K : World → Prop}
    (hK : ∀ w1, Holds (L.set j (osl T.vmtf_link 3 (aP b o) (ls.set i x').length c ((ls.set i x').flatMap Lk.vs))) w1 → K w1) : St w b (o + i * 3 + k) us K := by
  rw [Nat.add_assoc]
  have hlen : (ls.flatMap Lk.vs).length = ls.length * 3 := flat_len _ fun x _ => x.vs_len
  have := get_lt hx
  refine ost H j hj ha (by rw [hlen]; omega) fun w1 H => hK w1 (H.cast ?_)
  rw [flat_set _ _ _ _ _ _ (fun x _ => x.vs_len) hx hk he, List.length_set]

/-! ### a new queue -/
def qnew (n : Nat) : Nat → List Lk
  | 0 => List.replicate (n + 1) ⟨0, 0, 0⟩
  | k + 1 => (qnew n k).set k ⟨(k : Int) - 1, (k : Int) + 1, 0⟩
def qend (n : Nat) (l : List Lk) : List Lk :=
  let l1 := l.set 0 { (l[0]?).getD ⟨0, 0, 0⟩ with ahead := (n : Int) }
  l1.set n { (l1[n]?).getD ⟨0, 0, 0⟩ with behind := 0 }
def Qu.new (n : Nat) : Qu := ⟨qend n (qnew n (n + 1)), 0⟩
theorem qnew_len (n : Nat) : ∀ k, (qnew n k).length = n + 1
  | 0 => by simp [qnew]
  | k + 1 => by simp [qnew, qnew_len n k]
theorem qnew_at (n : Nat) : ∀ k j, k ≤ j → j ≤ n → (qnew n k)[j]? = some ⟨0, 0, 0⟩
  | 0, j, _, h => by rw [qnew, List.getElem?_replicate, if_pos (by omega)]
  | k + 1, j, h, h2 => by
    simp only [qnew]
    rw [List.getElem?_set, if_neg (by omega)]
    exact qnew_at n k j (by omega) h2
theorem k_vmtf_New {L : List HPr} {w : World} (H : Holds L w) {n : Nat} (hn : n ≤ 100000) :
    Calls cx.P F.vmtf_New #[vI (n : Int)] w (Ret fun v w' => ∃ q, v = vP q 0 ∧ Holds (QuR q (Qu.new n) :: L) w') := by
  apply vc_vmtf_New
  have e0 : ((n : Int) + 1).toNat = n + 1 := by omega
  refine ⟨by unfold InI; omega, omk slLk H (by omega) (Int.le_refl _) (by omega) (by omega) fun a w1 H => ⟨_, _, _, rfl, al H fun q w2 H => ?_⟩⟩
  rw [e0] at H
  have er : repL (n + 1) [vI 0, vI 0, vI 0] = (qnew n 0).flatMap Lk.vs := by simp [repL, qnew, List.flatMap_replicate, Lk.vs]
  rw [er] at H
  obtain ⟨b, o, rfl⟩ := osl_ptr H 1 rfl (by omega)
  refine ⟨_, _, _, cel H 0 rfl rfl, fun vs w => ∃ k : Nat, vs = [vI (k : Int)] ∧ k ≤ n + 1 ∧ Holds ([blk q [vS (aP b o) (n + 1) (n + 1), vI 0] T.vmtf_Queue, osl T.vmtf_link 3 (aP b o) (n + 1) (n + 1) ((qnew n k).flatMap Lk.vs)] ++ L) w, fun vs _ => (match vs with | [.int _ j] => (n : Int) + 1 - j | _ => 0).toNat, ⟨0, rfl, Nat.zero_le _, H⟩, ?_⟩
  rintro i w3 ⟨k, hv, hk, H⟩
  simp only [List.cons.injEq, Value.int.injEq, true_and, and_true] at hv
  subst hv
  have hl := qnew_len n k
  refine gif_i (fun h => ?_) (fun h => ?_)
  · have h' : k < n + 1 := by have := of_decide_eq_true h; omega
    have hx := qnew_at n k k (Nat.le_refl _) (by omega)
    have H : Holds ([blk q [vS (aP b o) (n + 1) (n + 1), vI 0] T.vmtf_Queue, osl T.vmtf_link 3 (aP b o) (qnew n k).length (n + 1) ((qnew n k).flatMap Lk.vs)] ++ L) w3 := by rw [hl]; exact H
    refine dr H fun w4 H => ⟨_, _, _, cel H 0 rfl rfl, _, _, _, cel H 0 rfl rfl, by unfold InI; omega, by unfold InI; omega, ⟨by omega, by omega⟩, pm_i ?_⟩
    rw [Int.toNat_natCast]
    refine lk_set (x' := ⟨(k : Int) - 1, 0, 0⟩) H 1 rfl hx 0 rfl (by simp) rfl fun w5 H => ⟨⟨by omega, by omega⟩, pm_i ?_⟩
    have hx2 : ((qnew n k).set k ⟨(k : Int) - 1, 0, 0⟩)[k]? = some ⟨(k : Int) - 1, 0, 0⟩ := by rw [List.getElem?_set, if_pos rfl, if_pos (by omega)]
    refine lk_set (x' := ⟨(k : Int) - 1, (k : Int) + 1, 0⟩) H 1 rfl hx2 1 rfl (by simp) rfl fun w6 H => ⟨by unfold InI; omega, ⟨k + 1, by rw [show ((k + 1 : Nat) : Int) = (k : Int) + 1 by omega], h', H.cast ?_⟩, by simp only; omega⟩
    simp [qnew, hl]
  · have h' : ¬ k < n + 1 := by have := of_decide_eq_false h; omega
    have : k = n + 1 := by omega
    subst this
    obtain ⟨x0, hx0⟩ := lt_get (l := qnew n (n + 1)) (i := 0) (by omega)
    have H : Holds ([blk q [vS (aP b o) (n + 1) (n + 1), vI 0] T.vmtf_Queue, osl T.vmtf_link 3 (aP b o) (qnew n (n + 1)).length (n + 1) ((qnew n (n + 1)).flatMap Lk.vs)] ++ L) w3 := by rw [hl]; exact H
    refine dr H fun w4 H => ⟨_, _, _, cel H 0 rfl rfl, _, _, _, cel H 0 rfl rfl, ⟨by omega, by omega⟩, pm_i ?_⟩
    have hz : o = o + 0 * 3 + 0 := by omega
    rw [hz]
    refine lk_set (x' := { x0 with ahead := (n : Int) }) H 1 rfl hx0 0 rfl (by simp) rfl fun w5 H => ⟨⟨by omega, by omega⟩, pm_i ?_⟩
    obtain ⟨x1, hx1⟩ := lt_get (l := (qnew n (n + 1)).set 0 { x0 with ahead := (n : Int) }) (i := n) (by rw [List.length_set]; omega)
    rw [Int.toNat_natCast]
    refine lk_set (x' := { x1 with behind := 0 }) H 1 rfl hx1 1 rfl (by simp) rfl fun w6 H => ⟨q, rfl, QuR.sh (a := aP b o) (c := n + 1) (H.cast ?_)⟩
    have en : Qu.new n = ⟨((qnew n (n + 1)).set 0 { x0 with ahead := (n : Int) }).set n { x1 with behind := 0 }, 0⟩ := by
      unfold Qu.new qend
      simp only [hx0, Option.getD_some, hx1]
    rw [en]
    simp [quL, hl]

/-! ### what is first in the queue and isn't skipped -/
def rgCode : Code → Option (Array Tmp × Code × Code)
  | .rangeFunc _ ps a b => some (ps, a, b)
  | .seq a b => match rgCode a with
    | some x => some x
    | none => rgCode b
  | .block _ b => rgCode b
  | _ => none
def rgOf (fn : Func) : Array Tmp × Code × Code := match fn.body with
  | some c => (rgCode c).getD (#[], .skip, .skip)
  | none => (#[], .skip, .skip)
theorem vc_vmtf_Queue_Find (q g : Nat) (cap : List Value) (w : World) (R : Value → World → Prop)
    (hvc : Al w [.func (.func g) #[] cap.toArray] T.func_int_bool fun b1 w1 => Al w1 [vI 0] T.int fun b2 w2 => Al w2 [vB false] T.bool fun b3 w3 => Calls cx.P F.vmtf_Queue_All #[vP q 0] w3 (Ret fun v1 w4 => ∃ u1, v1 = u1 ∧
      gRange cx 15 F.vmtf_Queue_Find u1 (rgOf Tryz.f157).1 (rgOf Tryz.f157).2.1 (rgOf Tryz.f157).2.2 [(8, u1), (7, vP q 0), (5, vP b3 0), (4, vP b2 0), (3, vP b1 0), (0, vP q 0), (1, .func (.func g) #[] cap.toArray)] w4
        (fun r w5 => St w5 b2 0 [vI 0] fun w6 => St w6 b3 0 [vB false] fun w7 => Tk w7 r fun w8 => ∃ x1, Cel w8 b2 0 (vI x1) ∧ ∃ x2, Cel w8 b3 0 (vB x2) ∧ R (.tuple #[vI x1, vB x2]) w8)
        (fun r w5 => Tk w5 r fun w8 => ∃ x1, Cel w8 b2 0 (vI x1) ∧ ∃ x2, Cel w8 b3 0 (vB x2) ∧ R (.tuple #[vI x1, vB x2]) w8))) :
    Calls cx.P F.vmtf_Queue_Find #[vP q 0, .func (.func g) #[] cap.toArray] w (Ret R) := by
  have e : (Al w [.func (.func g) #[] cap.toArray] T.func_int_bool fun b1 w1 => Al w1 [vI 0] T.int fun b2 w2 => Al w2 [vB false] T.bool fun b3 w3 => Calls cx.P F.vmtf_Queue_All #[vP q 0] w3 (Ret fun v1 w4 => ∃ u1, v1 = u1 ∧
      gRange cx 15 F.vmtf_Queue_Find u1 (rgOf Tryz.f157).1 (rgOf Tryz.f157).2.1 (rgOf Tryz.f157).2.2 [(8, u1), (7, vP q 0), (5, vP b3 0), (4, vP b2 0), (3, vP b1 0), (0, vP q 0), (1, .func (.func g) #[] cap.toArray)] w4
        (fun r w5 => St w5 b2 0 [vI 0] fun w6 => St w6 b3 0 [vB false] fun w7 => Tk w7 r fun w8 => ∃ x1, Cel w8 b2 0 (vI x1) ∧ ∃ x2, Cel w8 b3 0 (vB x2) ∧ R (.tuple #[vI x1, vB x2]) w8)
        (fun r w5 => Tk w5 r fun w8 => ∃ x1, Cel w8 b2 0 (vI x1) ∧ ∃ x2, Cel w8 b3 0 (vB x2) ∧ R (.tuple #[vI x1, vB x2]) w8))) =
      gFunT cx ⟨[], []⟩ 15 F.vmtf_Queue_Find Tryz.f157.results.toList (Tryz.f157.body.getD .skip) [vP q 0, .func (.func g) #[] cap.toArray] w R := by kernel_rfl
  rw [e] at hvc
  exact calls_of_gFunT (an := ⟨[], []⟩) (fn := Tryz.f157) Tryz.func157 rfl hvc

theorem round_Find (q g b1 b2 b3 l : Nat) (cap : List Value) (u1 : Value) (v : Int) (w : World) (K : Value → World → Prop)
    (hvc : BegR w l fun w3 => ∃ u2, Cel w3 b1 0 u2 ∧ gCall cx T.bool u2 [vI v] w3 (fun v12 w4 => gUn .not v12 fun v13 => match v13 with
      | .bool b => gif b (St w4 b2 0 [vI v] fun w5 => St w5 b3 0 [vB true] fun w6 => EndR w6 l (some .ret) (K (.bool false))) (EndR w4 l none (K (.bool true)))
      | _ => False)) :
    gRound cx ⟨[], []⟩ 15 l (rgOf Tryz.f157).1.toList (rgOf Tryz.f157).2.1 (rgOf Tryz.f157).2.2 [(8, u1), (7, vP q 0), (5, vP b3 0), (4, vP b2 0), (3, vP b1 0), (0, vP q 0), (1, .func (.func g) #[] cap.toArray)] [vI v] w K := by
  have e : (BegR w l fun w3 => ∃ u2, Cel w3 b1 0 u2 ∧ gCall cx T.bool u2 [vI v] w3 (fun v12 w4 => gUn .not v12 fun v13 => match v13 with
      | .bool b => gif b (St w4 b2 0 [vI v] fun w5 => St w5 b3 0 [vB true] fun w6 => EndR w6 l (some .ret) (K (.bool false))) (EndR w4 l none (K (.bool true)))
      | _ => False)) = gRound cx ⟨[], []⟩ 15 l (rgOf Tryz.f157).1.toList (rgOf Tryz.f157).2.1 (rgOf Tryz.f157).2.2 [(8, u1), (7, vP q 0), (5, vP b3 0), (4, vP b2 0), (3, vP b1 0), (0, vP q 0), (1, .func (.func g) #[] cap.toArray)] [vI v] w K := by kernel_rfl
  rw [← e]; exact hvc

def obj1 (b : Nat) (o : Obj) : HPr := fun m => m b = some o
theorem obj_heap {L : List HPr} {w : World} (H : Holds L w) (i : Nat) {b : Nat} {o : Obj} (hi : L[i]? = some (obj1 b o)) : w.heap[b]? = some o := by
  obtain ⟨m, hs, hm⟩ := H.fact i hi
  exact hs.s b _ hm
theorem obj_put {L : List HPr} {w : World} (H : Holds L w) (i : Nat) {b : Nat} {o o' : Obj} (hi : L[i]? = some (obj1 b o)) (h1 : plainE o := by exact True.intro) (h2 : plainE o' := by exact True.intro) : Holds (L.set i (obj1 b o')) (w.putObj b o') :=
  setB H i hi (fun _ hm => ⟨o, hm, h1⟩) h2 fun _ => if_pos rfl
theorem obj_new {L : List HPr} {w : World} (H : Holds L w) (o : Obj) (ho : plainO o := by exact True.intro) : Holds (obj1 w.heap.size o :: L) (w.alloc o) := Holds.alloc H o ho (if_pos rfl)
/-- The links lead through these variables. -/
def Chain (Q : Qu) : List Int → Int → Prop
  | [], c => c = 0
  | v :: vs, c => c = v ∧ v ≠ 0 ∧ 0 ≤ v ∧ v < (Q.l.length : Int) ∧ Chain Q vs (Q.behind v)
theorem chain_uniq {Q : Qu} : ∀ {r s : List Int} {c : Int}, Chain Q r c → Chain Q s c → r = s
  | [], [], _, _, _ => rfl
  | [], v :: s, c, h, k => by
    have h : c = 0 := h
    obtain ⟨k1, k2, _⟩ := k
    exact absurd (k1.symm.trans h) k2
  | v :: r, [], c, h, k => by
    have k : c = 0 := k
    obtain ⟨h1, h2, _⟩ := h
    exact absurd (h1.symm.trans k) h2
  | v :: r, u :: s, c, h, k => by
    obtain ⟨h1, _, _, _, h5⟩ := h
    obtain ⟨k1, _, _, _, k5⟩ := k
    have e : u = v := k1.symm.trans h1
    subst e
    rw [chain_uniq h5 k5]
theorem rnd_mono {P : Program} {l : Nat} {vs : List Value} {w : World} {K K' : Value → World → Prop} (h : Rnd P l vs w K) (hk : ∀ v w, K v w → K' v w) : Rnd P l vs w K' := upOK_mono hk h
theorem k_All_1 {q cap0 yield TT : Nat} {Q : Qu} {w : World} (I : List Int → World → Prop) (O : World → Prop) (hI : ∀ r w, I r w → ∃ M, Holds (blk cap0 [vP q 0] TT :: QuR q Q :: M) w) (hpos : 0 < Q.l.length)
    (hstep : ∀ v rest w, I (v :: rest) w → Rnd cx.P yield [vI v] w fun r w' => ∃ b, r = vB b ∧ (b = true → I rest w') ∧ (b = false → O w')) {ord : List Int} (hch : Chain Q ord (Q.behind 0)) (h0 : I ord w) :
    Calls cx.P F.vmtf_Queue_All_1 #[.func (.yield yield) #[] #[], vP cap0 0] w (Ret fun _ w' => I [] w' ∨ O w') := by
  apply vc_vmtf_Queue_All_1
  obtain ⟨M, H⟩ := hI _ _ h0
  obtain ⟨a, c, H⟩ := QuR.op H.swap
  have H := H.pick 2 rfl
  obtain ⟨b, o, rfl⟩ := osl_ptr H 2 rfl hpos
  obtain ⟨x0, hx0⟩ := lt_get (l := Q.l) (i := 0) hpos
  have e0 : Q.behind 0 = x0.behind := by unfold Qu.behind; simp only [Int.toNat_zero, hx0]
  have hc := lk_cel H 2 rfl hx0 1 (by omega) (v := vI x0.behind) rfl
  rw [Nat.zero_mul, Nat.add_zero] at hc
  refine ⟨_, cel H 0 rfl rfl, pm_i ⟨_, _, _, cel H 1 rfl rfl, ⟨by omega, by omega⟩, pm_i ⟨x0.behind, hc, fun vs w => ∃ rest v, vs = [vI v] ∧ Chain Q rest v ∧ I rest w,
    fun vs _ => (match vs with | [.int _ v] => (Classical.epsilon fun r => Chain Q r v).length | _ => 0), ⟨ord, x0.behind, rfl, e0 ▸ hch, h0⟩, ?_⟩⟩⟩
  rintro v w1 ⟨rest, v', hv, hr, hi⟩
  simp only [List.cons.injEq, Value.int.injEq, true_and, and_true] at hv
  subst hv
  have meas : ∀ (r : List Int) (v : Int), Chain Q r v → (Classical.epsilon fun r => Chain Q r v) = r := fun r v h => chain_uniq (Classical.epsilon_spec (p := fun r => Chain Q r v) ⟨r, h⟩) h
  refine gif_i (fun h => ?_) (fun h => ?_)
  · have h' : v ≠ 0 := by simpa using h
    cases rest with
    | nil => exact absurd hr h'
    | cons u rest =>
      obtain ⟨g1, g2, g3, g4, g5⟩ := id hr
      subst g1
      refine rnd_mono (hstep v rest w1 hi) ?_
      rintro _ w2 ⟨bb, rfl, k1, k2⟩
      refine ⟨bb, rfl, gif_i (fun hb => ?_) (fun hb => ?_)⟩
      · exact .inr (k2 (by simpa using hb))
      · have hi2 := k1 (by simpa using hb)
        obtain ⟨M, H⟩ := hI _ _ hi2
        obtain ⟨a, c, H⟩ := QuR.op H.swap
        have H := H.pick 2 rfl
        obtain ⟨b, o, rfl⟩ := osl_ptr H 2 rfl hpos
        obtain ⟨x, hx⟩ := lt_get (l := Q.l) (i := v.toNat) (by omega)
        have eb : Q.behind v = x.behind := by unfold Qu.behind; rw [hx]
        rw [eb] at g5
        refine ⟨_, cel H 0 rfl rfl, pm_i ⟨_, _, _, cel H 1 rfl rfl, ⟨g3, g4⟩, pm_i ⟨x.behind, lk_cel H 2 rfl hx 1 (by omega) rfl, ⟨rest, x.behind, rfl, g5, hi2⟩, ?_⟩⟩⟩
        simp only
        rw [meas _ _ hr, meas _ _ g5]
        simp
  · have h' : v = 0 := by simpa using h
    cases rest with
    | nil => exact .inl hi
    | cons u rest =>
      obtain ⟨g1, g2, _⟩ := hr
      exact absurd (g1.symm.trans h') g2

theorem k_QAll {L : List HPr} {w : World} (H : Holds L w) (q : Nat) :
    Calls cx.P F.vmtf_Queue_All #[vP q 0] w (Ret fun v w' => ∃ b, v = .func (.func F.vmtf_Queue_All_1) #[] #[vP b 0] ∧ Holds (blk b [vP q 0] T.p_vmtf_Queue :: L) w') := by
  apply vc_vmtf_Queue_All
  exact al H fun b w1 H => ⟨b, rfl, H⟩
theorem vcells_one (v : Value) (h : isOne v = true) : vcells v = [v] := by cases v <;> first | rfl | cases h
theorem k_Find {L : List HPr} {w : World} {q g : Nat} {cap : List Value} {Q : Qu} (H : Holds (QuR q Q :: L) w) (hpos : 0 < Q.l.length) {ord : List Int} (hch : Chain Q ord (Q.behind 0)) (sk : Int → Bool) (hg : ∃ x, cx.fn g = some x)
    (hsk : ∀ (M : List HPr) (v : Int) (w' : World), v ∈ ord → Holds (M ++ QuR q Q :: L) w' → Calls cx.P g ([vI v] ++ cap).toArray w' (Ret fun r w'' => r = vB (sk v) ∧ Holds (M ++ QuR q Q :: L) w'')) :
    Calls cx.P F.vmtf_Queue_Find #[vP q 0, .func (.func g) #[] cap.toArray] w (Ret fun v w' => v = (match ord.find? (fun v => !sk v) with | some x => .tuple #[vI x, vB true] | none => .tuple #[vI 0, vB false]) ∧ Holds (QuR q Q :: L) w') := by
  apply vc_vmtf_Queue_Find
  obtain ⟨gx, hgx⟩ := hg
  refine al H fun b1 w1 H => al H fun b2 w2 H => al H fun b3 w3 H => Calls.ret (k_QAll H q) ?_
  rintro _ w4 ⟨cb, rfl, H⟩
  refine ⟨_, rfl, ?_⟩
  unfold gRange
  show ob (cx.fn F.vmtf_Queue_All_1) _
  have hfn : cx.fn F.vmtf_Queue_All_1 = some [] := rfl
  rw [hfn]
  intro t ht r w5 hr hw5
  have H := obj_new (obj_new H (.deferred (some []))) (.loop (loopOf F.vmtf_Queue_Find t (rgOf Tryz.f157).1 (rgOf Tryz.f157).2.1 (rgOf Tryz.f157).2.2 w4.heap.size))
  rw [← hr, ← hw5] at H
  have hl : (w4.alloc (.deferred (some []))).heap.size = r + 1 := by rw [hr, World.size_alloc]
  rw [hl] at H
  -- the parts, at a round's beginning
  let P1 : Loop → Int → Bool → List HPr := fun rc x ok => [obj1 (r + 1) (.loop rc), obj1 r (.deferred (some [])), blk cb [vP q 0] T.p_vmtf_Queue, blk b3 [vB ok] T.bool, blk b2 [vI x] T.int, blk b1 [.func (.func g) #[] cap.toArray] T.func_int_bool]
  have fnd : ∀ (v : Int) (rest : List Int), (v :: rest).find? (fun v => !sk v) = if sk v = false then some v else rest.find? (fun v => !sk v) := by
    intro v rest
    rw [List.find?_cons]
    cases sk v <;> rfl
  show Calls cx.P F.vmtf_Queue_All_1 #[.func (.yield (r + 1)) #[] #[], vP cb 0] w5 _
  refine Calls.ret (k_All_1 (q := q) (cap0 := cb) (yield := r + 1) (TT := T.p_vmtf_Queue) (fun rest w => (∀ v ∈ rest, v ∈ ord) ∧ ord.find? (fun v => !sk v) = rest.find? (fun v => !sk v) ∧ Holds (P1 (loopOf F.vmtf_Queue_Find t (rgOf Tryz.f157).1 (rgOf Tryz.f157).2.1 (rgOf Tryz.f157).2.2 r) 0 false ++ QuR q Q :: L) w)
    (fun w => ∃ v, ord.find? (fun v => !sk v) = some v ∧ Holds (P1 { loopOf F.vmtf_Queue_Find t (rgOf Tryz.f157).1 (rgOf Tryz.f157).2.1 (rgOf Tryz.f157).2.2 r with state := .done, pending := some .ret } v true ++ QuR q Q :: L) w) ?_ hpos ?_ hch ⟨fun _ h => h, rfl, H⟩) ?_
  · rintro rest w ⟨_, _, H⟩
    have H := (H.pick 6 rfl).pick 3 rfl
    exact ⟨_, H⟩
  · rintro v rest w ⟨hm, hfd, H⟩
    refine rnd_of_gRound (an := ⟨[], []⟩) (obj_heap H 0 rfl) ht rfl ?_
    refine round_Find q g b1 b2 b3 (r + 1) cap _ v w _ ⟨_, obj_heap H 0 rfl, rfl, ?_⟩
    rintro w1 rfl
    have H := obj_put (o' := .loop { loopOf F.vmtf_Queue_Find t (rgOf Tryz.f157).1 (rgOf Tryz.f157).2.1 (rgOf Tryz.f157).2.2 r with state := .busy }) H 0 rfl
    refine ⟨.func (.func g) #[] cap.toArray, cel H 5 rfl rfl, ?_⟩
    show ob (cx.fn g) _
    rw [hgx]
    show Calls cx.P g _ _ _
    refine Calls.ret (hsk (P1 { loopOf F.vmtf_Queue_Find t (rgOf Tryz.f157).1 (rgOf Tryz.f157).2.1 (rgOf Tryz.f157).2.2 r with state := .busy } 0 false) v _ (hm v (List.mem_cons_self ..)) H) ?_
    rintro _ w2 ⟨rfl, H⟩
    show ∃ bb, vB (sk v) = vB bb ∧ gif (!bb) _ _
    rw [fnd] at hfd
    refine ⟨sk v, rfl, gif_i (fun h => ?_) (fun h => ?_)⟩
    · have h' : sk v = false := by simpa using h
      rw [if_pos h'] at hfd
      refine st H 4 rfl rfl (by simp) fun w3 H => st H 3 rfl rfl (by simp) fun w4 H => ⟨_, obj_heap H 0 rfl, ?_⟩
      rintro w5 rfl
      exact ⟨false, rfl, ⟨fun h => Bool.noConfusion h, fun _ => ⟨v, hfd, obj_put H 0 rfl⟩⟩⟩
    · have h' : sk v = true := by simpa using h
      rw [if_neg (by rw [h']; simp)] at hfd
      refine ⟨_, obj_heap H 0 rfl, ?_⟩
      rintro w5 rfl
      exact ⟨true, rfl, ⟨fun _ => ⟨fun u hu => hm u (List.mem_cons_of_mem _ hu), hfd, obj_put H 0 rfl⟩, fun h => Bool.noConfusion h⟩⟩
  · rintro _ w6 (⟨_, hfd, H⟩ | ⟨v, hfd, H⟩)
    · refine ⟨_, obj_heap H 0 rfl, (fun h => by cases h), ?_⟩
      rintro w7 rfl
      have H := obj_put (o' := .loop { loopOf F.vmtf_Queue_Find t (rgOf Tryz.f157).1 (rgOf Tryz.f157).2.1 (rgOf Tryz.f157).2.2 r with state := .exhausted }) H 0 rfl
      refine st H 4 rfl rfl (by simp) fun w8 H => st H 3 rfl rfl (by simp) fun w9 H => ⟨obj_heap H 1 rfl, ?_⟩
      rintro w10 rfl
      have H := obj_put (o' := .deferred none) H 1 rfl
      refine ⟨_, cel H 4 rfl rfl, _, cel H 3 rfl rfl, ?_, H.tail.tail.tail.tail.tail.tail⟩
      rw [hfd]; rfl
    · refine ⟨_, obj_heap H 0 rfl, (fun h => by cases h), ?_⟩
      rintro w7 rfl
      have H := obj_put (o' := .loop { loopOf F.vmtf_Queue_Find t (rgOf Tryz.f157).1 (rgOf Tryz.f157).2.1 (rgOf Tryz.f157).2.2 r with state := .exhausted, pending := some .ret }) H 0 rfl
      refine ⟨obj_heap H 1 rfl, ?_⟩
      rintro w10 rfl
      have H := obj_put (o' := .deferred none) H 1 rfl
      refine ⟨_, cel H 4 rfl rfl, _, cel H 3 rfl rfl, ?_, H.tail.tail.tail.tail.tail.tail⟩
      rw [hfd]
end Go.Sv
/- What a new queue's links lead through. -/
namespace Go.Sv
theorem qnew_done (n : Nat) : ∀ k j, j < k → k ≤ n + 1 → (qnew n k)[j]? = some ⟨(j : Int) - 1, (j : Int) + 1, 0⟩
  | 0, j, h, _ => by omega
  | k + 1, j, h, hk => by
    have hl := qnew_len n k
    simp only [qnew]
    rw [List.getElem?_set]
    by_cases hj : k = j
    · subst hj; rw [if_pos rfl, if_pos (by omega)]
    · rw [if_neg hj]; exact qnew_done n k j (by omega) (by omega)
theorem qu_new_len (n : Nat) : (Qu.new n).l.length = n + 1 := by
  unfold Qu.new qend
  simp [qnew_len]
theorem qu_new_behind (n j : Nat) (hj : j ≤ n) : (Qu.new n).behind (j : Int) = if j = n then 0 else (j : Int) + 1 := by
  have hl := qnew_len n (n + 1)
  unfold Qu.behind
  rw [Int.toNat_natCast]
  unfold Qu.new qend
  simp only
  have h0 := qnew_done n (n + 1) 0 (by omega) (Nat.le_refl _)
  rw [h0]
  simp only [Option.getD_some]
  rw [List.getElem?_set]
  by_cases hn : n = j
  · subst hn
    rw [if_pos rfl, if_pos (by rw [List.length_set]; omega), if_pos rfl]
  · rw [if_neg hn, if_neg (fun e => hn e.symm), List.getElem?_set]
    by_cases h1 : 0 = j
    · subst h1; rw [if_pos rfl, if_pos (by omega)]
    · rw [if_neg h1, qnew_done n (n + 1) j (by omega) (Nat.le_refl _)]
/-- 1, 2, .. , n. -/
def upTo (k : Nat) : Nat → List Int
  | 0 => []
  | m + 1 => (k : Int) :: upTo (k + 1) m
theorem upTo_chain (n : Nat) : ∀ (m k : Nat), k + m = n + 1 → 1 ≤ k → Chain (Qu.new n) (upTo k m) (if m = 0 then 0 else (k : Int))
  | 0, k, _, _ => rfl
  | m + 1, k, h, hk => by
    have hb := qu_new_behind n k (by omega)
    have hl := qu_new_len n
    have ih := upTo_chain n m (k + 1) (by omega) (by omega)
    refine ⟨by simp, by omega, by omega, by rw [hl]; omega, ?_⟩
    rw [hb]
    by_cases hm : m = 0
    · subst hm
      rw [if_pos (by omega)]
      exact ih
    · rw [if_neg (by omega)]
      rw [if_neg hm] at ih
      exact ih
theorem qu_new_chain (n : Nat) : Chain (Qu.new n) (upTo 1 n) ((Qu.new n).behind 0) := by
  have h := upTo_chain n n 1 (by omega) (Nat.le_refl _)
  have hb := qu_new_behind n 0 (Nat.zero_le _)
  have e : ((0 : Nat) : Int) = 0 := rfl
  rw [e] at hb
  rw [hb]
  by_cases hn : n = 0
  · subst hn; exact h
  · rw [if_neg hn] at h
    rw [if_neg (fun e => hn e.symm)]
    exact h
theorem upTo_mem : ∀ (m k : Nat) (x : Int), x ∈ upTo k m ↔ (k : Int) ≤ x ∧ x < (k : Int) + m
  | 0, k, x => by simp only [upTo, List.not_mem_nil, false_iff]; omega
  | m + 1, k, x => by
    unfold upTo
    rw [List.mem_cons, upTo_mem m (k + 1) x]
    omega
end Go.Sv
/- Sums and products that stay below their bound. -/
namespace Go.Sv
open Go Go.Proofs
set_option maxRecDepth 100000

theorem wrapU {n : Int} (h0 : 0 ≤ n) (h1 : n < 18446744073709551616) : IntKind.u64.wrap n = n := by
  have e : (2 : Int) ^ (64 : Nat) = 18446744073709551616 := by decide
  simp only [IntKind.wrap, IntKind.signed, IntKind.bits, e]
  simp; omega
theorem shr32 {x : Int} (_ : 0 ≤ x) : shrI .u64 x 32 = x / 4294967296 := by
  have e : (2 : Int) ^ (min (32 : Int).toNat IntKind.u64.bits) = 4294967296 := by decide
  unfold shrI
  rw [e, Int.fdiv_eq_ediv_of_nonneg _ (by omega)]
theorem and32 {x : Int} (h0 : 0 ≤ x) (h1 : x < 18446744073709551616) : bitI .and .u64 x 4294967295 = x % 4294967296 := by
  obtain ⟨n, rfl⟩ := Int.eq_ofNat_of_zero_le h0
  have hn : n < 18446744073709551616 := by omega
  have t1 : (BitVec.ofInt 64 (n : Int)).toNat = n := by
    rw [BitVec.ofInt_natCast, BitVec.toNat_ofNat, Nat.mod_eq_of_lt (by omega)]
  have t2 : (BitVec.ofInt 64 (4294967295 : Int)).toNat = 4294967295 := by decide
  show IntKind.u64.wrap ((BitVec.ofInt 64 (n : Int) &&& BitVec.ofInt 64 (4294967295 : Int)).toNat : Int) = _
  rw [BitVec.toNat_and, t1, t2, show (4294967295 : Nat) = 2 ^ 32 - 1 from rfl, Nat.and_two_pow_sub_one_eq_mod, show (2 : Nat) ^ 32 = 4294967296 from rfl]
  rw [wrapU (by omega) (by omega)]
  omega
theorem mul32 {a c : Nat} (ha : a < 4294967296) (hc : c < 4294967296) : a * c ≤ 18446744065119617025 := by
  have := Nat.mul_le_mul (Nat.le_of_lt_succ ha) (Nat.le_of_lt_succ hc)
  simpa using this
theorem mul64 {x1 x0 y1 y0 : Nat} (h1 : x1 < 4294967296) (h2 : x0 < 4294967296) (h3 : y1 < 4294967296) (h4 : y0 < 4294967296) :
    x1 * y0 + x0 * y0 / 4294967296 < 18446744073709551616 ∧ (x1 * y0 + x0 * y0 / 4294967296) % 4294967296 + x0 * y1 < 18446744073709551616 ∧
    (x1 * 4294967296 + x0) * (y1 * 4294967296 + y0) / 18446744073709551616 = x1 * y1 + (x1 * y0 + x0 * y0 / 4294967296) / 4294967296 + ((x1 * y0 + x0 * y0 / 4294967296) % 4294967296 + x0 * y1) / 4294967296 := by
  have b : ∀ {a c : Nat}, a < 4294967296 → c < 4294967296 → a * c ≤ 18446744065119617025 := fun ha hc => by
    have := Nat.mul_le_mul (Nat.le_of_lt_succ ha) (Nat.le_of_lt_succ hc)
    simpa using this
  have p00 := b h2 h4
  have p01 := b h2 h3
  have p10 := b h1 h4
  have p11 := b h1 h3
  have e : (x1 * 4294967296 + x0) * (y1 * 4294967296 + y0) = x1 * y1 * 18446744073709551616 + (x1 * y0 + x0 * y1) * 4294967296 + x0 * y0 := by
    simp only [Nat.add_mul, Nat.mul_add]
    have a1 : x1 * 4294967296 * (y1 * 4294967296) = x1 * y1 * 18446744073709551616 := by
      rw [Nat.mul_mul_mul_comm]
    have a2 : x1 * 4294967296 * y0 = x1 * y0 * 4294967296 := by rw [Nat.mul_right_comm]
    have a3 : x0 * (y1 * 4294967296) = x0 * y1 * 4294967296 := by rw [Nat.mul_assoc]
    omega
  rw [e]
  generalize x1 * y1 = a at *
  generalize x1 * y0 = c at *
  generalize x0 * y1 = d at *
  generalize x0 * y0 = f at *
  refine ⟨by omega, by omega, by omega⟩

theorem k_Mul64 {L : List HPr} {w : World} (H : Holds L w) {n m : Nat} (hn : n < 18446744073709551616) (hm : m < 18446744073709551616) :
    Calls cx.P F.math_bits_Mul64 #[vU (n : Int), vU (m : Int)] w (Ret fun v w' => v = .tuple #[vU ((n * m / 18446744073709551616 : Nat) : Int), vU (IntKind.u64.wrap ((n : Int) * (m : Int)))] ∧ Holds L w') := by
  apply vc_math_bits_Mul64
  have hx1 : n / 4294967296 < 4294967296 := by omega
  have hx0 : n % 4294967296 < 4294967296 := by omega
  have hy1 : m / 4294967296 < 4294967296 := by omega
  have hy0 : m % 4294967296 < 4294967296 := by omega
  obtain ⟨g1, g2, g3⟩ := mul64 hx1 hx0 hy1 hy0
  have en : n / 4294967296 * 4294967296 + n % 4294967296 = n := Nat.div_add_mod' n 4294967296
  have em : m / 4294967296 * 4294967296 + m % 4294967296 = m := Nat.div_add_mod' m 4294967296
  rw [en, em] at g3
  have p00 := mul32 hx0 hy0
  have p01 := mul32 hx0 hy1
  have p10 := mul32 hx1 hy0
  have p11 := mul32 hx1 hy1
  have s1 : shrI .u64 (n : Int) 32 = ((n / 4294967296 : Nat) : Int) := by rw [shr32 (by omega)]; omega
  have s2 : shrI .u64 (m : Int) 32 = ((m / 4294967296 : Nat) : Int) := by rw [shr32 (by omega)]; omega
  have a1 : bitI .and .u64 (n : Int) 4294967295 = ((n % 4294967296 : Nat) : Int) := by rw [and32 (by omega) (by omega)]; omega
  have a2 : bitI .and .u64 (m : Int) 4294967295 = ((m % 4294967296 : Nat) : Int) := by rw [and32 (by omega) (by omega)]; omega
  rw [s1, s2, a1, a2]
  generalize n / 4294967296 = x1 at *
  generalize n % 4294967296 = x0 at *
  generalize m / 4294967296 = y1 at *
  generalize m % 4294967296 = y0 at *
  rw [← Int.natCast_mul, ← Int.natCast_mul, ← Int.natCast_mul, ← Int.natCast_mul]
  generalize x1 * y1 = p at *
  generalize x1 * y0 = q at *
  generalize x0 * y1 = r at *
  generalize x0 * y0 = t at *
  have w1 : IntKind.u64.wrap (t : Int) = t := wrapU (by omega) (by omega)
  have w2 : IntKind.u64.wrap (q : Int) = q := wrapU (by omega) (by omega)
  have w3 : IntKind.u64.wrap (r : Int) = r := wrapU (by omega) (by omega)
  have w4 : IntKind.u64.wrap (p : Int) = p := wrapU (by omega) (by omega)
  rw [w1, w2, w3, w4]
  have s3 : shrI .u64 (t : Int) 32 = ((t / 4294967296 : Nat) : Int) := by rw [shr32 (by omega)]; omega
  rw [s3]
  have w5 : IntKind.u64.wrap ((q : Int) + ((t / 4294967296 : Nat) : Int)) = ((q + t / 4294967296 : Nat) : Int) := by rw [wrapU (by omega) (by omega)]; omega
  rw [w5]
  generalize q + t / 4294967296 = u at *
  have s4 : shrI .u64 (u : Int) 32 = ((u / 4294967296 : Nat) : Int) := by rw [shr32 (by omega)]; omega
  have a3 : bitI .and .u64 (u : Int) 4294967295 = ((u % 4294967296 : Nat) : Int) := by rw [and32 (by omega) (by omega)]; omega
  rw [s4, a3]
  have w6 : IntKind.u64.wrap (((u % 4294967296 : Nat) : Int) + (r : Int)) = ((u % 4294967296 + r : Nat) : Int) := by rw [wrapU (by omega) (by omega)]; omega
  rw [w6]
  generalize u % 4294967296 + r = z at *
  have s5 : shrI .u64 (z : Int) 32 = ((z / 4294967296 : Nat) : Int) := by rw [shr32 (by omega)]; omega
  rw [s5]
  have hb : n * m < 18446744073709551616 * 18446744073709551616 := Nat.mul_lt_mul'' hn hm
  have hq : n * m / 18446744073709551616 < 18446744073709551616 := Nat.div_lt_of_lt_mul hb
  have w7 : IntKind.u64.wrap ((p : Int) + ((u / 4294967296 : Nat) : Int)) = ((p + u / 4294967296 : Nat) : Int) := by rw [wrapU (by omega) (by omega)]; omega
  rw [w7]
  have w8 : IntKind.u64.wrap (((p + u / 4294967296 : Nat) : Int) + ((z / 4294967296 : Nat) : Int)) = ((n * m / 18446744073709551616 : Nat) : Int) := by rw [wrapU (by omega) (by omega)]; omega
  rw [w8]
  exact ⟨by omega, by omega, by omega, by omega, by omega, rfl, H⟩

def fitT (n : Int) : Int := min (max n 0) 4611686018427387904
theorem fitT_range (n : Int) : 0 ≤ fitT n ∧ fitT n ≤ 4611686018427387904 := by unfold fitT; omega
theorem k_fitT {L : List HPr} {w : World} (H : Holds L w) (n : Int) : Calls cx.P F.ticks_fit #[vI n] w (Ret fun v w' => v = vI (fitT n) ∧ Holds L w') := by
  apply vc_ticks_fit
  rw [iMax_eq, iMin_eq]
  exact ⟨rfl, H⟩
def sumT (a b : Int) : Int := min (fitT a + fitT b) 4611686018427387904
theorem k_Sum {L : List HPr} {w : World} (H : Holds L w) (a b : Int) : Calls cx.P F.ticks_Sum #[vI a, vI b] w (Ret fun v w' => v = vI (sumT a b) ∧ Holds L w') := by
  apply vc_ticks_Sum
  refine Calls.ret (k_fitT H a) ?_
  rintro _ w1 ⟨rfl, H⟩
  refine ⟨_, rfl, Calls.ret (k_fitT H b) ?_⟩
  rintro _ w2 ⟨rfl, H⟩
  refine ⟨_, rfl, ?_⟩
  have ha := fitT_range a
  have hb := fitT_range b
  have e : iMin (IntKind.u64.wrap ((IntKind.u64.wrap (fitT a)) + (IntKind.u64.wrap (fitT b)))) 4611686018427387904 = sumT a b := by
    rw [wrapU ha.1 (by omega), wrapU hb.1 (by omega), wrapU (by omega) (by omega), iMin_eq]; rfl
  rw [e]
  exact ⟨by unfold InI sumT; omega, rfl, H⟩
def timesT (a b : Int) : Int := min (fitT a * fitT b) 4611686018427387904
theorem k_Times {L : List HPr} {w : World} (H : Holds L w) (a b : Int) : Calls cx.P F.ticks_Times #[vI a, vI b] w (Ret fun v w' => v = vI (timesT a b) ∧ Holds L w') := by
  apply vc_ticks_Times
  refine Calls.ret (k_fitT H a) ?_
  rintro _ w1 ⟨rfl, H⟩
  refine ⟨_, rfl, Calls.ret (k_fitT H b) ?_⟩
  rintro _ w2 ⟨rfl, H⟩
  refine ⟨_, rfl, ?_⟩
  have ha := fitT_range a
  have hb := fitT_range b
  unfold timesT
  rw [wrapU ha.1 (by omega), wrapU hb.1 (by omega)]
  obtain ⟨n, hn⟩ := Int.eq_ofNat_of_zero_le ha.1
  obtain ⟨m, hm⟩ := Int.eq_ofNat_of_zero_le hb.1
  have n1 : n < 18446744073709551616 := by omega
  have m1 : m < 18446744073709551616 := by omega
  rw [hn, hm]
  refine Calls.ret (k_Mul64 H (n := n) (m := m) n1 m1) ?_
  rintro _ w3 ⟨rfl, H⟩
  rw [← Int.natCast_mul]
  generalize n * m = z
  refine ⟨_, _, rfl, gif_i (fun h => ?_) (fun h => ?_)⟩
  · have h' : ((z / 18446744073709551616 : Nat) : Int) > 0 := of_decide_eq_true h
    exact ⟨by congr 1; omega, H⟩
  · have h' : ¬ ((z / 18446744073709551616 : Nat) : Int) > 0 := of_decide_eq_false h
    have hz : (z : Int) < 18446744073709551616 := by omega
    rw [wrapU (by omega) hz, iMin_eq]
    exact ⟨by unfold InI; omega, rfl, H⟩
end Go.Sv
/- When clauses are forgotten. -/
namespace Go.Sv
open Go Go.Proofs
set_option maxRecDepth 100000

structure Op where
  conflicts : Int
  words : Int
  restart : Int
  first : Int
  rise : Int
  walk : Int
  kind : Int
  base : Int
  noise : Int
  mode : Int
  phase : Int
  low : Int
  mid : Int
  minimise : Int
  binary : Int
  seed : Int
def Op.vs (o : Op) : List Value := [vI o.conflicts, vI o.words, vI o.restart, vI o.first, vI o.rise, vI o.walk, vI o.kind, vI o.base, vI o.noise, vI o.mode, vI o.phase, vI o.low, vI o.mid, vI o.minimise, vI o.binary, vU o.seed]
abbrev Op.v (o : Op) : Value := .agg #[vI o.conflicts, vI o.words, vI o.restart, vI o.first, vI o.rise, vI o.walk, vI o.kind, vI o.base, vI o.noise, vI o.mode, vI o.phase, vI o.low, vI o.mid, vI o.minimise, vI o.binary, vU o.seed]
def reduceAt (o : Op) (k : Int) : Int :=
  if Int.tmod k 2 = 0 then sumT (timesT k o.first) (timesT (timesT (Int.tdiv k 2) (k - 1)) o.rise)
  else sumT (timesT k o.first) (timesT (timesT k (Int.tdiv (k - 1) 2)) o.rise)
theorem k_ReduceAt {L : List HPr} {w : World} (H : Holds L w) (o : Op) (k : Int) (h0 : 0 ≤ k) (h1 : k ≤ 4611686018427387904) : Calls cx.P F.opts_ReduceAt #[o.v, vI k] w (Ret fun v w' => v = vI (reduceAt o k) ∧ Holds L w') := by
  apply vc_opts_ReduceAt
  have d1 : Int.tdiv k 2 = k / 2 := Int.tdiv_eq_ediv_of_nonneg h0
  have d2 : InI (Int.tdiv (k - 1) 2) := by
    by_cases hk : k = 0
    · subst hk; unfold InI; decide
    · rw [Int.tdiv_eq_ediv_of_nonneg (by omega)]; unfold InI; omega
  unfold reduceAt
  refine al H fun b1 w1 H => ⟨by unfold InI; omega, by omega, gif_i (fun h => ?_) (fun h => ?_)⟩
  · have h' : Int.tmod k 2 = 0 := by simpa using h
    rw [if_pos h']
    refine ⟨by omega, by rw [d1]; unfold InI; omega, dr H fun w2 H => ⟨_, cel H 0 rfl rfl, _, cel H 0 rfl rfl, Calls.ret (k_Times H _ _) ?_⟩⟩
    rintro _ w3 ⟨rfl, H⟩
    refine ⟨_, rfl, cel H 0 rfl rfl, Calls.ret (k_Times H _ _) ?_⟩
    rintro _ w4 ⟨rfl, H⟩
    refine ⟨_, rfl, cel H 0 rfl rfl, Calls.ret (k_Times H _ _) ?_⟩
    rintro _ w5 ⟨rfl, H⟩
    refine ⟨_, rfl, Calls.ret (k_Sum H _ _) ?_⟩
    rintro _ w6 ⟨rfl, H⟩
    exact ⟨_, rfl, rfl, H.tail⟩
  · have h' : ¬ Int.tmod k 2 = 0 := by simpa using h
    rw [if_neg h']
    refine ⟨by omega, d2, dr H fun w2 H => ⟨_, cel H 0 rfl rfl, _, cel H 0 rfl rfl, Calls.ret (k_Times H _ _) ?_⟩⟩
    rintro _ w3 ⟨rfl, H⟩
    refine ⟨_, rfl, cel H 0 rfl rfl, Calls.ret (k_Times H _ _) ?_⟩
    rintro _ w4 ⟨rfl, H⟩
    refine ⟨_, rfl, cel H 0 rfl rfl, Calls.ret (k_Times H _ _) ?_⟩
    rintro _ w5 ⟨rfl, H⟩
    refine ⟨_, rfl, Calls.ret (k_Sum H _ _) ?_⟩
    rintro _ w6 ⟨rfl, H⟩
    exact ⟨_, rfl, rfl, H.tail⟩
end Go.Sv
/- How many bits a number has, and the sequence that restarts follow. -/
namespace Go.Sv
open Go Go.Proofs
set_option maxRecDepth 100000
/-- t bits suffice for n, and t - 1 don't. -/
def Bits (n t : Nat) : Prop := n < 2 ^ t ∧ (n ≠ 0 → 2 ^ (t - 1) ≤ n ∧ 0 < t) ∧ (n = 0 → t = 0)
theorem bits_shift {n k t : Nat} (h : Bits (n / 2 ^ k) t) (hn : 2 ^ k ≤ n) : Bits n (k + t) := by
  have hp : 0 < 2 ^ k := Nat.two_pow_pos k
  have h0 : n / 2 ^ k ≠ 0 := by
    have := Nat.div_pos hn hp
    omega
  obtain ⟨h1, h2, _⟩ := h
  obtain ⟨h2, h3⟩ := h2 h0
  refine ⟨?_, fun _ => ⟨?_, by omega⟩, fun e => by subst e; omega⟩
  · rw [Nat.pow_add, Nat.mul_comm]
    exact (Nat.div_lt_iff_lt_mul hp).1 h1
  · rw [show k + t - 1 = k + (t - 1) by omega, Nat.pow_add, Nat.mul_comm]
    exact (Nat.le_div_iff_mul_le hp).1 h2
theorem bits_uniq {n s t : Nat} (h : Bits n s) (k : Bits n t) : s = t := by
  by_cases hn : n = 0
  · rw [h.2.2 hn, k.2.2 hn]
  · obtain ⟨h1, h2⟩ := h.2.1 hn
    obtain ⟨k1, k2⟩ := k.2.1 hn
    have a : s - 1 < t := (Nat.pow_lt_pow_iff_right (by omega)).1 (Nat.lt_of_le_of_lt h1 k.1)
    have b : t - 1 < s := (Nat.pow_lt_pow_iff_right (by omega)).1 (Nat.lt_of_le_of_lt k1 h.1)
    omega

instance (n t : Nat) : Decidable (Bits n t) := by unfold Bits; infer_instance
theorem tbl_bits : ∀ i : Nat, i < 256 → Bits i (byteAt (⟨#[0, 1, 2, 2, 3, 3, 3, 3, 4, 4, 4, 4, 4, 4, 4, 4, 5, 5, 5, 5, 5, 5, 5, 5, 5, 5, 5, 5, 5, 5, 5, 5, 6, 6, 6, 6, 6, 6, 6, 6, 6, 6, 6, 6, 6, 6, 6, 6, 6, 6, 6, 6, 6, 6, 6, 6, 6, 6, 6, 6, 6, 6, 6, 6, 7, 7, 7, 7, 7, 7, 7, 7, 7, 7, 7, 7, 7, 7, 7, 7, 7, 7, 7, 7, 7, 7, 7, 7, 7, 7, 7, 7, 7, 7, 7, 7, 7, 7, 7, 7, 7, 7, 7, 7, 7, 7, 7, 7, 7, 7, 7, 7, 7, 7, 7, 7, 7, 7, 7, 7, 7, 7, 7, 7, 7, 7, 7, 7, 8, 8, 8, 8, 8, 8, 8, 8, 8, 8, 8, 8, 8, 8, 8, 8, 8, 8, 8, 8, 8, 8, 8, 8, 8, 8, 8, 8, 8, 8, 8, 8, 8, 8, 8, 8, 8, 8, 8, 8, 8, 8, 8, 8, 8, 8, 8, 8, 8, 8, 8, 8, 8, 8, 8, 8, 8, 8, 8, 8, 8, 8, 8, 8, 8, 8, 8, 8, 8, 8, 8, 8, 8, 8, 8, 8, 8, 8, 8, 8, 8, 8, 8, 8, 8, 8, 8, 8, 8, 8, 8, 8, 8, 8, 8, 8, 8, 8, 8, 8, 8, 8, 8, 8, 8, 8, 8, 8, 8, 8, 8, 8, 8, 8, 8, 8, 8, 8, 8, 8, 8, 8, 8, 8, 8, 8, 8, 8]⟩) (i : Int)).toNat := by decide +kernel

theorem shrN (n k : Nat) (hk : k ≤ 63) : shrI .u64 (n : Int) (k : Int) = ((n / 2 ^ k : Nat) : Int) := by
  unfold shrI
  have e : min ((k : Int)).toNat IntKind.u64.bits = k := by
    show min k 64 = k
    omega
  rw [e, Int.fdiv_eq_ediv_of_nonneg _ (by exact Int.le_of_lt (by exact_mod_cast Nat.two_pow_pos k))]
  push_cast
  rfl
theorem wrap8 {n : Nat} (h : n < 256) : IntKind.u8.wrap (n : Int) = n := by
  have e : (2 : Int) ^ (8 : Nat) = 256 := by decide
  simp only [IntKind.wrap, IntKind.signed, IntKind.bits, e]
  simp; omega

theorem gif_d {p : Prop} [Decidable p] {X Y : Prop} (h1 : p → X) (h2 : ¬ p → Y) : gif (decide p) X Y := gif_i (fun h => h1 (of_decide_eq_true h)) (fun h => h2 (of_decide_eq_false h))
theorem leaf_bits {n k : Nat} (hk : k = 0 ∨ 2 ^ k ≤ n) (hi : n / 2 ^ k < 256) : Bits n (k + (byteAt (⟨#[0, 1, 2, 2, 3, 3, 3, 3, 4, 4, 4, 4, 4, 4, 4, 4, 5, 5, 5, 5, 5, 5, 5, 5, 5, 5, 5, 5, 5, 5, 5, 5, 6, 6, 6, 6, 6, 6, 6, 6, 6, 6, 6, 6, 6, 6, 6, 6, 6, 6, 6, 6, 6, 6, 6, 6, 6, 6, 6, 6, 6, 6, 6, 6, 7, 7, 7, 7, 7, 7, 7, 7, 7, 7, 7, 7, 7, 7, 7, 7, 7, 7, 7, 7, 7, 7, 7, 7, 7, 7, 7, 7, 7, 7, 7, 7, 7, 7, 7, 7, 7, 7, 7, 7, 7, 7, 7, 7, 7, 7, 7, 7, 7, 7, 7, 7, 7, 7, 7, 7, 7, 7, 7, 7, 7, 7, 7, 7, 8, 8, 8, 8, 8, 8, 8, 8, 8, 8, 8, 8, 8, 8, 8, 8, 8, 8, 8, 8, 8, 8, 8, 8, 8, 8, 8, 8, 8, 8, 8, 8, 8, 8, 8, 8, 8, 8, 8, 8, 8, 8, 8, 8, 8, 8, 8, 8, 8, 8, 8, 8, 8, 8, 8, 8, 8, 8, 8, 8, 8, 8, 8, 8, 8, 8, 8, 8, 8, 8, 8, 8, 8, 8, 8, 8, 8, 8, 8, 8, 8, 8, 8, 8, 8, 8, 8, 8, 8, 8, 8, 8, 8, 8, 8, 8, 8, 8, 8, 8, 8, 8, 8, 8, 8, 8, 8, 8, 8, 8, 8, 8, 8, 8, 8, 8, 8, 8, 8, 8, 8, 8, 8, 8, 8, 8, 8, 8]⟩) (IntKind.u8.wrap ((n / 2 ^ k : Nat) : Int))).toNat) := by
  rw [wrap8 hi]
  have h := tbl_bits _ hi
  rcases hk with rfl | hk
  · rw [Nat.pow_zero, Nat.div_one] at h ⊢
    rw [Nat.zero_add]; exact h
  · exact bits_shift h hk
theorem k_Len64 {L : List HPr} {w : World} (H : Holds L w) {n : Nat} (hn : n < 18446744073709551616) : Calls cx.P F.math_bits_Len64 #[vU (n : Int)] w (Ret fun v w' => ∃ t : Nat, v = vI (t : Int) ∧ Bits n t ∧ Holds L w') := by
  apply vc_math_bits_Len64
  have s32 : shrI .u64 (n : Int) 32 = ((n / 2 ^ 32 : Nat) : Int) := shrN n 32 (by omega)
  have s16 : shrI .u64 (n : Int) 16 = ((n / 2 ^ 16 : Nat) : Int) := shrN n 16 (by omega)
  have s8 : shrI .u64 (n : Int) 8 = ((n / 2 ^ 8 : Nat) : Int) := shrN n 8 (by omega)
  have s48 : shrI .u64 ((n / 2 ^ 32 : Nat) : Int) 16 = ((n / 2 ^ 48 : Nat) : Int) := by rw [show (16 : Int) = ((16 : Nat) : Int) from rfl, shrN _ 16 (by omega), Nat.div_div_eq_div_mul]
  have s40 : shrI .u64 ((n / 2 ^ 32 : Nat) : Int) 8 = ((n / 2 ^ 40 : Nat) : Int) := by rw [show (8 : Int) = ((8 : Nat) : Int) from rfl, shrN _ 8 (by omega), Nat.div_div_eq_div_mul]
  have s56 : shrI .u64 ((n / 2 ^ 48 : Nat) : Int) 8 = ((n / 2 ^ 56 : Nat) : Int) := by rw [show (8 : Int) = ((8 : Nat) : Int) from rfl, shrN _ 8 (by omega), Nat.div_div_eq_div_mul]
  have s24 : shrI .u64 ((n / 2 ^ 16 : Nat) : Int) 8 = ((n / 2 ^ 24 : Nat) : Int) := by rw [show (8 : Int) = ((8 : Nat) : Int) from rfl, shrN _ 8 (by omega), Nat.div_div_eq_div_mul]
  rw [s32, s48, s40, s56, s16, s24, s8]
  have rng := byteAt_range (⟨#[0, 1, 2, 2, 3, 3, 3, 3, 4, 4, 4, 4, 4, 4, 4, 4, 5, 5, 5, 5, 5, 5, 5, 5, 5, 5, 5, 5, 5, 5, 5, 5, 6, 6, 6, 6, 6, 6, 6, 6, 6, 6, 6, 6, 6, 6, 6, 6, 6, 6, 6, 6, 6, 6, 6, 6, 6, 6, 6, 6, 6, 6, 6, 6, 7, 7, 7, 7, 7, 7, 7, 7, 7, 7, 7, 7, 7, 7, 7, 7, 7, 7, 7, 7, 7, 7, 7, 7, 7, 7, 7, 7, 7, 7, 7, 7, 7, 7, 7, 7, 7, 7, 7, 7, 7, 7, 7, 7, 7, 7, 7, 7, 7, 7, 7, 7, 7, 7, 7, 7, 7, 7, 7, 7, 7, 7, 7, 7, 8, 8, 8, 8, 8, 8, 8, 8, 8, 8, 8, 8, 8, 8, 8, 8, 8, 8, 8, 8, 8, 8, 8, 8, 8, 8, 8, 8, 8, 8, 8, 8, 8, 8, 8, 8, 8, 8, 8, 8, 8, 8, 8, 8, 8, 8, 8, 8, 8, 8, 8, 8, 8, 8, 8, 8, 8, 8, 8, 8, 8, 8, 8, 8, 8, 8, 8, 8, 8, 8, 8, 8, 8, 8, 8, 8, 8, 8, 8, 8, 8, 8, 8, 8, 8, 8, 8, 8, 8, 8, 8, 8, 8, 8, 8, 8, 8, 8, 8, 8, 8, 8, 8, 8, 8, 8, 8, 8, 8, 8, 8, 8, 8, 8, 8, 8, 8, 8, 8, 8, 8, 8, 8, 8, 8, 8, 8, 8]⟩)
  have fin : ∀ (k : Nat) (w' : World), k ≤ 56 → (k = 0 ∨ 2 ^ k ≤ n) → n / 2 ^ k < 256 → Holds L w' → ∃ t : Nat, vI ((k : Int) + byteAt (⟨#[0, 1, 2, 2, 3, 3, 3, 3, 4, 4, 4, 4, 4, 4, 4, 4, 5, 5, 5, 5, 5, 5, 5, 5, 5, 5, 5, 5, 5, 5, 5, 5, 6, 6, 6, 6, 6, 6, 6, 6, 6, 6, 6, 6, 6, 6, 6, 6, 6, 6, 6, 6, 6, 6, 6, 6, 6, 6, 6, 6, 6, 6, 6, 6, 7, 7, 7, 7, 7, 7, 7, 7, 7, 7, 7, 7, 7, 7, 7, 7, 7, 7, 7, 7, 7, 7, 7, 7, 7, 7, 7, 7, 7, 7, 7, 7, 7, 7, 7, 7, 7, 7, 7, 7, 7, 7, 7, 7, 7, 7, 7, 7, 7, 7, 7, 7, 7, 7, 7, 7, 7, 7, 7, 7, 7, 7, 7, 7, 8, 8, 8, 8, 8, 8, 8, 8, 8, 8, 8, 8, 8, 8, 8, 8, 8, 8, 8, 8, 8, 8, 8, 8, 8, 8, 8, 8, 8, 8, 8, 8, 8, 8, 8, 8, 8, 8, 8, 8, 8, 8, 8, 8, 8, 8, 8, 8, 8, 8, 8, 8, 8, 8, 8, 8, 8, 8, 8, 8, 8, 8, 8, 8, 8, 8, 8, 8, 8, 8, 8, 8, 8, 8, 8, 8, 8, 8, 8, 8, 8, 8, 8, 8, 8, 8, 8, 8, 8, 8, 8, 8, 8, 8, 8, 8, 8, 8, 8, 8, 8, 8, 8, 8, 8, 8, 8, 8, 8, 8, 8, 8, 8, 8, 8, 8, 8, 8, 8, 8, 8, 8, 8, 8, 8, 8, 8, 8]⟩) (IntKind.u8.wrap ((n / 2 ^ k : Nat) : Int))) = vI (t : Int) ∧ Bits n t ∧ Holds L w' := by
    intro k w' hk h1 h2 H
    have := rng (IntKind.u8.wrap ((n / 2 ^ k : Nat) : Int))
    refine ⟨_, ?_, leaf_bits h1 h2, H⟩
    congr 1
  have fin0 : ∀ (w' : World), n < 256 → Holds L w' → ∃ t : Nat, vI (0 + byteAt (⟨#[0, 1, 2, 2, 3, 3, 3, 3, 4, 4, 4, 4, 4, 4, 4, 4, 5, 5, 5, 5, 5, 5, 5, 5, 5, 5, 5, 5, 5, 5, 5, 5, 6, 6, 6, 6, 6, 6, 6, 6, 6, 6, 6, 6, 6, 6, 6, 6, 6, 6, 6, 6, 6, 6, 6, 6, 6, 6, 6, 6, 6, 6, 6, 6, 7, 7, 7, 7, 7, 7, 7, 7, 7, 7, 7, 7, 7, 7, 7, 7, 7, 7, 7, 7, 7, 7, 7, 7, 7, 7, 7, 7, 7, 7, 7, 7, 7, 7, 7, 7, 7, 7, 7, 7, 7, 7, 7, 7, 7, 7, 7, 7, 7, 7, 7, 7, 7, 7, 7, 7, 7, 7, 7, 7, 7, 7, 7, 7, 8, 8, 8, 8, 8, 8, 8, 8, 8, 8, 8, 8, 8, 8, 8, 8, 8, 8, 8, 8, 8, 8, 8, 8, 8, 8, 8, 8, 8, 8, 8, 8, 8, 8, 8, 8, 8, 8, 8, 8, 8, 8, 8, 8, 8, 8, 8, 8, 8, 8, 8, 8, 8, 8, 8, 8, 8, 8, 8, 8, 8, 8, 8, 8, 8, 8, 8, 8, 8, 8, 8, 8, 8, 8, 8, 8, 8, 8, 8, 8, 8, 8, 8, 8, 8, 8, 8, 8, 8, 8, 8, 8, 8, 8, 8, 8, 8, 8, 8, 8, 8, 8, 8, 8, 8, 8, 8, 8, 8, 8, 8, 8, 8, 8, 8, 8, 8, 8, 8, 8, 8, 8, 8, 8, 8, 8, 8, 8]⟩) (IntKind.u8.wrap (n : Int))) = vI (t : Int) ∧ Bits n t ∧ Holds L w' := fun w' h H => by
    have := fin 0 w' (by omega) (.inl rfl) (by rw [Nat.pow_zero, Nat.div_one]; exact h) H
    rw [Nat.pow_zero, Nat.div_one] at this
    exact this
  refine gif_d (fun h1 => ⟨by omega, gif_d (fun h2 => ⟨by omega, by unfold InI; omega, gif_d (fun h3 => ⟨by omega, by unfold InI; omega, ⟨(u8_range _).1, (u8_range _).2⟩, byteAt_in0 _ _, byteAt_in' _ _ _ (by omega) (by omega), fin 56 _ (by omega) (.inr (by omega)) (by omega) H⟩) (fun h3 => ⟨⟨(u8_range _).1, (u8_range _).2⟩, byteAt_in0 _ _, byteAt_in' _ _ _ (by omega) (by omega), fin 48 _ (by omega) (.inr (by omega)) (by omega) H⟩)⟩) (fun h2 => gif_d (fun h3 => ⟨by omega, by unfold InI; omega, ⟨(u8_range _).1, (u8_range _).2⟩, byteAt_in0 _ _, byteAt_in' _ _ _ (by omega) (by omega), fin 40 _ (by omega) (.inr (by omega)) (by omega) H⟩) (fun h3 => ⟨⟨(u8_range _).1, (u8_range _).2⟩, byteAt_in0 _ _, byteAt_in' _ _ _ (by omega) (by omega), fin 32 _ (by omega) (.inr (by omega)) (by omega) H⟩))⟩) (fun h1 => gif_d (fun h2 => ⟨by omega, by unfold InI; omega, gif_d (fun h3 => ⟨by omega, by unfold InI; omega, ⟨(u8_range _).1, (u8_range _).2⟩, byteAt_in0 _ _, byteAt_in' _ _ _ (by omega) (by omega), fin 24 _ (by omega) (.inr (by omega)) (by omega) H⟩) (fun h3 => ⟨⟨(u8_range _).1, (u8_range _).2⟩, byteAt_in0 _ _, byteAt_in' _ _ _ (by omega) (by omega), fin 16 _ (by omega) (.inr (by omega)) (by omega) H⟩)⟩) (fun h2 => gif_d (fun h3 => ⟨by omega, by unfold InI; omega, ⟨(u8_range _).1, (u8_range _).2⟩, byteAt_in0 _ _, byteAt_in' _ _ _ (by omega) (by omega), fin 8 _ (by omega) (.inr (by omega)) (by omega) H⟩) (fun h3 => ⟨⟨(u8_range _).1, (u8_range _).2⟩, byteAt_in0 _ _, byteAt_in' _ _ _ (by omega) (by omega), fin0 _ (by omega) H⟩)))
end Go.Sv
/- The options that one has by default. -/
namespace Go.Sv
open Go Go.Proofs
set_option maxRecDepth 100000
def Op.dflt : Op := ⟨-1, -1, 50, 300, 100, 1000, 0, 2, 0, 2, 1, 2, 6, 1, 0, 0⟩
theorem k_Default {L : List HPr} {w : World} (H : Holds L w) : Calls cx.P F.opts_Default #[] w (Ret fun v w' => v = Op.dflt.v ∧ Holds L w') := by
  apply vc_opts_Default
  refine al H fun b w1 H => st H 0 rfl rfl (by simp) fun w2 H => ⟨-1, -1, 50, 300, 100, 1000, 0, 2, 0, 2, 1, 2, 6, 1, 0, 0, celL_of fun j v hj => cel H 0 rfl (by rw [Nat.zero_add]; exact hj), rfl, H.tail⟩
theorem k_Len {L : List HPr} {w : World} (H : Holds L w) {n : Nat} (hn : n < 18446744073709551616) : Calls cx.P F.math_bits_Len #[vU (n : Int)] w (Ret fun v w' => ∃ t : Nat, v = vI (t : Int) ∧ Bits n t ∧ Holds L w') := by
  apply vc_math_bits_Len
  refine Calls.ret (k_Len64 H hn) ?_
  rintro _ w1 ⟨t, rfl, h, H⟩
  exact ⟨_, rfl, t, rfl, h, H⟩
end Go.Sv
/- The sequence that restarts follow. -/
namespace Go.Sv
open Go Go.Proofs
set_option maxRecDepth 100000
def blen (n : Nat) : Nat := if n = 0 then 0 else Nat.log2 n + 1
theorem blen_bits (n : Nat) : Bits n (blen n) := by
  unfold blen Bits
  by_cases h : n = 0
  · subst h; simp
  · rw [if_neg h]
    refine ⟨Nat.lt_log2_self, fun _ => ⟨by rw [Nat.add_sub_cancel]; exact Nat.log2_self_le h, by omega⟩, fun e => absurd e h⟩
theorem shl1 {t : Nat} (h : t ≤ 62) : shlI .i64 1 (t : Int) = ((2 ^ t : Nat) : Int) := by
  unfold shlI
  have e : min ((t : Int)).toNat IntKind.i64.bits = t := by
    show min t 64 = t
    omega
  have hp : 2 ^ t ≤ 2 ^ 62 := Nat.pow_le_pow_right (by omega) h
  have h62 : (2 : Nat) ^ 62 = 4611686018427387904 := by decide
  rw [e, Int.one_mul]
  have e2 : (2 : Int) ^ t = ((2 ^ t : Nat) : Int) := by push_cast; rfl
  rw [e2]
  generalize 2 ^ t = z at *
  exact wrap_in (by unfold InI; omega)

/-- The sequence 1, 1, 2, 1, 1, 2, 4, .. -/
def lubyGo : Nat → Int → Int
  | 0, _ => 1
  | k + 1, i => if 1 ≤ i then (if i = 2 ^ (blen i.toNat) - 1 then 2 ^ (blen i.toNat - 1) else lubyGo k (i - (2 ^ (blen i.toNat - 1) - 1))) else 1
def luby (i : Int) : Int := lubyGo i.toNat i
theorem k_Luby {L : List HPr} {w : World} (H : Holds L w) {i : Int} (hi : i < 4611686018427387904) (h0 : 0 ≤ i) : Calls cx.P F.ticks_Luby #[vI i] w (Ret fun v w' => v = vI (luby i) ∧ Holds L w') := by
  apply vc_ticks_Luby
  unfold luby
  generalize hR : lubyGo i.toNat i = R
  refine ⟨fun vs w => ∃ (k : Nat) (j : Int), vs = [vI j] ∧ 0 ≤ j ∧ j < 4611686018427387904 ∧ j ≤ k ∧ lubyGo k j = R ∧ Holds L w, fun vs _ => (match vs with | [.int _ j] => j | _ => 0).toNat, ⟨i.toNat, i, rfl, h0, hi, by omega, hR, H⟩, ?_⟩
  rintro i1 w1 ⟨k, j, hv, hj0, hj, hk, hg, H⟩
  simp only [List.cons.injEq, Value.int.injEq, true_and, and_true] at hv
  subst hv
  refine gif_i (fun h => ?_) (fun h => ?_)
  · have h' : 1 ≤ i1 := of_decide_eq_true h
    obtain ⟨k, rfl⟩ : ∃ k', k = k' + 1 := ⟨k - 1, by omega⟩
    have hg : (if 1 ≤ i1 then (if i1 = 2 ^ (blen i1.toNat) - 1 then 2 ^ (blen i1.toNat - 1) else lubyGo k (i1 - (2 ^ (blen i1.toNat - 1) - 1))) else 1) = R := hg
    rw [if_pos h'] at hg
    obtain ⟨n, rfl⟩ := Int.eq_ofNat_of_zero_le hj0
    rw [wrapU (by omega) (by omega)]
    refine Calls.ret (k_Len H (by omega)) ?_
    rintro _ w2 ⟨t, rfl, hb, H⟩
    have et : blen n = t := bits_uniq (blen_bits n) hb
    rw [Int.toNat_natCast, et] at hg
    obtain ⟨b1, b2⟩ := hb.2.1 (by omega)
    have b0 : n < 2 ^ t := hb.1
    have ht : t ≤ 62 := by
      rcases Nat.lt_or_ge t 63 with h | h
      · omega
      · have := Nat.pow_le_pow_right (n := 2) (by omega) (show 62 ≤ t - 1 by omega)
        have h62 : (2 : Nat) ^ 62 = 4611686018427387904 := by decide
        omega
    have p1 := Nat.pow_le_pow_right (n := 2) (by omega) ht
    have p2 : 2 ^ t = 2 * 2 ^ (t - 1) := by rw [show t = (t - 1) + 1 by omega, Nat.pow_succ, Nat.mul_comm]; rfl
    have h62 : (2 : Nat) ^ 62 = 4611686018427387904 := by decide
    have hpos : 0 < 2 ^ (t - 1) := Nat.two_pow_pos _
    have c1 : (2 : Int) ^ t = ((2 ^ t : Nat) : Int) := by push_cast; rfl
    have c2 : (2 : Int) ^ (t - 1) = ((2 ^ (t - 1) : Nat) : Int) := by push_cast; rfl
    rw [c1, c2] at hg
    have st : ((t : Int) - 1) = ((t - 1 : Nat) : Int) := by omega
    refine ⟨_, rfl, by omega, ?_⟩
    rw [shl1 ht, st, shl1 (by omega)]
    generalize 2 ^ t = a at *
    generalize 2 ^ (t - 1) = b at *
    refine ⟨by unfold InI; omega, gif_i (fun h2 => ?_) (fun h2 => ?_)⟩
    · have h2' : (n : Int) = (a : Int) - 1 := by simpa using h2
      rw [if_pos h2'] at hg
      exact ⟨by unfold InI; omega, by omega, by rw [hg], H⟩
    · have h2' : ¬ (n : Int) = (a : Int) - 1 := by simpa using h2
      rw [if_neg h2'] at hg
      exact ⟨by unfold InI; omega, by omega, by unfold InI; omega, by unfold InI; omega, ⟨k, _, rfl, by omega, by omega, by omega, hg, H⟩, by simp only; omega⟩
  · have h' : ¬ 1 ≤ i1 := of_decide_eq_false h
    have : R = 1 := by
      rw [← hg]
      cases k with
      | zero => rfl
      | succ k => show (if 1 ≤ i1 then _ else _) = _; rw [if_neg h']
    rw [this]
    exact ⟨rfl, H⟩

def restartAt (o : Op) (k : Int) : Int := timesT (luby k) o.restart
theorem k_RestartAt {L : List HPr} {w : World} (H : Holds L w) (o : Op) (k : Int) (h0 : 0 ≤ k) (h1 : k < 4611686018427387904) : Calls cx.P F.opts_RestartAt #[o.v, vI k] w (Ret fun v w' => v = vI (restartAt o k) ∧ Holds L w') := by
  apply vc_opts_RestartAt
  refine al H fun b1 w1 H => dr H fun w2 H => ⟨_, cel H 0 rfl rfl, Calls.ret (k_Luby H h1 h0) ?_⟩
  rintro _ w3 ⟨rfl, H⟩
  refine ⟨_, rfl, cel H 0 rfl rfl, Calls.ret (k_Times H _ _) ?_⟩
  rintro _ w4 ⟨rfl, H⟩
  exact ⟨_, rfl, rfl, H.tail⟩
end Go.Sv
/- More of trails in order. -/
namespace Go.Sv
theorem setPhase_shape (S : Tr) (v : Int) (is : Bool) : (S.setPhase v is).l = S.l ∧ (S.setPhase v is).starts = S.starts ∧ (S.setPhase v is).vars.length = S.vars.length := by
  unfold Tr.setPhase
  split
  · split
    · exact ⟨rfl, rfl, rfl⟩
    · exact ⟨rfl, rfl, by simp [Tr.setAt]⟩
  · exact ⟨rfl, rfl, rfl⟩
theorem setPhase_at (S : Tr) (v : Int) (is : Bool) (x : Int) : (S.setPhase v is).at x = if 0 < v ∧ x.natAbs = v.natAbs ∧ x ≠ 0 then (S.at x).map (fun c => { c with phase := is }) else S.at x := by
  unfold Tr.setPhase
  cases hc : S.at v with
  | none =>
    simp only
    split
    · rename_i h
      have : S.at x = none := by
        unfold Tr.at at hc ⊢
        rw [if_neg (by omega)] at hc
        rw [if_neg h.2.2, h.2.1]; exact hc
      rw [this]; rfl
    · rfl
  | some c =>
    simp only
    obtain ⟨h1, h2, h3, h4⟩ := at_some hc
    by_cases hv : v < 0
    · rw [if_pos hv, if_neg (by omega)]
    · rw [if_neg hv]
      unfold Tr.at Tr.setAt
      simp only
      by_cases hx : x = 0
      · simp [hx]
      · simp only [hx, if_false, ne_eq, not_false_eq_true, and_true]
        rw [List.getElem?_set]
        by_cases he : x.natAbs = v.natAbs
        · rw [if_pos (by omega), if_pos (by omega), if_pos ⟨by omega, he⟩, he, h2]; rfl
        · rw [if_neg (by omega), if_neg (fun h => he h.2)]
theorem setPhase_value (S : Tr) (v : Int) (is : Bool) (x : Int) : (S.setPhase v is).value x = S.value x := by
  unfold Tr.value
  rw [setPhase_at]
  by_cases h : 0 < v ∧ x.natAbs = v.natAbs ∧ x ≠ 0
  · rw [if_pos h]; cases S.at x <;> rfl
  · rw [if_neg h]
theorem setPhase_sm {S : Tr} (h : S.Sm) (v : Int) (is : Bool) : (S.setPhase v is).Sm := by
  refine ⟨by rw [(setPhase_shape S v is).2.2]; exact h.n, fun c hc => ?_⟩
  unfold Tr.setPhase at hc
  cases hv : S.at v with
  | none => rw [hv] at hc; exact h.v c hc
  | some d =>
    rw [hv] at hc
    simp only at hc
    split at hc
    · exact h.v c hc
    · rcases List.mem_or_eq_of_mem_set hc with hc | hc
      · exact h.v c hc
      · subst hc; exact h.v d (List.mem_of_getElem? (at_some hv).2.1)
theorem value_idx {S : Tr} {i : Nat} {c : Cell} (h : S.vars[i]? = some c) : S.at ((i : Int) + 1) = some c ∧ S.value ((i : Int) + 1) = c.value := by
  have ha : S.at ((i : Int) + 1) = some c := by
    unfold Tr.at
    rw [if_neg (by omega), show ((i : Int) + 1).natAbs - 1 = i by omega]; exact h
  refine ⟨ha, ?_⟩
  unfold Tr.value
  rw [ha]
  simp only
  rw [if_neg (by omega)]
theorem setPhase_ok {S : Tr} (h : S.Ok) (v : Int) (is : Bool) : (S.setPhase v is).Ok := by
  obtain ⟨e1, e2, e3⟩ := setPhase_shape S v is
  refine ⟨setPhase_sm h.sm v is, fun x hx => by rw [setPhase_value]; exact h.tr x (e1 ▸ hx), by rw [e1]; exact h.nd, fun i c hc hv => ?_, by rw [e1, e2]; exact h.st, by rw [e2]; exact h.so⟩
  rw [e1]
  have h1 := (value_idx hc).2
  rw [setPhase_value] at h1
  have hlt := (List.getElem?_eq_some_iff.1 hc).1
  rw [e3] at hlt
  have hd : S.vars[i]? = some S.vars[i] := List.getElem?_eq_getElem hlt
  have h2 := (value_idx hd).2
  exact h.on i _ hd (by rw [← h2, h1]; exact hv)
theorem decide_ok {S : Tr} (h : S.Ok) (l : Int) : (S.decide l).Ok := by
  unfold Tr.decide
  split
  · rename_i hf
    have h1 := put_ok h l (-1)
    unfold Tr.put at h1
    rw [if_pos hf] at h1
    refine ⟨⟨?_, ?_⟩, ?_, h1.nd, ?_, ?_, ?_⟩
    · have := h1.sm.n
      show (S.vars.set _ _).length ≤ 100000
      rw [List.length_set]; exact h.sm.n
    · intro c hc
      rcases List.mem_or_eq_of_mem_set hc with hc | hc
      · exact h.sm.v c hc
      · subst hc
        by_cases hl : l < 0 <;> simp [hl]
    · intro x hx
      have hf2 : ({ S with starts := S.starts ++ [(S.l.length : Int)] } : Tr).free l = true := hf
      rw [value_putC hf2]
      have := h1.tr x hx
      rw [value_putC hf] at this
      exact this
    · intro i c hc hv
      have hc : (S.vars.set (l.natAbs - 1) _)[i]? = some c := hc
      rw [List.getElem?_set] at hc
      by_cases hi : l.natAbs - 1 = i
      · obtain ⟨d, hd, _⟩ := free_some hf
        have := (at_some hd).1
        exact ⟨l, by simp [Tr.putC], by omega⟩
      · rw [if_neg hi] at hc
        obtain ⟨x, hx, he⟩ := h.on i c hc hv
        exact ⟨x, by simp [Tr.putC, hx], he⟩
    · intro s hs
      have hs : s ∈ S.starts ++ [(S.l.length : Int)] := hs
      show 0 ≤ s ∧ s < ((S.l ++ [l]).length : Int)
      rw [List.length_append]
      rcases List.mem_append.1 hs with hs | hs
      · have := h.st s hs; simp; omega
      · have : s = (S.l.length : Int) := by simpa using hs
        simp; omega
    · show (S.starts ++ [(S.l.length : Int)]).Pairwise (· < ·)
      rw [List.pairwise_append]
      refine ⟨h.so, by simp, fun a ha b hb => ?_⟩
      have : b = (S.l.length : Int) := by simpa using hb
      rw [this]; exact (h.st a ha).2
  · exact h
end Go.Sv
/- Back to a level: the trail stays in order. -/
namespace Go.Sv
theorem clr_get : ∀ (xs : List Int) (S : Tr) (i : Nat), (S.clr xs).vars[i]? = if ∃ x ∈ xs, x.natAbs - 1 = i then (S.vars[i]?).map Cell.off else S.vars[i]?
  | [], S, i => by simp [Tr.clr]
  | x :: xs, S, i => by
    unfold Tr.clr
    rw [clr_get xs]
    simp only [List.getElem?_modify]
    by_cases h1 : ∃ y ∈ xs, y.natAbs - 1 = i
    · rw [if_pos h1, if_pos (by obtain ⟨y, hy, he⟩ := h1; exact ⟨y, List.mem_cons_of_mem _ hy, he⟩)]
      cases S.vars[i]? with
      | none => rfl
      | some c => by_cases hx : x.natAbs - 1 = i <;> simp [hx, Cell.off]
    · rw [if_neg h1]
      by_cases hx : x.natAbs - 1 = i
      · rw [if_pos ⟨x, List.mem_cons_self .., hx⟩]
        cases S.vars[i]? <;> simp [hx]
      · rw [if_neg (by
          rintro ⟨y, hy, he⟩
          rcases List.mem_cons.1 hy with h | h
          · subst h; exact hx he
          · exact h1 ⟨y, h, he⟩)]
        cases S.vars[i]? <;> simp [hx]
theorem back_ok {S : Tr} (h : S.Ok) (level : Int) : (S.back level).Ok := by
  unfold Tr.back
  cases hs : S.starts[(max level 0).toNat]? with
  | none => exact h
  | some s =>
    simp only
    have hst := h.st s (List.mem_of_getElem? hs)
    generalize hn : s.toNat = n
    have hnl : n < S.l.length := by omega
    have hsplit : S.l = S.l.take n ++ S.l.drop n := (List.take_append_drop _ _).symm
    have hnd := h.nd
    rw [hsplit, List.map_append, List.nodup_append] at hnd
    obtain ⟨nd1, nd2, nd3⟩ := hnd
    have cg : ∀ i, (S.clr (S.l.drop n).reverse).vars[i]? = if ∃ x ∈ S.l.drop n, x.natAbs - 1 = i then (S.vars[i]?).map Cell.off else S.vars[i]? := fun i => by
      rw [clr_get]
      simp only [List.mem_reverse]
    have rt : ∀ x ∈ S.l, x ≠ 0 ∧ x.natAbs ≤ S.vars.length := fun x hx => right_iff.1 (value_right (S := S) (x := x) (by rw [h.tr x hx]; omega))
    have keep : ∀ x, x ∈ S.l.take n → ∀ y ∈ S.l.drop n, y.natAbs - 1 ≠ x.natAbs - 1 := fun x hx y hy e => by
      have hx' := rt x (List.mem_of_mem_take hx)
      have hy' := rt y (List.mem_of_mem_drop hy)
      exact nd3 x.natAbs (List.mem_map.2 ⟨x, hx, rfl⟩) y.natAbs (List.mem_map.2 ⟨y, hy, rfl⟩) (by omega)
    refine ⟨⟨by show ((S.clr _).vars).length ≤ _; rw [Tr.clr_len]; exact h.sm.n, fun c hc => ?_⟩, fun x hx => ?_, nd1, fun i c hc hv => ?_, fun t ht => ?_, ?_⟩
    · obtain ⟨i, hi⟩ := List.mem_iff_getElem?.1 hc
      have hi : (S.clr (S.l.drop n).reverse).vars[i]? = some c := hi
      rw [cg] at hi
      split at hi
      · cases hd : S.vars[i]? with
        | none => rw [hd] at hi; simp at hi
        | some d => rw [hd] at hi; simp at hi; subst hi; exact .inr (.inl rfl)
      · exact h.sm.v c (List.mem_of_getElem? hi)
    · have hx : x ∈ S.l.take n := hx
      have hv := h.tr x (List.mem_of_mem_take hx)
      have ha : ({ vars := (S.clr (S.l.drop n).reverse).vars, l := S.l.take n, starts := S.starts.take (max level 0).toNat } : Tr).at x = S.at x := by
        unfold Tr.at
        simp only
        have hne : ¬ ∃ y ∈ S.l.drop n, y.natAbs - 1 = x.natAbs - 1 := fun ⟨y, hy, he⟩ => keep x hx y hy he
        rw [cg, if_neg hne]
      unfold Tr.value at hv ⊢
      rw [ha]; exact hv
    · have hc : (S.clr (S.l.drop n).reverse).vars[i]? = some c := hc
      rw [cg] at hc
      split at hc
      · cases hd : S.vars[i]? with
        | none => rw [hd] at hc; simp at hc
        | some d => rw [hd] at hc; simp at hc; subst hc; exact absurd rfl hv
      · rename_i hne
        obtain ⟨x, hx, he⟩ := h.on i c hc hv
        rw [hsplit] at hx
        rcases List.mem_append.1 hx with hx | hx
        · exact ⟨x, hx, he⟩
        · exact absurd ⟨x, hx, by omega⟩ hne
    · have ht : t ∈ S.starts.take (max level 0).toNat := ht
      have h1 := h.st t (List.mem_of_mem_take ht)
      refine ⟨h1.1, ?_⟩
      show t < ((S.l.take n).length : Int)
      rw [List.length_take]
      obtain ⟨i, hi⟩ := List.mem_iff_getElem?.1 ht
      rw [List.getElem?_take] at hi
      split at hi
      · rename_i hlt
        have hp := List.pairwise_iff_getElem.1 h.so i (max level 0).toNat (get_lt hi) (get_lt hs) hlt
        rw [(List.getElem?_eq_some_iff.1 hi).2, (List.getElem?_eq_some_iff.1 hs).2] at hp
        omega
      · cases hi
    · exact h.so.sublist (List.take_sublist _ _)
end Go.Sv
/- A search: its record, and what is asked of it. -/
namespace Go.Sv
open Go Go.Proofs
set_option maxRecDepth 100000

structure Stp where
  del : Bool
  lits : List Int
def stSlots (hs : List (Option Addr × Nat)) (ps : List Stp) : List Value := (List.zipWith (fun h x => [vB x.del, vS h.1 x.lits.length h.2]) hs ps).flatten
def stRows (hs : List (Option Addr × Nat)) (ps : List Stp) : List HPr := List.zipWith (fun h x => osl T.int 1 h.1 x.lits.length h.2 (x.lits.map vI)) hs ps
def PrR (p : Option Addr) (c : Nat) (ps : List Stp) : HPr := fun m => ∃ hs, hs.length = ps.length ∧ SatL [osl T.api_Step 2 p ps.length c (stSlots hs ps), star (stRows hs ps)] m
structure Se where
  o : Op
  vars : Nat
  W : Wt
  S : Tr
  A : Ar
  Q : Hq
  U : Qu
  proof : List Stp
  verdict : Int
  stopped : Bool
  model : List Bool
  reasons : Int → Option Value
  conflicts : Int
  restarts : Int
  reductions : Int
  since : Int
/-- Where a search's parts lie. -/
structure Pl where
  a : Nat
  t : Nat
  wx : Nat
  h : Nat
  q : Nat
  pp : Option Addr
  pc : Nat
  mp : Option Addr
  mc : Nat
  rb : Nat
def seB (s : Nat) (Z : Se) (p : Pl) : HPr := blk s [vI Z.o.conflicts, vI Z.o.words, vI Z.o.restart, vI Z.o.first, vI Z.o.rise, vI Z.o.walk, vI Z.o.kind, vI Z.o.base, vI Z.o.noise, vI Z.o.mode, vI Z.o.phase, vI Z.o.low, vI Z.o.mid, vI Z.o.minimise, vI Z.o.binary, vU Z.o.seed,
  vI (Z.vars : Int), vP p.a 0, vP p.t 0, vP p.wx 0, vP p.h 0, vP p.q 0, vS p.pp Z.proof.length p.pc, vI Z.verdict, vB Z.stopped, vS p.mp Z.model.length p.mc, .map (some p.rb), vI Z.conflicts, vI Z.restarts, vI Z.reductions, vI Z.since] T.search_Search
def seL (s : Nat) (Z : Se) (p : Pl) : List HPr :=
  [seB s Z p, WtR p.wx p.a p.t Z.W Z.W.lists.length, ArR p.a Z.A, TrR p.t Z.S, HqR p.h Z.Q, QuR p.q Z.U, PrR p.pp p.pc Z.proof, osl T.bool 1 p.mp Z.model.length p.mc (Z.model.map vB), mpF p.rb Z.reasons]
def SeR (s : Nat) (Z : Se) : HPr := fun m => ∃ p, SatL (seL s Z p) m
theorem SeR.op {s : Nat} {Z : Se} {L : List HPr} {w : World} (H : Holds (SeR s Z :: L) w) : ∃ p, Holds (seL s Z p ++ L) w := by
  obtain ⟨F, ⟨p, h⟩, hL⟩ := H
  exact ⟨p, SatL_app.2 ⟨F, h, hL⟩⟩
theorem SeR.sh {s : Nat} {Z : Se} {p : Pl} {L : List HPr} {w : World} (H : Holds (seL s Z p ++ L) w) : Holds (SeR s Z :: L) w := part_shut (fun _ h => ⟨p, h⟩) H
theorem k_SConflicts {L : List HPr} {w : World} {s : Nat} {Z : Se} (H : Holds (SeR s Z :: L) w) : Calls cx.P F.search_Search_Conflicts #[vP s 0] w (Ret fun v w' => v = vI Z.conflicts ∧ Holds (SeR s Z :: L) w') := by
  apply vc_search_Search_Conflicts
  obtain ⟨p, H⟩ := SeR.op H
  exact ⟨_, cel H 0 rfl rfl, rfl, SeR.sh H⟩
theorem k_SVerdict {L : List HPr} {w : World} {s : Nat} {Z : Se} (H : Holds (SeR s Z :: L) w) : Calls cx.P F.search_Search_Verdict #[vP s 0] w (Ret fun v w' => v = vI Z.verdict ∧ Holds (SeR s Z :: L) w') := by
  apply vc_search_Search_Verdict
  obtain ⟨p, H⟩ := SeR.op H
  exact ⟨_, cel H 0 rfl rfl, rfl, SeR.sh H⟩

theorem k_SRestarts {L : List HPr} {w : World} {s : Nat} {Z : Se} (H : Holds (SeR s Z :: L) w) : Calls cx.P F.search_Search_Restarts #[vP s 0] w (Ret fun v w' => v = vI Z.restarts ∧ Holds (SeR s Z :: L) w') := by
  apply vc_search_Search_Restarts
  obtain ⟨p, H⟩ := SeR.op H
  exact ⟨_, cel H 0 rfl rfl, rfl, SeR.sh H⟩
theorem k_SStopped {L : List HPr} {w : World} {s : Nat} {Z : Se} (H : Holds (SeR s Z :: L) w) : Calls cx.P F.search_Search_Stopped #[vP s 0] w (Ret fun v w' => v = vB Z.stopped ∧ Holds (SeR s Z :: L) w') := by
  apply vc_search_Search_Stopped
  obtain ⟨p, H⟩ := SeR.op H
  exact ⟨_, cel H 0 rfl rfl, rfl, SeR.sh H⟩
theorem k_SWords {L : List HPr} {w : World} {s : Nat} {Z : Se} (H : Holds (SeR s Z :: L) w) : Calls cx.P F.search_Search_Words #[vP s 0] w (Ret fun v w' => v = vI (Z.A.words.length : Int) ∧ Holds (SeR s Z :: L) w') := by
  apply vc_search_Search_Words
  obtain ⟨p, H⟩ := SeR.op H
  refine ⟨_, cel H 0 rfl rfl, Calls.ret (atr H 2 rfl fun H => k_Words H) ?_⟩
  rintro _ w1 ⟨rfl, H⟩
  exact ⟨_, rfl, rfl, SeR.sh H⟩
theorem k_SPhases {L : List HPr} {w : World} {s : Nat} {Z : Se} (H : Holds (SeR s Z :: L) w) (hs : Z.S.Sm) : Calls cx.P F.search_Search_Phases #[vP s 0] w (Ret fun v w' => ∃ a c, v = vS a Z.S.vars.length c ∧ Holds (osl T.bool 1 a Z.S.vars.length c (Z.S.assign.map vB) :: SeR s Z :: L) w') := by
  apply vc_search_Search_Phases
  obtain ⟨p, H⟩ := SeR.op H
  refine ⟨_, cel H 0 rfl rfl, Calls.ret (k_Assignment (H.pick 3 rfl) hs) ?_⟩
  rintro _ w1 ⟨a, c, rfl, H⟩
  refine ⟨_, _, _, rfl, a, c, rfl, ?_⟩
  exact part_shut1 (Ls := seL s Z p) (fun _ h => ⟨p, h⟩) (SatL_cons (fun _ h => SatL_unpick (L := seL s Z p ++ L) 3 rfl h) H)
theorem k_SModel {L : List HPr} {w : World} {s : Nat} {Z : Se} (H : Holds (SeR s Z :: L) w) (hm : Z.model.length ≤ 1000000000) : Calls cx.P F.search_Search_Model #[vP s 0] w (Ret fun v w' => ∃ a c, v = vS a Z.model.length c ∧ Holds (osl T.bool 1 a Z.model.length c (Z.model.map vB) :: SeR s Z :: L) w') := by
  apply vc_search_Search_Model
  obtain ⟨p, H⟩ := SeR.op H
  refine ⟨_, _, _, cel H 0 rfl rfl, Calls.ret (k_CloneB H rfl hm fun w' H => asrc_osl slBool H 7 rfl) ?_⟩
  rintro _ w1 ⟨a, c, rfl, H⟩
  exact ⟨_, _, _, rfl, a, c, rfl, part_shut1 (Ls := seL s Z p) (fun _ h => ⟨p, h⟩) H⟩

/-- Phases are told. -/
def impGo : Nat → List Bool → Tr → Tr
  | _, [], S => S
  | i, b :: bs, S => impGo (i + 1) bs (if S.value ((i : Int) + 1) = 0 then S.setPhase ((i : Int) + 1) b else S)
structure BSrc (aa : Option Addr) (bs : List Bool) (w : World) : Prop where
  at_ : 0 < bs.length → ∃ b o, aa = aP b o
  cell : ∀ b o, aa = aP b o → ∀ (i : Nat) x, bs[i]? = some x → Cel w b (o + i) (vB x)
def Se.import (Z : Se) (bs : List Bool) : Se := if bs.length = Z.vars then { Z with S := impGo 0 bs Z.S } else Z
theorem k_SImport {L : List HPr} {w : World} {s : Nat} {Z : Se} (H : Holds (SeR s Z :: L) w) (hs : Z.S.Sm) {aa : Option Addr} {al_ ac : Nat} {bs : List Bool} (hl : bs.length = al_) (hb : al_ ≤ 1000000000) (hsrc : ∀ w', Holds L w' → BSrc aa bs w') :
    Calls cx.P F.search_Search_Import #[vP s 0, vS aa al_ ac] w (Ret fun v w' => v = vB (decide (bs.length = Z.vars)) ∧ Holds (SeR s (Z.import bs) :: L) w') := by
  apply vc_search_Search_Import
  subst hl
  obtain ⟨p, H⟩ := SeR.op H
  unfold Se.import
  refine ⟨_, cel H 0 rfl rfl, gif_i (fun h => ?_) (fun h => ?_)⟩
  · have h' : ¬ bs.length = Z.vars := by simp at h; omega
    rw [if_neg h', decide_eq_false h']
    exact ⟨rfl, SeR.sh H⟩
  · have h' : bs.length = Z.vars := by simp at h; omega
    rw [if_pos h', decide_eq_true h']
    refine ⟨fun vs w => ∃ (k : Nat) (S1 : Tr), vs = [vI k] ∧ k ≤ bs.length ∧ S1.Sm ∧ impGo k (bs.drop k) S1 = impGo 0 bs Z.S ∧ Holds (seL s { Z with S := S1 } p ++ L) w, fun vs _ => (match vs with | [.int _ k] => (bs.length : Int) - k | _ => 0).toNat, ⟨0, Z.S, rfl, Nat.zero_le _, hs, rfl, H⟩, ?_⟩
    rintro i w1 ⟨k, S1, hv, hk, s1, hg, H⟩
    simp only [List.cons.injEq, Value.int.injEq, true_and, and_true] at hv
    subst hv
    refine gif_i (fun h => ?_) (fun h => ?_)
    · have hlt : k < bs.length := by have := of_decide_eq_true h; omega
      obtain ⟨x, hx⟩ := lt_get hlt
      have src := hsrc _ (H.tail.tail.tail.tail.tail.tail.tail.tail.tail)
      obtain ⟨b, o, rfl⟩ := src.at_ (by omega)
      have hd : bs.drop k = x :: bs.drop (k + 1) := by rw [List.drop_eq_getElem_cons hlt, (List.getElem?_eq_some_iff.1 hx).2]
      rw [hd] at hg
      have hg : impGo (k + 1) (bs.drop (k + 1)) (if S1.value ((k : Int) + 1) = 0 then S1.setPhase ((k : Int) + 1) x else S1) = impGo 0 bs Z.S := hg
      refine ⟨⟨by omega, by omega⟩, pm_i ⟨x, by rw [Int.toNat_natCast]; exact src.cell b o rfl k x hx, _, cel H 0 rfl rfl, by unfold InI; omega, Calls.ret (atr H 3 rfl fun H => k_Value H s1 _) ?_⟩⟩
      rintro _ w2 ⟨rfl, H⟩
      refine ⟨_, rfl, gif_i (fun h2 => ?_) (fun h2 => ?_)⟩
      · have h2' : S1.value ((k : Int) + 1) = 0 := by simpa using h2
        rw [if_pos h2'] at hg
        refine ⟨_, cel H 0 rfl rfl, by unfold InI; omega, Calls.ret (atp H 3 rfl fun H => k_SetPhase H s1 _ x) ?_⟩
        rintro _ w3 ⟨⟨y, rfl⟩, H⟩
        exact ⟨_, rfl, by unfold InI; omega, ⟨k + 1, _, rfl, by omega, setPhase_sm s1 _ _, hg, H⟩, by simp only; omega⟩
      · have h2' : ¬ S1.value ((k : Int) + 1) = 0 := by simpa using h2
        rw [if_neg h2'] at hg
        exact ⟨by unfold InI; omega, ⟨k + 1, _, rfl, by omega, s1, hg, H⟩, by simp only; omega⟩
    · have hge : ¬ k < bs.length := by have := of_decide_eq_false h; omega
      have e : bs.drop k = [] := List.drop_eq_nil_of_le (by omega)
      rw [e] at hg
      have hg : S1 = impGo 0 bs Z.S := hg
      rw [← hg]
      exact ⟨rfl, SeR.sh H⟩

/-! ### a clause is added -/
def Se.add (Z : Se) (xs : List Int) (learned : Bool) (g : Int) : Bool × Se :=
  if Z.A.full xs.length then (false, { Z with stopped := true })
  else ((attach Z.W Z.S (Z.A.addC xs learned g) (Z.A.words.length : Int)).1,
    { Z with W := (attach Z.W Z.S (Z.A.addC xs learned g) (Z.A.words.length : Int)).2.1, A := (attach Z.W Z.S (Z.A.addC xs learned g) (Z.A.words.length : Int)).2.2 })
theorem attach_len (W : Wt) (S : Tr) (A : Ar) (r : Int) : (attach W S A r).2.1.lists.length = W.lists.length := by
  unfold attach
  split
  · simp only
    split
    · simp only [add_len]
    · rfl
  · rfl
theorem addC_lits (A : Ar) (xs : List Int) (l : Bool) (g : Int) (r : Int) : (A.addC xs l g).lits r = if r = (A.words.length : Int) then xs else A.lits r := by
  unfold Ar.lits
  rw [Ar.addC_get]
  by_cases h : r = (A.words.length : Int)
  · rw [if_pos h, if_pos h]
  · rw [if_neg h, if_neg h]
theorem k_SAdd {L : List HPr} {w : World} {s : Nat} {Z : Se} (H : Holds (SeR s Z :: L) w) (hok : Z.S.Ok) {ca : Option Addr} {cl cc : Nat} {xs : List Int} (hx : xs.length = cl) (hw : Z.A.words.length + 3 + cl ≤ 1000000000) (hcnt : InI (Z.A.count + 1))
    (hsrc : ∀ w', Holds L w' → ASrc cx 1 T.s_int (vS ca cl cc) cl (xs.map vI) w') (l : Bool) (g : Int) (hn : Z.W.lists.length = 2 * Z.S.vars.length) (hr : ∀ x ∈ xs, right x Z.S.vars.length = true) (hp : Z.W.pending.length ≤ 1000000000) (hrow : ∀ i, (Z.W.row i).length ≤ 1000000000) :
    Calls cx.P F.search_Search_add #[vP s 0, vS ca cl cc, vB l, vI g] w (Ret fun v w' => v = vB (Z.add xs l g).1 ∧ Holds (SeR s (Z.add xs l g).2 :: L) w') := by
  apply vc_search_Search_add
  obtain ⟨p, H⟩ := SeR.op H
  have hv := hok.sm.n
  have hln := hok.len
  have hsl := hok.sl
  unfold Se.add
  rw [hx]
  refine ⟨_, cel H 0 rfl rfl, Calls.ret (k_AAdd (H.pick 2 rfl) ⟨by omega⟩ hx (by omega) hcnt (fun w' H => hsrc w' (H.tail.tail.tail.tail.tail.tail.tail.tail)) l g) ?_⟩
  rintro _ w1 ⟨rfl, H⟩
  have H := Holds.unpick (L := seL s Z p ++ L) 2 rfl H
  cases hf : Z.A.full cl with
  | true =>
    rw [hf] at H
    refine ⟨_, _, rfl, gif_t rfl (st H 0 rfl rfl (by simp) fun w2 H => ⟨rfl, SeR.sh (p := p) (H.cast ?_)⟩)⟩
    simp [seL, seB, setL]
  | false =>
    rw [hf] at H
    refine ⟨_, _, rfl, gif_f rfl ⟨_, cel H 0 rfl rfl, ?_⟩⟩
    have H := ((H.pick 3 rfl).pick 3 rfl).pick 3 rfl
    have sm : (Z.A.addC xs l g).Sm := ⟨by rw [Ar.addC_words]; simp; omega⟩
    refine Calls.ret (k_Attach H hok.sm (by omega) sm hn _ (fun x hxm => ?_) hp hrow) ?_
    · have hxm : x ∈ (Z.A.addC xs l g).lits (Z.A.words.length : Int) := hxm
      rw [addC_lits, if_pos rfl] at hxm
      exact hr x hxm
    rintro _ w2 ⟨rfl, H⟩
    have H := H.pick 3 rfl
    refine ⟨_, rfl, rfl, SeR.sh (p := p) (H.cast ?_)⟩
    simp [seL, seB, attach_len]
end Go.Sv
/- Loops whose measure is a number that the invariant bears. -/
namespace Go.Sv
open Go

theorem least_of {p : Nat → Prop} (h : ∃ n, p n) : ∃ n, p n ∧ ∀ m, p m → n ≤ m := by
  obtain ⟨n, hn⟩ := h
  induction n using Nat.strongRecOn with
  | ind n ih =>
    by_cases hm : ∃ m, m < n ∧ p m
    · obtain ⟨m, hlt, hp⟩ := hm
      exact ih m hlt hp
    · exact ⟨n, hn, fun m hp => Nat.le_of_not_lt fun hlt => hm ⟨m, hlt, hp⟩⟩
/-- The invariant, for some number. -/
def gI (J : Nat → List Value → World → Prop) (vs : List Value) (w : World) : Prop := ∃ n, J n vs w
open Classical in
/-- The least such number. -/
noncomputable def gM (J : Nat → List Value → World → Prop) (vs : List Value) (w : World) : Nat := if h : ∃ n, J n vs w then Classical.choose (least_of h) else 0
theorem g_open {J : Nat → List Value → World → Prop} {vs : List Value} {w : World} (h : gI J vs w) : ∃ n, J n vs w ∧ gM J vs w = n := by
  have h' : ∃ n, J n vs w := h
  refine ⟨_, (Classical.choose_spec (least_of h')).1, ?_⟩
  unfold gM
  rw [dif_pos h']
theorem g_step {J : Nat → List Value → World → Prop} {vs vs' : List Value} {w w' : World} {n n' : Nat} (h : J n' vs' w') (hn : n' < n) (e : gM J vs w = n) : gI J vs' w' ∧ gM J vs' w' < gM J vs w := by
  have h' : ∃ n, J n vs' w' := ⟨n', h⟩
  refine ⟨h', ?_⟩
  rw [e]
  refine Nat.lt_of_le_of_lt ?_ hn
  unfold gM
  rw [dif_pos h']
  exact (Classical.choose_spec (least_of h')).2 n' h
theorem ixM {α : Type} (M : List α) {X : List α} (i : Nat) {A : α} (h : X[i]? = some A) : (M ++ X)[M.length + i]? = some A := by
  rw [List.getElem?_append_right (by omega), Nat.add_sub_cancel_left]; exact h

/-! ### parts in another order; some let go -/
theorem SatL_col : ∀ {L : List HPr} {m : Hp}, SatL L m ↔ ∃ c : Nat → Nat, ∀ (i : Nat) (A : HPr), L[i]? = some A → A (res m fun b => c b == i)
  | [], m => ⟨fun _ => ⟨fun _ => 0, fun i A h => by simp at h⟩, fun _ => trivial⟩
  | A :: L, m => by
    constructor
    · rintro ⟨F, hA, hL⟩
      obtain ⟨c, hc⟩ := SatL_col.1 hL
      refine ⟨fun b => if F b then 0 else c b + 1, fun i B hB => ?_⟩
      cases i with
      | zero =>
        have : A = B := by simpa using hB
        subst this
        have e : res m (fun b => (if F b then 0 else c b + 1) == 0) = res m F := res_congr (fun b => by cases F b <;> simp) (fun _ _ => rfl)
        rw [e]; exact hA
      | succ i =>
        have hB' : L[i]? = some B := by simpa using hB
        have h := hc i B hB'
        rw [res_res] at h
        have e : res m (fun b => (if F b then 0 else c b + 1) == i + 1) = res m (fun b => !(F b) && c b == i) := res_congr (fun b => by cases F b <;> simp) (fun _ _ => rfl)
        rw [e]; exact h
    · rintro ⟨c, hc⟩
      refine ⟨fun b => c b == 0, hc 0 A rfl, SatL_col.2 ⟨fun b => c b - 1, fun i B hB => ?_⟩⟩
      have h := hc (i + 1) B (by simpa using hB)
      rw [res_res]
      have e : res m (fun b => !(c b == 0) && (c b - 1 == i)) = res m (fun b => c b == i + 1) := res_congr (fun b => by
        cases h0 : c b with
        | zero => simp
        | succ k => simp) (fun _ _ => rfl)
      rw [e]; exact h
def ndB : List Nat → Bool
  | [] => true
  | i :: is => !(is.contains i) && ndB is
theorem SatL_ord {L : List HPr} {m : Hp} : ∀ (is : List Nat), ndB is = true → SatL L m → SatL (is.filterMap fun i => L[i]?) m := by
  intro is hnd h
  obtain ⟨c, hc⟩ := SatL_col.1 h
  suffices H : ∀ (is : List Nat) (F : Nat → Bool), ndB is = true → (∀ b, F b = true ↔ c b ∈ is) → SatL (is.filterMap fun i => L[i]?) (res m F) by
    exact SatL_mono (res_sub _ _) (H is (fun b => is.contains (c b)) hnd (fun b => by simp))
  intro is
  induction is with
  | nil => intro F _ _; exact trivial
  | cons i is ih =>
    intro F hnd hF
    simp only [ndB, Bool.and_eq_true, Bool.not_eq_true', List.contains_eq_mem, decide_eq_false_iff_not] at hnd
    cases hL : L[i]? with
    | none =>
      rw [List.filterMap_cons_none hL]
      have h1 := ih (fun b => is.contains (c b)) hnd.2 (fun b => by simp)
      refine SatL_mono ?_ h1
      refine ⟨rfl, ?_⟩
      intro b o hb
      simp only [res] at hb ⊢
      cases hb' : is.contains (c b) with
      | false => rw [hb'] at hb; cases hb
      | true =>
        rw [hb'] at hb
        have : F b = true := (hF b).2 (List.mem_cons_of_mem _ (by simpa using hb'))
        rw [this]; exact hb
    | some A =>
      rw [List.filterMap_cons_some hL]
      refine ⟨fun b => c b == i, ?_, ?_⟩
      · rw [res_res]
        have e : res m (fun b => F b && c b == i) = res m (fun b => c b == i) := res_congr (fun b => by
          cases hc' : (c b == i) with
          | false => simp
          | true =>
            have : F b = true := (hF b).2 (by have := eq_of_beq hc'; rw [this]; exact List.mem_cons_self ..)
            rw [this]; rfl) (fun _ _ => rfl)
        rw [e]; exact hc i A hL
      · rw [res_res]
        refine ih _ hnd.2 fun b => ?_
        simp only [Bool.and_eq_true, Bool.not_eq_true', beq_eq_false_iff_ne, ne_eq]
        rw [hF b, List.mem_cons]
        constructor
        · rintro ⟨h1 | h1, h2⟩
          · exact absurd h1 h2
          · exact h1
        · intro h1
          exact ⟨.inr h1, fun e => hnd.1 (e ▸ h1)⟩
/-- The first n parts in another order (those that aren't named are let go), the rest behind them. -/
theorem Holds.ord {L : List HPr} {w : World} (n : Nat) (is : List Nat) (hnd : ndB is = true) (H : Holds L w) : Holds ((is.filterMap fun i => (L.take n)[i]?) ++ L.drop n) w := by
  unfold Holds at H
  rw [← List.take_append_drop n L] at H
  obtain ⟨F, h1, h2⟩ := SatL_app.1 H
  exact SatL_app.2 ⟨F, SatL_ord is hnd h1, h2⟩
/-- A block is written as a whole. -/
theorem stW {L : List HPr} {w : World} (H : Holds L w) (i : Nat) {b t : Nat} {cs vs : List Value} {K : World → Prop} (hi : L[i]? = some (blk b cs t)) (ha : vs.all isOne = true) (hl : vs.length = cs.length)
    (h : ∀ w1, Holds (L.set i (blk b vs t)) w1 → K w1) : St w b 0 vs K := by
  refine st H i hi ha (by omega) fun w1 H1 => h w1 ?_
  have e := setL_at vs [] cs [] hl
  simp only [List.nil_append, List.append_nil, List.length_nil] at e
  rw [e] at H1
  exact H1
end Go.Sv
/- What is decided next. -/
namespace Go.Sv
open Go Go.Proofs
set_option maxRecDepth 100000

def takeGo : Nat → Tr → Hq → Int × Hq
  | 0, _, Q => (0, Q)
  | k + 1, S, Q => match Q.l with
    | [] => (0, Q)
    | v :: _ => if S.value v = 0 then (v, Q.take) else takeGo k S Q.take
theorem kid_pos (Q : Hq) {i : Int} (h : 0 ≤ i) : 0 ≤ Q.kid i := by unfold Hq.kid; split <;> omega
theorem sinkGo_sm : ∀ (k : Nat) (Q : Hq) (i v : Int), Q.Sm → 0 ≤ i → 1 ≤ v → v < (Q.score.length : Int) → (sinkGo k Q i v).Sm
  | 0, Q, i, v, hs, _, hv, hv2 => hs.set hv hv2
  | k + 1, Q, i, v, hs, hi, hv, hv2 => by
    unfold sinkGo
    split
    · exact hs.set hv hv2
    · rename_i h
      simp only [not_or] at h
      have hk := kid_pos Q hi
      have ha := hs.at hk (by omega)
      exact sinkGo_sm k _ _ v (hs.set ha.1 ha.2) hk hv hv2
theorem take_facts {Q : Hq} (hs : Q.Sm) : Q.take.Sm ∧ Q.take.score = Q.score ∧ Q.take.l.length = Q.l.length - 1 := by
  unfold Hq.take
  cases hl : Q.l with
  | nil => exact ⟨hs, rfl, by rw [hl]; rfl⟩
  | cons v l =>
    simp only
    have hlen : Q.l.length = l.length + 1 := by rw [hl]; rfl
    have hat := hs.at (i := (((v :: l).length : Int) - 1)) (by simp) (by rw [hl, List.length_cons]; omega)
    generalize Q.at (((v :: l).length : Int) - 1) = last at *
    have s1 : Q.cut.Sm := ⟨hs.n, hs.p, by have := hs.l; unfold Hq.cut; simp only [List.length_take]; omega, fun x hx => hs.r x (List.mem_of_mem_take hx)⟩
    have c1 : Q.cut.score = Q.score := rfl
    have c2 : Q.cut.l.length = Q.l.length - 1 := by unfold Hq.cut; simp only [List.length_take]; omega
    have s2 : (Q.cut.sift last).Sm ∧ (Q.cut.sift last).score = Q.score ∧ (Q.cut.sift last).l.length = Q.l.length - 1 := by
      unfold Hq.sift
      split
      · rename_i hp
        have s3 := s1.set (i := 0) hat.1 (by rw [c1]; exact hat.2)
        have hl3 : (Q.cut.set 0 last).l.length = Q.cut.l.length := by unfold Hq.set; simp
        have ha := s3.at (i := 0) (Int.le_refl _) (by rw [hl3]; omega)
        unfold Hq.sink
        obtain ⟨g1, g2, g3⟩ := sinkGo_len (Q.cut.set 0 last).l.length (Q.cut.set 0 last) 0 ((Q.cut.set 0 last).at 0)
        exact ⟨sinkGo_sm _ _ _ _ s3 (Int.le_refl _) ha.1 ha.2, g3, by rw [g1, hl3, c2]⟩
      · exact ⟨s1, c1, c2⟩
    have hln : (v :: l).length = Q.l.length := by rw [hl]
    rw [hln]
    exact ⟨⟨s2.1.n, by unfold Hq.gone; simp only [List.length_set]; exact s2.1.p, s2.1.l, s2.1.r⟩, s2.2.1, s2.2.2⟩

/-- The row's order, off the links. -/
def ordGo (Q : Qu) : Nat → Int → List Int
  | 0, _ => []
  | k + 1, c => if c = 0 then [] else c :: ordGo Q k (Q.behind c)
def Qu.ord (Q : Qu) : List Int := ordGo Q Q.l.length (Q.behind 0)
theorem chain_ord {Q : Qu} : ∀ {r : List Int} {c : Int} {k : Nat}, Chain Q r c → r.length ≤ k → ordGo Q k c = r
  | [], c, 0, h, _ => rfl
  | [], c, k + 1, h, _ => by
    have h : c = 0 := h
    unfold ordGo
    rw [if_pos h]
  | v :: r, c, 0, h, hk => by simp at hk
  | v :: r, c, k + 1, h, hk => by
    obtain ⟨h1, h2, _, _, h5⟩ := h
    subst h1
    unfold ordGo
    rw [if_neg h2, chain_ord h5 (by simpa using hk)]
def Se.useQ (Z : Se) : Bool := Z.o.mode == 1 || (Z.o.mode == 2 && Int.tmod (Int.tdiv Z.restarts 4) 2 == 1)
def Se.next (Z : Se) : Int × Se :=
  if Z.useQ then ((Z.U.ord.find? (fun v => !(Z.S.value v != 0))).getD 0, Z)
  else ((takeGo (Z.Q.l.length + 1) Z.S Z.Q).1, { Z with Q := (takeGo (Z.Q.l.length + 1) Z.S Z.Q).2 })

theorem k_next1 {L : List HPr} {w : World} {s c t : Nat} {Z : Se} {p : Pl} {S : Tr} {T1 : Nat} (hs : S.Sm) (H : Holds L w) (i j k : Nat) (hi : L[i]? = some (blk c [vP s 0] T1)) (hj : L[j]? = some (seB s Z p)) (ht : p.t = t) (hk : L[k]? = some (TrR t S)) (v : Int) :
    Calls cx.P F.search_Search_next_1 #[vI v, vP c 0] w (Ret fun r w' => r = vB (S.value v != 0) ∧ Holds L w') := by
  apply vc_search_Search_next_1
  subst ht
  refine ⟨_, cel H i hi rfl, pm_i ⟨_, cel H j hj rfl, Calls.ret (atr H k hk fun H => k_Value H hs v) ?_⟩⟩
  rintro _ w1 ⟨rfl, H⟩
  exact ⟨_, rfl, rfl, H⟩

theorem take_done {Q : Hq} {k : Nat} {S : Tr} (h : Q.l = []) : takeGo k S Q = (0, Q) := by
  cases k with
  | zero => rfl
  | succ k => unfold takeGo; rw [h]

theorem k_next {L : List HPr} {w : World} {s : Nat} {Z : Se} (H : Holds (SeR s Z :: L) w) (hs : Z.S.Sm) (hq : Z.Q.Sm) (hpos : 0 < Z.U.l.length) (hch : Chain Z.U Z.U.ord (Z.U.behind 0)) (hr : InI (Int.tdiv Z.restarts 4)) :
    Calls cx.P F.search_Search_next #[vP s 0] w (Ret fun v w' => v = vI Z.next.1 ∧ Holds (SeR s Z.next.2 :: L) w') := by
  apply vc_search_Search_next
  obtain ⟨p, H⟩ := SeR.op H
  have key : ∀ (queue : Bool) (b3 : Nat) (w2 : World), queue = Z.useQ → Holds (blk b3 [vP s 0] T.p_search_Search :: seL s Z p ++ L) w2 →
      vc_search_Search_next_k1 queue b3 w2 (fun v w' => v = vI Z.next.1 ∧ Holds (SeR s Z.next.2 :: L) w') := by
    intro queue b3 w2 hqu H
    unfold vc_search_Search_next_k1 Se.next
    rw [← hqu]
    refine gif_i (fun h => ?_) (fun h => ?_)
    · rw [if_pos h]
      refine ⟨_, cel H 0 rfl rfl, pm_i ⟨_, cel H 1 rfl rfl, Calls.ret (k_Find (L := [blk b3 [vP s 0] T.p_search_Search, seB s Z p, WtR p.wx p.a p.t Z.W Z.W.lists.length, ArR p.a Z.A, TrR p.t Z.S, HqR p.h Z.Q, PrR p.pp p.pc Z.proof, osl T.bool 1 p.mp Z.model.length p.mc (Z.model.map vB), mpF p.rb Z.reasons] ++ L) (H.pick 6 rfl) hpos hch (fun v => Z.S.value v != 0) ⟨_, rfl⟩ ?_) ?_⟩⟩
      · intro M v w' _ H
        exact k_next1 (p := p) (s := s) (T1 := T.p_search_Search) (t := p.t) (Z := Z) hs H _ _ _ (ixM M 1 rfl) (ixM M 2 rfl) rfl (ixM M 5 rfl) v
      · rintro _ w3 ⟨rfl, H⟩
        have H := Holds.unpick (L := blk b3 [vP s 0] T.p_search_Search :: seL s Z p ++ L) 6 rfl H
        cases Z.U.ord.find? (fun v => !(Z.S.value v != 0)) with
        | none => exact ⟨0, false, rfl, rfl, SeR.sh H.tail⟩
        | some x => exact ⟨x, true, rfl, rfl, SeR.sh H.tail⟩
    · rw [if_neg (by rw [h]; simp)]
      let J : Nat → List Value → World → Prop := fun n _ w => ∃ Q : Hq, Q.Sm ∧ n = Q.l.length ∧ takeGo (Q.l.length + 1) Z.S Q = takeGo (Z.Q.l.length + 1) Z.S Z.Q ∧ Holds (blk b3 [vP s 0] T.p_search_Search :: seL s { Z with Q := Q } p ++ L) w
      refine ⟨gI J, gM J, ⟨Z.Q.l.length, Z.Q, hq, rfl, rfl, H⟩, ?_⟩
      rintro w3 hI
      obtain ⟨n, ⟨Q, hq', rfl, hgo, H⟩, hM⟩ := g_open hI
      refine ⟨_, cel H 0 rfl rfl, pm_i ⟨_, cel H 1 rfl rfl, Calls.ret (atp H 5 rfl fun H => k_Take H hq') ?_⟩⟩
      rintro _ w4 ⟨rfl, H⟩
      obtain ⟨t1, t2, t3⟩ := take_facts hq'
      rw [← hgo]
      have H : Holds (blk b3 [vP s 0] T.p_search_Search :: seL s { Z with Q := Q.take } p ++ L) w4 := H
      rcases list_cases Q.l with hl | ⟨v, l, hl⟩
      · have e1 : Q.top = .tuple #[vI 0, vB false] := by unfold Hq.top; rw [hl]
        have e2 : Q.take = Q := by unfold Hq.take; rw [hl]
        rw [e1]
        rw [take_done hl]
        rw [e2] at H
        exact ⟨0, false, rfl, rfl, SeR.sh H.tail⟩
      · have e1 : Q.top = .tuple #[vI v, vB true] := by unfold Hq.top; rw [hl]
        rw [e1]
        refine ⟨v, true, rfl, ?_⟩
        show gif false _ _
        refine ⟨_, cel H 0 rfl rfl, pm_i ⟨_, cel H 1 rfl rfl, Calls.ret (atr H 4 rfl fun H => k_Value H hs v) ?_⟩⟩
        rintro _ w5 ⟨rfl, H⟩
        have e4 : takeGo (Q.l.length + 1) Z.S Q = if Z.S.value v = 0 then (v, Q.take) else takeGo Q.l.length Z.S Q.take := by
          show (match Q.l with | [] => (0, Q) | v :: _ => if Z.S.value v = 0 then (v, Q.take) else takeGo Q.l.length Z.S Q.take) = _
          rw [hl]
        refine ⟨_, rfl, gif_i (fun h => ?_) (fun h => ?_)⟩
        · have h' : Z.S.value v = 0 := by simpa using h
          rw [e4, if_pos h']
          exact ⟨rfl, SeR.sh H.tail⟩
        · have h' : ¬ Z.S.value v = 0 := by simpa using h
          rw [e4, if_neg h'] at hgo
          have hlen : Q.l.length = Q.take.l.length + 1 := by rw [t3, hl]; simp
          rw [hlen] at hgo
          exact g_step (J := J) ⟨Q.take, t1, rfl, hgo, H⟩ (by omega) hM
  refine al H fun b1 w1 H => ?_
  refine ⟨_, cel H 0 rfl rfl, pm_i ⟨_, cel H 1 rfl rfl, gif_i (fun h => ?_) (fun h => ?_)⟩⟩
  · refine key _ _ _ ?_ H
    unfold Se.useQ
    rw [h]; rfl
  · refine ⟨_, cel H 0 rfl rfl, pm_i ⟨_, cel H 1 rfl rfl, gif_i (fun h2 => ?_) (fun h2 => ?_)⟩⟩
    · refine ⟨_, cel H 0 rfl rfl, pm_i ⟨_, cel H 1 rfl rfl, by decide, hr, by decide, key _ _ _ ?_ H⟩⟩
      unfold Se.useQ
      rw [h, h2]; rfl
    · refine key _ _ _ ?_ H
      unfold Se.useQ
      rw [h, h2]; rfl
end Go.Sv
