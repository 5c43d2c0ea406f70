/- Parts of a proof: KHeap, KStep, KRun, KPf, KAdd, KNew, KInv, KSound, KSound2, KAtt, KSort, KPk, KCalm, KRunC, KFit, KMade, KPhase, KRaw, KRaw2, KHolds, KLawP, KLawP2, KLawI. -/
import Derived.Test.YtbhboaddanefbaaGreatFinImportsN3
set_option linter.unusedVariables false
set_option linter.unusedSimpArgs false
/- The heap's order of places: whoever is in stands where its place says. -/
namespace Go.Sv
open Go Go.Proofs

/-- 'e' may have a place though it isn't in. -/
structure Hq.Okx (n : Nat) (e : Int) (Q : Hq) : Prop where
  s : Q.score.length = n + 1
  p : Q.place.length = n + 1
  r : ∀ v ∈ Q.l, 1 ≤ v ∧ v ≤ (n : Int)
  ix : ∀ (i : Nat) v, Q.l[i]? = some v → Q.pl v = (i : Int)
  out : ∀ v : Int, 1 ≤ v → v ≤ (n : Int) → v ∉ Q.l → v ≠ e → Q.pl v < 0
abbrev Hq.Ok (n : Nat) (Q : Hq) : Prop := Q.Okx n 0
theorem set_pl {Q : Hq} {i v u : Int} (hv : 0 ≤ v) (hv2 : v < (Q.place.length : Int)) (hu : 0 ≤ u) : (Q.set i v).pl u = if u = v then i else Q.pl u := by
  unfold Hq.pl Hq.set
  simp only [List.getElem?_set]
  by_cases h : u = v
  · subst h
    rw [if_pos rfl, if_pos (by omega)]
    simp
  · rw [if_neg (fun e => h (by omega)), if_neg h]
theorem at_nat {Q : Hq} {i : Int} (h0 : 0 ≤ i) (h : i < (Q.l.length : Int)) : Q.l[i.toNat]? = some (Q.at i) := by
  unfold Hq.at
  rw [List.getElem?_eq_getElem (by omega)]; rfl
theorem okx_nd {n : Nat} {e : Int} {Q : Hq} (h : Q.Okx n e) {i j : Nat} {v : Int} (hi : Q.l[i]? = some v) (hj : Q.l[j]? = some v) : i = j := by
  have h1 := h.ix i v hi
  have h2 := h.ix j v hj
  omega
theorem Hq.Okx.len {n : Nat} {e : Int} {Q : Hq} (h : Q.Okx n e) : Q.l.length ≤ n := by
  have := pigeon n (Q.l.map Int.toNat) ?_ ?_
  · simpa using this
  · rw [List.nodup_iff_pairwise_ne, List.pairwise_map, List.pairwise_iff_getElem]
    intro i j hi hj hij he
    have h1 := h.r _ (List.getElem_mem hi)
    have h2 := h.r _ (List.getElem_mem hj)
    have e : Q.l[i] = Q.l[j] := by omega
    have := okx_nd h (v := Q.l[j]) (i := i) (j := j) (by rw [List.getElem?_eq_getElem hi, e]) (List.getElem?_eq_getElem hj)
    omega
  · intro x hx
    obtain ⟨y, hy, rfl⟩ := List.mem_map.1 hx
    have := h.r y hy
    omega
theorem Hq.Okx.sm {n : Nat} {e : Int} {Q : Hq} (h : Q.Okx n e) (hn : n ≤ 100000) : Q.Sm := by
  have := h.len
  have := h.s
  have := h.p
  exact ⟨by omega, by omega, by omega, fun v hv => by have := h.r v hv; omega⟩
theorem swap_okx {n : Nat} {e : Int} {Q : Hq} {i k v : Int} (hi : 0 ≤ i) (hi2 : i < (Q.l.length : Int)) (hk : 0 ≤ k) (hk2 : k < (Q.l.length : Int)) (hik : i ≠ k) (h : (Q.set i v).Okx n e) :
    ((Q.set i (Q.at k)).set k v).Okx n e ∧ ∀ u, u ∈ ((Q.set i (Q.at k)).set k v).l ↔ u ∈ (Q.set i v).l := by
  have hat := at_nat hk hk2
  generalize Q.at k = x at *
  have l1 : (Q.set i v).l = Q.l.set i.toNat v := rfl
  have l2 : ((Q.set i x).set k v).l = (Q.l.set i.toNat x).set k.toNat v := rfl
  have hne : i.toNat ≠ k.toNat := by omega
  have h1i : (Q.set i v).l[i.toNat]? = some v := by rw [l1, List.getElem?_set_self (by omega)]
  have h1k : (Q.set i v).l[k.toNat]? = some x := by rw [l1, List.getElem?_set_ne hne]; exact hat
  have hvr := h.r v (List.mem_of_getElem? h1i)
  have hxr := h.r x (List.mem_of_getElem? h1k)
  have hvx : v ≠ x := fun e => by subst e; exact hne (okx_nd h h1i h1k)
  have hpl : Q.place.length = n + 1 := by have := h.p; simpa [Hq.set] using this
  have hp := swap_perm (Q.set i v).l i.toNat k.toNat (by rw [l1, List.length_set]; omega) (by rw [l1, List.length_set]; omega)
  rw [h1i, h1k] at hp
  have e2 : ((Q.set i v).l.set i.toNat ((some x).getD 0)).set k.toNat ((some v).getD 0) = ((Q.set i x).set k v).l := by
    rw [l1, l2, List.set_set]; rfl
  rw [e2] at hp
  have pl2 : ∀ u : Int, 0 ≤ u → ((Q.set i x).set k v).pl u = if u = v then k else if u = x then i else Q.pl u := by
    intro u hu
    rw [set_pl (by omega) (by simp [Hq.set]; omega) hu, set_pl (by omega) (by omega) hu]
  have pl1 : ∀ u : Int, 0 ≤ u → (Q.set i v).pl u = if u = v then i else Q.pl u := fun u hu => set_pl (by omega) (by omega) hu
  refine ⟨⟨h.s, by simp [Hq.set]; omega, fun u hu => h.r u (hp.mem_iff.1 hu), ?_, ?_⟩, fun u => hp.mem_iff⟩
  · intro j u hj
    rw [l2, List.getElem?_set] at hj
    by_cases hjk : k.toNat = j
    · rw [if_pos hjk] at hj
      split at hj
      · simp only [Option.some.injEq] at hj
        subst hj
        rw [pl2 _ (by omega), if_pos rfl]; omega
      · cases hj
    · rw [if_neg hjk, List.getElem?_set] at hj
      by_cases hji : i.toNat = j
      · rw [if_pos hji] at hj
        split at hj
        · simp only [Option.some.injEq] at hj
          subst hj
          rw [pl2 _ (by omega), if_neg (fun e => hvx e.symm), if_pos rfl]; omega
        · cases hj
      · rw [if_neg hji] at hj
        have h1j : (Q.set i v).l[j]? = some u := by rw [l1, List.getElem?_set_ne hji]; exact hj
        have hur := h.r u (List.mem_of_getElem? h1j)
        have huv : u ≠ v := fun e => by subst e; exact hji (okx_nd h h1i h1j)
        have hux : u ≠ x := fun e => by subst e; exact hjk (okx_nd h h1k h1j)
        rw [pl2 _ (by omega), if_neg huv, if_neg hux]
        have := h.ix j u h1j
        rw [pl1 _ (by omega), if_neg huv] at this
        exact this
  · intro u hu1 hu2 hu3 hue
    have hm : u ∉ (Q.set i v).l := fun hm => hu3 (hp.mem_iff.2 hm)
    have huv : u ≠ v := fun e => by subst e; exact hm (List.mem_of_getElem? h1i)
    have hux : u ≠ x := fun e => by subst e; exact hm (List.mem_of_getElem? h1k)
    have := h.out u hu1 hu2 hm hue
    rw [pl1 _ (by omega), if_neg huv] at this
    rw [pl2 _ (by omega), if_neg huv, if_neg hux]
    exact this
theorem sinkGo_okx {n : Nat} {e : Int} : ∀ (k : Nat) (Q : Hq) (i v : Int), 0 ≤ i → i < (Q.l.length : Int) → (Q.set i v).Okx n e → (sinkGo k Q i v).Okx n e ∧ ∀ u, u ∈ (sinkGo k Q i v).l ↔ u ∈ (Q.set i v).l
  | 0, Q, i, v, _, _, h => ⟨h, fun _ => Iff.rfl⟩
  | k + 1, Q, i, v, hi, hi2, h => by
    unfold sinkGo
    split
    · exact ⟨h, fun _ => Iff.rfl⟩
    · rename_i hc
      simp only [not_or] at hc
      have hk := kid_pos Q hi
      have hk2 : i < Q.kid i := by unfold Hq.kid; split <;> omega
      obtain ⟨h1, h2⟩ := swap_okx (k := Q.kid i) hi hi2 hk (by omega) (by omega) h
      obtain ⟨h3, h4⟩ := sinkGo_okx k (Q.set i (Q.at (Q.kid i))) (Q.kid i) v hk (by simp [Hq.set]; omega) h1
      exact ⟨h3, fun u => (h4 u).trans (h2 u)⟩
theorem upGo_okx {n : Nat} {e : Int} : ∀ (k : Nat) (Q : Hq) (i v : Int), 0 ≤ i → i < (Q.l.length : Int) → (Q.set i v).Okx n e → (upGo k Q i v).Okx n e ∧ ∀ u, u ∈ (upGo k Q i v).l ↔ u ∈ (Q.set i v).l
  | 0, Q, i, v, _, _, h => ⟨h, fun _ => Iff.rfl⟩
  | k + 1, Q, i, v, hi, hi2, h => by
    unfold upGo
    split
    · rename_i hc
      have hp := par_lt hc.1
      obtain ⟨h1, h2⟩ := swap_okx (k := par i) hi hi2 hp.1 (by omega) (by omega) h
      obtain ⟨h3, h4⟩ := upGo_okx k (Q.set i (Q.at (par i))) (par i) v hp.1 (by simp [Hq.set]; omega) h1
      exact ⟨h3, fun u => (h4 u).trans (h2 u)⟩
    · exact ⟨h, fun _ => Iff.rfl⟩
theorem set_at {n : Nat} {e : Int} {Q : Hq} {i : Int} (h : Q.Okx n e) (hi : 0 ≤ i) (hi2 : i < (Q.l.length : Int)) : Q.set i (Q.at i) = Q := by
  have hat := at_nat hi hi2
  have hr := h.r _ (List.mem_of_getElem? hat)
  have hpl := h.ix _ _ hat
  generalize Q.at i = x at *
  unfold Hq.set
  have e1 : Q.l.set i.toNat x = Q.l := set_self hat
  have e2 : Q.place.set x.toNat i = Q.place := by
    apply set_self
    unfold Hq.pl at hpl
    have hp := h.p
    rw [List.getElem?_eq_getElem (by omega)] at hpl ⊢
    simp at hpl
    rw [hpl]; congr 1; omega
  rw [e1, e2]
theorem sink_okx {n : Nat} {e : Int} {Q : Hq} {i : Int} (h : Q.Okx n e) (hi : 0 ≤ i) (hi2 : i < (Q.l.length : Int)) : (Q.sink i).Okx n e ∧ ∀ u, u ∈ (Q.sink i).l ↔ u ∈ Q.l := by
  have := sinkGo_okx (n := n) (e := e) Q.l.length Q i (Q.at i) hi hi2 (by rw [set_at h hi hi2]; exact h)
  rw [set_at h hi hi2] at this
  exact this
theorem up_okx {n : Nat} {e : Int} {Q : Hq} {i : Int} (h : Q.Okx n e) (hi : 0 ≤ i) (hi2 : i < (Q.l.length : Int)) : (Q.up i).Okx n e ∧ ∀ u, u ∈ (Q.up i).l ↔ u ∈ Q.l := by
  have := upGo_okx (n := n) (e := e) i.toNat Q i (Q.at i) hi hi2 (by rw [set_at h hi hi2]; exact h)
  rw [set_at h hi hi2] at this
  exact this
theorem gone_okx {n : Nat} {v : Int} {Q : Hq} (h : Q.Okx n v) (hv : 1 ≤ v) (hv2 : v ≤ (n : Int)) (hm : v ∉ Q.l) : (Q.gone v).Ok n := by
  have hp := h.p
  have pl2 : ∀ u : Int, 0 ≤ u → (Q.gone v).pl u = if u = v then -1 else Q.pl u := by
    intro u hu
    unfold Hq.pl Hq.gone
    simp only [List.getElem?_set]
    by_cases h : u = v
    · subst h
      rw [if_pos rfl, if_pos (by omega)]
      simp
    · rw [if_neg (fun e => h (by omega)), if_neg h]
  refine ⟨h.s, by simp [Hq.gone]; omega, h.r, fun i u hu => ?_, fun u h1 h2 h3 _ => ?_⟩
  · have hur := h.r u (List.mem_of_getElem? hu)
    rw [pl2 _ (by omega), if_neg (fun (e : u = v) => hm (e ▸ List.mem_of_getElem? hu))]
    exact h.ix i u hu
  · rw [pl2 _ (by omega)]
    by_cases e : u = v
    · rw [if_pos e]; omega
    · rw [if_neg e]; exact h.out u h1 h2 h3 e
theorem take_okx {n : Nat} {Q : Hq} (h : Q.Ok n) {v : Int} {l : List Int} (hl : Q.l = v :: l) : Q.take.Ok n ∧ ∀ u, u ∈ Q.take.l ↔ u ∈ l := by
  unfold Hq.take
  rw [hl]
  simp only
  rw [← hl]
  have h0 : Q.l[0]? = some v := by rw [hl]; rfl
  have hvr := h.r v (List.mem_of_getElem? h0)
  have hlen : Q.l.length = l.length + 1 := by rw [hl]; rfl
  have hvl : v ∉ l := fun hm => by
    obtain ⟨j, hj, he⟩ := List.getElem_of_mem hm
    have : Q.l[j + 1]? = some v := by rw [hl]; simp [hj, he]
    have := okx_nd h h0 this
    omega
  by_cases hn : l = []
  · subst hn
    have ec : Q.cut.l = [] := by unfold Hq.cut; simp [hl]
    have e1 : Q.cut.sift (Q.at ((Q.l.length : Int) - 1)) = Q.cut := by unfold Hq.sift; rw [if_neg (by rw [ec]; simp)]
    rw [e1]
    have hx : Q.cut.Okx n v := by
      refine ⟨h.s, h.p, fun u hu => (by rw [ec] at hu; cases hu), fun i u hu => (by rw [ec] at hu; simp at hu), fun u h1 h2 _ h4 => ?_⟩
      exact h.out u h1 h2 (by rw [hl]; simpa using h4) (by omega)
    refine ⟨gone_okx hx hvr.1 hvr.2 (by rw [ec]; simp), fun u => ?_⟩
    show u ∈ Q.cut.l ↔ _
    rw [ec]
  · have hlp : 0 < l.length := List.length_pos_iff.2 hn
    have hat := at_nat (Q := Q) (i := (Q.l.length : Int) - 1) (by omega) (by omega)
    generalize Q.at ((Q.l.length : Int) - 1) = x at *
    rw [show ((Q.l.length : Int) - 1).toNat = l.length by omega] at hat
    have hxr := h.r x (List.mem_of_getElem? hat)
    have hxv : x ≠ v := fun e => by
      subst e
      have := okx_nd h h0 hat
      omega
    have ec : Q.cut.l = Q.l.take l.length := by unfold Hq.cut; rw [hlen]; rfl
    have ecl : Q.cut.l.length = l.length := by rw [ec, List.length_take]; omega
    have hx : (Q.cut.set 0 x).Okx n v ∧ ∀ u, u ∈ (Q.cut.set 0 x).l ↔ u ∈ l := by
      have lc : (Q.cut.set 0 x).l = (Q.l.take l.length).set 0 x := by show Q.cut.l.set _ x = _; rw [ec]; rfl
      have getj : ∀ j : Nat, (Q.cut.set 0 x).l[j]? = if j = 0 then some x else if j < l.length then Q.l[j]? else none := by
        intro j
        rw [lc, List.getElem?_set]
        by_cases hj : j = 0
        · subst hj
          rw [if_pos rfl, if_pos (by rw [List.length_take]; omega), if_pos rfl]
        · rw [if_neg (fun e => hj e.symm), if_neg hj, List.getElem?_take]
      have mem : ∀ u, u ∈ (Q.cut.set 0 x).l ↔ u ∈ l := by
        intro u
        constructor
        · intro hu
          obtain ⟨j, hj, he⟩ := List.getElem_of_mem hu
          have hg := getj j
          rw [List.getElem?_eq_getElem hj, he] at hg
          by_cases h0' : j = 0
          · rw [if_pos h0'] at hg
            have hux : u = x := by simpa using hg
            subst hux
            have : l[l.length - 1]? = some u := by
              have h := hat
              rw [hl] at h
              rw [show l.length = (l.length - 1) + 1 by omega] at h
              simpa using h
            exact List.mem_of_getElem? this
          · rw [if_neg h0'] at hg
            split at hg
            · rw [hl, show j = (j - 1) + 1 by omega] at hg
              have : l[j - 1]? = some u := by simpa using hg.symm
              exact List.mem_of_getElem? this
            · cases hg
        · intro hu
          obtain ⟨j, hj, he⟩ := List.getElem_of_mem hu
          by_cases hj2 : j + 1 = l.length
          · have : Q.l[l.length]? = some u := by rw [hl, ← hj2]; simp [hj, he]
            rw [hat] at this
            have hxu : x = u := by simpa using this
            subst hxu
            have hg := getj 0
            rw [if_pos rfl] at hg
            exact List.mem_of_getElem? hg
          · have hg := getj (j + 1)
            rw [if_neg (by omega), if_pos (by omega), hl] at hg
            have : (Q.cut.set 0 x).l[j + 1]? = some u := by rw [hg]; simp [hj, he]
            exact List.mem_of_getElem? this
      have hp2 : Q.place.length = n + 1 := h.p
      have pl2 : ∀ u : Int, 0 ≤ u → (Q.cut.set 0 x).pl u = if u = x then 0 else Q.pl u := fun u hu => by
        rw [set_pl (by omega) (by show x < (Q.place.length : Int); omega) hu]; rfl
      refine ⟨⟨h.s, by simp [Hq.set, Hq.cut]; omega, fun u hu => h.r u (by rw [hl]; exact List.mem_cons_of_mem _ ((mem u).1 hu)), fun j u hj => ?_, fun u h1 h2 h3 h4 => ?_⟩, mem⟩
      · rw [getj] at hj
        by_cases h0' : j = 0
        · rw [if_pos h0'] at hj
          have hux : x = u := by simpa using hj
          subst hux
          rw [pl2 _ (by omega), if_pos rfl]; omega
        · rw [if_neg h0'] at hj
          split at hj
          · have hur := h.r u (List.mem_of_getElem? hj)
            have hux : u ≠ x := fun e => by
              subst e
              have := okx_nd h hj hat
              omega
            rw [pl2 _ (by omega), if_neg hux]
            exact h.ix j u hj
          · cases hj
      · have hul : u ∉ l := fun hm => h3 ((mem u).2 hm)
        have huq : u ∉ Q.l := by rw [hl, List.mem_cons, not_or]; exact ⟨h4, hul⟩
        have hux : u ≠ x := fun e => by subst e; exact huq (List.mem_of_getElem? hat)
        rw [pl2 _ (by omega), if_neg hux]
        exact h.out u h1 h2 huq (by omega)
    have e1 : Q.cut.sift x = (Q.cut.set 0 x).sink 0 := by unfold Hq.sift; rw [if_pos (by omega)]
    rw [e1]
    obtain ⟨h3, h4⟩ := sink_okx hx.1 (i := 0) (Int.le_refl _) (by simp only [Hq.set, List.length_set]; omega)
    refine ⟨gone_okx h3 hvr.1 hvr.2 (fun hm => hvl ((hx.2 v).1 ((h4 v).1 hm))), fun u => ?_⟩
    show u ∈ ((Q.cut.set 0 x).sink 0).l ↔ _
    rw [h4 u, hx.2 u]
theorem put_okx {n : Nat} {Q : Hq} (h : Q.Ok n) (v : Int) (hv : 1 ≤ v) (hv2 : v ≤ (n : Int)) : (Q.put v).Ok n ∧ ∀ u, u ∈ (Q.put v).l ↔ u ∈ Q.l ∨ u = v := by
  have hs := h.s
  have hp := h.p
  unfold Hq.put
  by_cases hpl : Q.pl v < 0
  · rw [if_pos ⟨hv, by omega, hpl⟩]
    have hm : v ∉ Q.l := fun hm => by
      obtain ⟨j, hj, he⟩ := List.getElem_of_mem hm
      have := h.ix j v (by rw [List.getElem?_eq_getElem hj, he])
      omega
    have pl2 : ∀ u : Int, 0 ≤ u → (Q.more v).pl u = if u = v then (Q.l.length : Int) else Q.pl u := by
      intro u hu
      unfold Hq.pl Hq.more
      simp only [List.getElem?_set]
      by_cases h : u = v
      · subst h
        rw [if_pos rfl, if_pos (by omega)]
        simp
      · rw [if_neg (fun e => h (by omega)), if_neg h]
    have hx : (Q.more v).Ok n := by
      refine ⟨hs, by simp [Hq.more]; omega, fun u hu => ?_, fun j u hj => ?_, fun u h1 h2 h3 h4 => ?_⟩
      · have hu : u ∈ Q.l ++ [v] := hu
        rcases List.mem_append.1 hu with hu | hu
        · exact h.r u hu
        · have : u = v := by simpa using hu
          omega
      · have hj : (Q.l ++ [v])[j]? = some u := hj
        by_cases hjl : j < Q.l.length
        · rw [List.getElem?_append_left hjl] at hj
          have hmu := List.mem_of_getElem? hj
          have hur := h.r u hmu
          rw [pl2 _ (by omega), if_neg (fun (e : u = v) => hm (e ▸ hmu))]
          exact h.ix j u hj
        · rw [List.getElem?_append_right (by omega)] at hj
          have hj0 : j - Q.l.length = 0 := by
            have := (List.getElem?_eq_some_iff.1 hj).1
            simp at this; omega
          rw [hj0] at hj
          have : v = u := by simpa using hj
          subst this
          rw [pl2 _ (by omega), if_pos rfl]; omega
      · have h3 : u ∉ Q.l ++ [v] := h3
        rw [List.mem_append, not_or] at h3
        have huv : u ≠ v := by simpa using h3.2
        rw [pl2 _ (by omega), if_neg huv]
        exact h.out u h1 h2 h3.1 h4
    obtain ⟨h3, h4⟩ := up_okx hx (i := (Q.l.length : Int)) (by omega) (by simp [Hq.more]; omega)
    refine ⟨h3, fun u => (h4 u).trans ?_⟩
    show u ∈ Q.l ++ [v] ↔ _
    simp
  · rw [if_neg (fun hc => hpl hc.2.2)]
    refine ⟨h, fun u => ⟨.inl, fun hu => ?_⟩⟩
    rcases hu with hu | rfl
    · exact hu
    · by_cases hm : u ∈ Q.l
      · exact hm
      · exact absurd (h.out u hv hv2 hm (by omega)) hpl
theorem hnew_ok {n : Nat} : (Hq.new n).Ok n ∧ ∀ u, u ∈ (Hq.new n).l ↔ 1 ≤ u ∧ u ≤ (n : Int) := by
  have key : ∀ k, k ≤ n → (∀ (i : Nat) v, (hnew n k).l[i]? = some v → v = (i : Int) + 1 ∧ (hnew n k).pl v = (i : Int)) ∧ (∀ u : Int, 1 ≤ u → u ≤ (k : Int) → u ∈ (hnew n k).l) := by
    intro k
    induction k with
    | zero => intro _; exact ⟨fun i v h => by simp [hnew] at h, fun u h1 h2 => by omega⟩
    | succ k ih =>
      intro hk
      obtain ⟨i1, i2⟩ := ih (by omega)
      have hl := hnew_len n k
      refine ⟨fun i v h => ?_, fun u h1 h2 => ?_⟩
      · have h : ((hnew n k).l ++ [((k + 1 : Nat) : Int)])[i]? = some v := h
        have pl2 : ∀ u : Int, 0 ≤ u → (hnew n (k + 1)).pl u = if u = ((k + 1 : Nat) : Int) then (k : Int) else (hnew n k).pl u := by
          intro u hu
          unfold Hq.pl
          show (((hnew n k).place.set (k + 1) ((hnew n k).l.length : Int))[u.toNat]?).getD 0 = _
          rw [List.getElem?_set]
          by_cases h : u = ((k + 1 : Nat) : Int)
          · subst h
            rw [if_pos (by omega), if_pos (by omega), if_pos rfl]
            simp [hl.2.2.1]
          · rw [if_neg (fun e => h (by omega)), if_neg h]
        by_cases hi : i < (hnew n k).l.length
        · rw [List.getElem?_append_left hi] at h
          obtain ⟨j1, j2⟩ := i1 i v h
          refine ⟨j1, ?_⟩
          rw [pl2 _ (by omega), if_neg (by omega)]; exact j2
        · rw [List.getElem?_append_right (by omega)] at h
          have hj0 : i - (hnew n k).l.length = 0 := by
            have := (List.getElem?_eq_some_iff.1 h).1
            simp at this; omega
          rw [hj0] at h
          have : ((k + 1 : Nat) : Int) = v := by simpa using h
          subst this
          refine ⟨by omega, ?_⟩
          rw [pl2 _ (by omega), if_pos rfl]; omega
      · show u ∈ (hnew n k).l ++ [((k + 1 : Nat) : Int)]
        rw [List.mem_append]
        by_cases hu : u ≤ (k : Int)
        · exact .inl (i2 u h1 hu)
        · right; simp; omega
  obtain ⟨k1, k2⟩ := key n (Nat.le_refl _)
  have hl := hnew_len n n
  have hm := hnew_mem n n
  exact ⟨⟨hl.1, hl.2.1, fun v hv => hm v hv, fun i v h => (k1 i v h).2, fun v h1 h2 h3 _ => absurd (k2 v h1 h2) h3⟩, fun u => ⟨fun hu => hm u hu, fun hu => k2 u hu.1 hu.2⟩⟩
end Go.Sv
/- One decision, one way back. -/
namespace Go.Sv
open Go Go.Proofs
set_option maxRecDepth 100000

def Se.decide (Z : Se) : Se :=
  if Z.next.1 < 1 then Z.next.2 else { Z.next.2 with S := Z.next.2.S.decide (if Z.next.2.S.phase Z.next.1 then Z.next.1 else -Z.next.1) }
theorem next_S (Z : Se) : Z.next.2.S = Z.S := by unfold Se.next; split <;> rfl
theorem k_decide {L : List HPr} {w : World} {s : Nat} {Z : Se} (H : Holds (SeR s Z :: L) w) (hok : Z.S.Ok) (hq : Z.Q.Sm) (hpos : 0 < Z.U.l.length) (hch : Chain Z.U Z.U.ord (Z.U.behind 0)) (hr : InI (Int.tdiv Z.restarts 4)) (hv : Z.next.1 ≤ 1000000000) :
    Calls cx.P F.search_Search_decide #[vP s 0] w (Ret fun v w' => v = .tuple #[] ∧ Holds (SeR s Z.decide :: L) w') := by
  apply vc_search_Search_decide
  have hln := hok.len
  have hsl := hok.sl
  have hvn := hok.sm.n
  refine Calls.ret (k_next H hok.sm hq hpos hch hr) ?_
  rintro _ w1 ⟨rfl, H⟩
  have hS := next_S Z
  unfold Se.decide
  generalize hZ : Z.next = N at *
  obtain ⟨v, Z1⟩ := N
  dsimp only at hS hv H ⊢
  have hs1 : Z1.S.Sm := by rw [hS]; exact hok.sm
  refine ⟨_, rfl, gif_i (fun h => ?_) (fun h => ?_)⟩
  · have h' : v < 1 := of_decide_eq_true h
    rw [if_pos h']
    exact ⟨rfl, H⟩
  · have h' : ¬ v < 1 := of_decide_eq_false h
    rw [if_neg h']
    obtain ⟨p, H⟩ := SeR.op H
    refine ⟨_, cel H 0 rfl rfl, Calls.ret (atr H 3 rfl fun H => k_Phase H hs1 v) ?_⟩
    rintro _ w2 ⟨rfl, H⟩
    refine ⟨_, rfl, gif_i (fun h2 => ?_) (fun h2 => ?_)⟩
    · have h2' : Z1.S.phase v = false := by simpa using h2
      rw [h2']
      refine ⟨by unfold InI; omega, _, cel H 0 rfl rfl, Calls.ret (atp (Q := fun x => x = vB (Z1.S.free (0 - v))) H 3 rfl fun H => k_Decide H hs1 (by rw [hS]; omega) (by rw [hS]; omega) (0 - v)) ?_⟩
      rintro _ w3 ⟨rfl, H⟩
      rw [Int.zero_sub] at H
      exact ⟨_, rfl, rfl, SeR.sh (p := p) (Z := { Z1 with S := Z1.S.decide (-v) }) H⟩
    · have h2' : Z1.S.phase v = true := by simpa using h2
      rw [h2']
      refine ⟨_, cel H 0 rfl rfl, Calls.ret (atp (Q := fun x => x = vB (Z1.S.free v)) H 3 rfl fun H => k_Decide H hs1 (by rw [hS]; omega) (by rw [hS]; omega) v) ?_⟩
      rintro _ w3 ⟨rfl, H⟩
      exact ⟨_, rfl, rfl, SeR.sh (p := p) (Z := { Z1 with S := Z1.S.decide v }) H⟩

def Hq.puts (Q : Hq) (ls : List Int) : Hq := ls.foldl (fun Q l => Q.put (l.natAbs : Int)) Q
def Se.back (Z : Se) (level : Int) : Se := { Z with W := wback Z.W Z.S level, S := Z.S.back level, Q := Z.Q.puts (Z.S.backOut level) }
theorem puts_okx {n : Nat} : ∀ {ls : List Int} {Q : Hq}, Q.Ok n → (∀ x ∈ ls, right x n = true) → (Q.puts ls).Ok n ∧ ∀ u, u ∈ (Q.puts ls).l ↔ u ∈ Q.l ∨ ∃ x ∈ ls, u = (x.natAbs : Int)
  | [], Q, h, _ => ⟨h, fun u => by simp [Hq.puts]⟩
  | x :: ls, Q, h, hr => by
    have hx := right_iff.1 (hr x (List.mem_cons_self ..))
    obtain ⟨h1, h2⟩ := put_okx h (x.natAbs : Int) (by omega) (by omega)
    obtain ⟨h3, h4⟩ := puts_okx (ls := ls) h1 (fun y hy => hr y (List.mem_cons_of_mem _ hy))
    refine ⟨h3, fun u => (h4 u).trans ?_⟩
    rw [h2 u]
    simp only [List.mem_cons]
    constructor
    · rintro ((h | h) | ⟨y, hy, e⟩)
      · exact .inl h
      · exact .inr ⟨x, .inl rfl, h⟩
      · exact .inr ⟨y, .inr hy, e⟩
    · rintro (h | ⟨y, hy | hy, e⟩)
      · exact .inl (.inl h)
      · subst hy; exact .inl (.inr e)
      · exact .inr ⟨y, hy, e⟩
theorem back_len (S : Tr) (level : Int) : (S.back level).vars.length = S.vars.length := by
  unfold Tr.back
  split <;> simp [Tr.clr_len]
theorem backOut_mem {S : Tr} {level : Int} {x : Int} (h : x ∈ S.backOut level) : x ∈ S.l := by
  unfold Tr.backOut at h
  revert h
  cases S.starts[(max level 0).toNat]? with
  | none => intro h; cases h
  | some s => intro h; exact List.mem_of_mem_drop (List.mem_reverse.1 h)
theorem backOut_len (S : Tr) (level : Int) : (S.backOut level).length ≤ S.l.length := by
  unfold Tr.backOut
  split <;> simp
theorem ok_right {S : Tr} (h : S.Ok) {x : Int} (hx : x ∈ S.l) : right x S.vars.length = true := value_right (by rw [h.tr x hx]; decide)
theorem k_back {L : List HPr} {w : World} {s : Nat} {Z : Se} (H : Holds (SeR s Z :: L) w) (hok : Z.S.Ok) (hq : Z.Q.Ok Z.S.vars.length) (level : Int) :
    Calls cx.P F.search_Search_back #[vP s 0, vI level] w (Ret fun v w' => v = .tuple #[] ∧ Holds (SeR s (Z.back level) :: L) w') := by
  apply vc_search_Search_back
  have hln := hok.len
  have hvn := hok.sm.n
  have hbl := backOut_len Z.S level
  obtain ⟨p, H⟩ := SeR.op H
  have H := ((H.pick 3 rfl).pick 3 rfl).pick 3 rfl
  refine ⟨_, cel H 3 rfl rfl, Calls.ret (k_WBack H hok level) ?_⟩
  rintro _ w1 ⟨bp, bc, rfl, H⟩
  have hright : ∀ x ∈ Z.S.backOut level, right x Z.S.vars.length = true := fun x hx => ok_right hok (backOut_mem hx)
  generalize hout : Z.S.backOut level = out at *
  refine ⟨_, _, _, rfl, fun vs w => ∃ (k : Nat), vs = [vI k] ∧ k ≤ out.length ∧ Holds (osl T.int 1 bp out.length bc (out.map vI) :: WtR p.wx p.a p.t (wback Z.W Z.S level) Z.W.lists.length :: ArR p.a Z.A :: TrR p.t (Z.S.back level) :: seB s Z p :: HqR p.h (Z.Q.puts (out.take k)) :: [QuR p.q Z.U, PrR p.pp p.pc Z.proof, osl T.bool 1 p.mp Z.model.length p.mc (Z.model.map vB), mpF p.rb Z.reasons] ++ L) w,
    fun vs _ => (match vs with | [.int _ k] => (out.length : Int) - k | _ => 0).toNat, ⟨0, rfl, Nat.zero_le _, H⟩, ?_⟩
  rintro i w2 ⟨k, hv, hk, H⟩
  simp only [List.cons.injEq, Value.int.injEq, true_and, and_true] at hv
  subst hv
  obtain ⟨hqk, _⟩ := puts_okx (ls := out.take k) hq (fun x hx => hright x (List.mem_of_mem_take hx))
  refine gif_i (fun h => ?_) (fun h => ?_)
  · have hlt : k < out.length := by have := of_decide_eq_true h; omega
    obtain ⟨x, hx⟩ := lt_get hlt
    have hxr := right_iff.1 (hright x (List.mem_of_getElem? hx))
    refine ⟨⟨by omega, by omega⟩, opm H 0 rfl (by omega) fun b o e => ?_⟩
    subst e
    rw [Int.toNat_natCast]
    refine ⟨x, oc H 0 rfl (by rw [List.getElem?_map, hx]; rfl), dr H fun w3 H => ⟨_, cel H 4 rfl rfl, Calls.ret (k_Var H (by omega) (by omega)) ?_⟩⟩
    rintro _ w4 ⟨rfl, H⟩
    have hle := hqk.len
    refine ⟨_, rfl, cel H 4 rfl rfl, Calls.ret (atp H 5 rfl fun H => k_HPut H (hqk.sm hvn) (by omega) _) ?_⟩
    rintro _ w5 ⟨⟨y, rfl⟩, H⟩
    refine ⟨_, rfl, by unfold InI; omega, ⟨k + 1, rfl, by omega, ?_⟩, by simp only; omega⟩
    have e : Z.Q.puts (out.take (k + 1)) = (Z.Q.puts (out.take k)).put (x.natAbs : Int) := by
      rw [take_snoc hx]; unfold Hq.puts; rw [List.foldl_append]; rfl
    rw [e]
    exact H
  · have hge : ¬ k < out.length := by have := of_decide_eq_false h; omega
    have e : out.take k = out := List.take_of_length_le (by omega)
    rw [e] at H
    refine ⟨rfl, ?_⟩
    have hW : (wback Z.W Z.S level).lists.length = Z.W.lists.length := rfl
    have H : Holds (seL s (Z.back level) p ++ L) w2 := by
      have H := H.tail.pick 3 rfl
      unfold Se.back seL
      simp only [hout, hW]
      exact H
    exact SeR.sh H

/-! ### nothing clashes -/
def Se.calm (red : Se → Se) (Z : Se) : Se :=
  if Z.S.l.length = Z.S.vars.length then { Z with verdict := 1, model := Z.S.assign }
  else if Z.conflicts ≥ reduceAt Z.o (Z.reductions + 1) then red Z
  else if Z.since ≥ restartAt Z.o (Z.restarts + 1) then Se.back { Z with restarts := Z.restarts + 1, since := 0 } 0
  else Z.decide
theorem k_calm {L : List HPr} {w : World} {s : Nat} {Z : Se} (red : Se → Se) (H : Holds (SeR s Z :: L) w) (hok : Z.S.Ok) (hq : Z.Q.Ok Z.S.vars.length) (hpos : 0 < Z.U.l.length) (hch : Chain Z.U Z.U.ord (Z.U.behind 0))
    (hr0 : 0 ≤ Z.restarts) (hr1 : Z.restarts ≤ 4000000000000000000) (hd0 : 0 ≤ Z.reductions) (hd1 : Z.reductions ≤ 4000000000000000000) (hv : ¬ Z.S.l.length = Z.S.vars.length → Z.next.1 ≤ 1000000000)
    (hred : ¬ Z.S.l.length = Z.S.vars.length → Z.conflicts ≥ reduceAt Z.o (Z.reductions + 1) → ∀ w, Holds (SeR s Z :: L) w → Calls cx.P F.search_Search_reduce #[vP s 0] w (Ret fun v w' => v = .tuple #[] ∧ Holds (SeR s (red Z) :: L) w')) :
    Calls cx.P F.search_Search_calm #[vP s 0] w (Ret fun v w' => v = .tuple #[] ∧ Holds (SeR s (Z.calm red) :: L) w') := by
  apply vc_search_Search_calm
  obtain ⟨p, H⟩ := SeR.op H
  unfold Se.calm
  have hvn := hok.sm.n
  refine ⟨_, cel H 0 rfl rfl, Calls.ret (atr H 3 rfl fun H => k_Full H) ?_⟩
  rintro _ w1 ⟨rfl, H⟩
  refine ⟨_, rfl, gif_d (fun h => ?_) (fun h => ?_)⟩
  · rw [if_pos h]
    refine ⟨_, cel H 0 rfl rfl, Calls.ret (k_Assignment (H.pick 3 rfl) hok.sm) ?_⟩
    rintro _ w2 ⟨a, c, rfl, H⟩
    have H : Holds (osl T.bool 1 a Z.S.vars.length c (Z.S.assign.map vB) :: (seL s Z p ++ L)) w2 := SatL_cons (fun _ h => SatL_unpick (L := seL s Z p ++ L) 3 rfl h) H
    have ha : Z.S.assign.length = Z.S.vars.length := by simp [Tr.assign]
    refine ⟨_, _, _, rfl, st H 1 rfl rfl (Nat.le_of_ble_eq_true rfl) fun w3 H => st H 1 rfl rfl (Nat.le_of_ble_eq_true rfl) fun w4 H => ⟨rfl, ?_⟩⟩
    rw [← ha] at H
    exact SeR.sh (Z := { Z with verdict := 1, model := Z.S.assign }) (p := { p with mp := a, mc := c }) (Holds.ord 10 [1, 2, 3, 4, 5, 6, 7, 0, 9] rfl H)
  · rw [if_neg h]
    have hopt : ∀ {w2 : World}, Holds (seL s Z p ++ L) w2 → CelL w2 s 0 [vI Z.o.conflicts, vI Z.o.words, vI Z.o.restart, vI Z.o.first, vI Z.o.rise, vI Z.o.walk, vI Z.o.kind, vI Z.o.base, vI Z.o.noise, vI Z.o.mode, vI Z.o.phase, vI Z.o.low, vI Z.o.mid, vI Z.o.minimise, vI Z.o.binary, vU Z.o.seed] := by
      intro w2 H
      refine celL_of fun j v hj => cel H 0 rfl ?_
      rw [Nat.zero_add]
      have hlt := (List.getElem?_eq_some_iff.1 hj).1
      simp only [List.length_cons, List.length_nil] at hlt
      have : ∀ j : Nat, j < 16 → ([vI Z.o.conflicts, vI Z.o.words, vI Z.o.restart, vI Z.o.first, vI Z.o.rise, vI Z.o.walk, vI Z.o.kind, vI Z.o.base, vI Z.o.noise, vI Z.o.mode, vI Z.o.phase, vI Z.o.low, vI Z.o.mid, vI Z.o.minimise, vI Z.o.binary, vU Z.o.seed] ++ [vI (Z.vars : Int), vP p.a 0, vP p.t 0, vP p.wx 0, vP p.h 0, vP p.q 0, vS p.pp Z.proof.length p.pc, vI Z.verdict, vB Z.stopped, vS p.mp Z.model.length p.mc, .map (some p.rb), vI Z.conflicts, vI Z.restarts, vI Z.reductions, vI Z.since])[j]? = [vI Z.o.conflicts, vI Z.o.words, vI Z.o.restart, vI Z.o.first, vI Z.o.rise, vI Z.o.walk, vI Z.o.kind, vI Z.o.base, vI Z.o.noise, vI Z.o.mode, vI Z.o.phase, vI Z.o.low, vI Z.o.mid, vI Z.o.minimise, vI Z.o.binary, vU Z.o.seed][j]? := fun j hj => List.getElem?_append_left hj
      have h16 := this j hlt
      rw [hj] at h16
      exact h16
    refine dr H fun w2 H => ⟨_, cel H 0 rfl rfl, _, _, _, _, _, _, _, _, _, _, _, _, _, _, _, _, hopt H, _, cel H 0 rfl rfl, by unfold InI; omega, Calls.ret (k_ReduceAt H Z.o (Z.reductions + 1) (by omega) (by omega)) ?_⟩
    rintro _ w3 ⟨rfl, H⟩
    refine ⟨_, rfl, cel H 0 rfl rfl, gif_d (fun h2 => ?_) (fun h2 => ?_)⟩
    · rw [if_pos h2]
      refine Calls.ret (hred h h2 _ (SeR.sh H)) ?_
      rintro _ w4 ⟨rfl, H⟩
      exact ⟨rfl, rfl, H⟩
    · rw [if_neg h2]
      refine dr H fun w4 H => ⟨_, cel H 0 rfl rfl, _, _, _, _, _, _, _, _, _, _, _, _, _, _, _, _, hopt H, _, cel H 0 rfl rfl, by unfold InI; omega, Calls.ret (k_RestartAt H Z.o (Z.restarts + 1) (by omega) (by omega)) ?_⟩
      rintro _ w5 ⟨rfl, H⟩
      refine ⟨_, rfl, cel H 0 rfl rfl, gif_d (fun h3 => ?_) (fun h3 => ?_)⟩
      · rw [if_pos h3]
        refine ⟨_, cel H 0 rfl rfl, by unfold InI; omega, st H 0 rfl rfl (Nat.le_of_ble_eq_true rfl) fun w6 H => st H 0 rfl rfl (Nat.le_of_ble_eq_true rfl) fun w7 H => ?_⟩
        have H : Holds (SeR s { Z with restarts := Z.restarts + 1, since := 0 } :: L) w7 := SeR.sh (p := p) H
        refine Calls.ret (k_back H hok hq 0) ?_
        rintro _ w8 ⟨rfl, H⟩
        exact ⟨rfl, rfl, H⟩
      · rw [if_neg h3]
        refine Calls.ret (k_decide (SeR.sh H) hok (hq.sm hvn) hpos hch ?_ (hv h)) ?_
        · unfold InI; rw [Int.tdiv_eq_ediv_of_nonneg hr0]; omega
        rintro _ w8 ⟨rfl, H⟩
        exact ⟨rfl, rfl, H⟩
end Go.Sv
/- A clash at level 0; the proof; a whole run. -/
namespace Go.Sv
open Go Go.Proofs
set_option maxRecDepth 100000

theorem slStep : SlT cx T.s_api_Step T.api_Step 2 32 [vB false, vNS] := SlT.mk' rfl rfl rfl rfl rfl
theorem PrR.op {p : Option Addr} {c : Nat} {ps : List Stp} {L : List HPr} {w : World} (H : Holds (PrR p c ps :: L) w) : ∃ hs, hs.length = ps.length ∧ Holds (osl T.api_Step 2 p ps.length c (stSlots hs ps) :: star (stRows hs ps) :: L) w := by
  obtain ⟨F, ⟨hs, hl, h⟩, hL⟩ := H
  exact ⟨hs, hl, SatL_app.2 ⟨F, h, hL⟩⟩
theorem PrR.sh {p : Option Addr} {c : Nat} {ps : List Stp} {hs : List (Option Addr × Nat)} {L : List HPr} {w : World} (hl : hs.length = ps.length) (H : Holds (osl T.api_Step 2 p ps.length c (stSlots hs ps) :: star (stRows hs ps) :: L) w) : Holds (PrR p c ps :: L) w :=
  part_shut (Ls := [osl T.api_Step 2 p ps.length c (stSlots hs ps), star (stRows hs ps)]) (fun _ h => ⟨hs, hl, h⟩) H
theorem stSlots_snoc {hs : List (Option Addr × Nat)} {ps : List Stp} (hl : hs.length = ps.length) (h : Option Addr × Nat) (x : Stp) : stSlots (hs ++ [h]) (ps ++ [x]) = stSlots hs ps ++ [vB x.del, vS h.1 x.lits.length h.2] := by
  unfold stSlots
  rw [zip_snoc _ _ _ _ _ hl]
  simp
theorem stRows_snoc {hs : List (Option Addr × Nat)} {ps : List Stp} (hl : hs.length = ps.length) (h : Option Addr × Nat) (x : Stp) : stRows (hs ++ [h]) (ps ++ [x]) = stRows hs ps ++ [osl T.int 1 h.1 x.lits.length h.2 (x.lits.map vI)] := zip_snoc _ _ _ _ _ hl
/-- A step is appended. -/
theorem pr_app {tx ty : Nat} {L : List HPr} {w : World} {p pa : Option Addr} {c ca b : Nat} {ps : List Stp} {x : Stp} {K : Value → World → Prop} (hb : ps.length ≤ 1000000000)
    (H : Holds (blk b [vB x.del, vS pa x.lits.length ca] tx :: osl T.int 1 pa x.lits.length ca (x.lits.map vI) :: PrR p c ps :: L) w)
    (h : ∀ p' c' w1, Holds (PrR p' c' (ps ++ [x]) :: L) w1 → K (vS p' (ps.length + 1) c') w1) : Rn cx.P (Builtin.append_ #[T.s_api_Step, T.s_api_Step] ty #[vS p ps.length c, vS (aP b 0) 1 1]) w K := by
  have H := H.pick 2 rfl
  obtain ⟨hs, hl, H⟩ := PrR.op H
  refine oap slStep H 0 rfl (asrc_blk slStep H 2 rfl rfl rfl) (by omega) (by omega) fun p' c' w1 H => h p' c' w1 ?_
  have H : Holds (osl T.int 1 pa x.lits.length ca (x.lits.map vI) :: star (stRows hs ps) :: osl T.api_Step 2 p' (ps.length + 1) c' (stSlots hs ps ++ [vB x.del, vS pa x.lits.length ca]) :: L) w1 := Holds.ord 4 [3, 1, 0] rfl H
  have H := (star_snoc H).swap
  rw [← stSlots_snoc hl (pa, ca) x, ← stRows_snoc hl (pa, ca) x] at H
  refine PrR.sh (hs := hs ++ [(pa, ca)]) (by simp [hl]) (H.cast ?_)
  simp
theorem nil_pr {L : List HPr} {w : World} (H : Holds L w) : Holds (PrR none 0 [] :: L) w := by
  have h1 : Holds (star (stRows [] []) :: L) w := star_shut (Ls := []) (L := L) H
  exact PrR.sh (hs := []) rfl (osl_nil T.api_Step 2 h1)
theorem stFlat_get : ∀ {hs : List (Option Addr × Nat)} {ps : List Stp} {i : Nat} {h : Option Addr × Nat} {x : Stp}, hs[i]? = some h → ps[i]? = some x → (stSlots hs ps)[i * 2]? = some (vB x.del) ∧ (stSlots hs ps)[i * 2 + 1]? = some (vS h.1 x.lits.length h.2)
  | [], _, _, _, _, h, _ => by simp at h
  | _ :: _, [], _, _, _, _, h => by simp at h
  | a :: hs, b :: ps, 0, h, x, h1, h2 => by
    simp at h1 h2; subst h1; subst h2
    exact ⟨rfl, rfl⟩
  | a :: hs, b :: ps, i + 1, h, x, h1, h2 => by
    have := stFlat_get (hs := hs) (ps := ps) (i := i) (by simpa using h1) (by simpa using h2)
    rw [show (i + 1) * 2 = i * 2 + 2 by omega]
    have e : stSlots (a :: hs) (b :: ps) = vB b.del :: vS a.1 b.lits.length a.2 :: stSlots hs ps := rfl
    rw [e]
    exact ⟨this.1, this.2⟩

/-! ### a clash at level 0 -/
def Se.clash0 (Z : Se) : Se := { Z with conflicts := Z.conflicts + 1, since := Z.since + 1, proof := Z.proof ++ [⟨false, []⟩], verdict := 2 }
theorem k_clash0 {L : List HPr} {w : World} {s : Nat} {Z : Se} (H : Holds (SeR s Z :: L) w) (h0 : Z.S.starts.length = 0) (hp : Z.proof.length ≤ 1000000000) (hc0 : 0 ≤ Z.conflicts) (hc : Z.conflicts ≤ 4000000000000000000) (hs0 : 0 ≤ Z.since) (hs1 : Z.since ≤ 4000000000000000000) (ref : Int) :
    Calls cx.P F.search_Search_clash #[vP s 0, vI ref] w (Ret fun v w' => v = .tuple #[] ∧ Holds (SeR s Z.clash0 :: L) w') := by
  apply vc_search_Search_clash
  obtain ⟨p, H⟩ := SeR.op H
  refine ⟨_, cel H 0 rfl rfl, by unfold InI; omega, st H 0 rfl rfl (Nat.le_of_ble_eq_true rfl) fun w1 H => ⟨_, cel H 0 rfl rfl, by unfold InI; omega, st H 0 rfl rfl (Nat.le_of_ble_eq_true rfl) fun w2 H => ⟨_, cel H 0 rfl rfl, Calls.ret (atr H 3 rfl fun H => k_Level H) ?_⟩⟩⟩
  rintro _ w3 ⟨rfl, H⟩
  refine ⟨_, rfl, ?_⟩
  have e : ((Z.S.starts.length : Int) == (0 : Int)) = true := by rw [h0]; rfl
  rw [e]
  refine gif_t rfl ⟨_, _, _, cel H 0 rfl rfl, al H fun b1 w4 H => ?_⟩
  have H := osl_nil T.int 1 H
  have H : Holds (blk b1 [vB false, vNS] T.api_Step :: osl T.int 1 none 0 0 [] :: PrR p.pp p.pc Z.proof :: ([seB s { Z with conflicts := Z.conflicts + 1, since := Z.since + 1 } p, WtR p.wx p.a p.t Z.W Z.W.lists.length, ArR p.a Z.A, TrR p.t Z.S, HqR p.h Z.Q, QuR p.q Z.U, osl T.bool 1 p.mp Z.model.length p.mc (Z.model.map vB), mpF p.rb Z.reasons] ++ L)) w4 := Holds.ord 11 [1, 0, 8, 2, 3, 4, 5, 6, 7, 9, 10] rfl H
  refine pr_app (x := ⟨false, []⟩) hp H fun p' c' w5 H => ⟨_, _, _, rfl, st H 1 rfl rfl (Nat.le_of_ble_eq_true rfl) fun w6 H => st H 1 rfl rfl (Nat.le_of_ble_eq_true rfl) fun w7 H => ⟨rfl, ?_⟩⟩
  have hlen : (Z.proof ++ [(⟨false, []⟩ : Stp)]).length = Z.proof.length + 1 := by simp
  rw [← hlen] at H
  exact SeR.sh (Z := Z.clash0) (p := { p with pp := p', pc := c' }) (Holds.ord 9 [1, 2, 3, 4, 5, 6, 0, 7, 8] rfl H)

/-! ### a run -/
def Se.prop (Z : Se) : Se := { Z with W := (Go.Sv.prop Z.W Z.S Z.A).W, S := (Go.Sv.prop Z.W Z.S Z.A).S, A := (Go.Sv.prop Z.W Z.S Z.A).A }
def Se.clashes (Z : Se) : Option Int := (Go.Sv.prop Z.W Z.S Z.A).clash
/-- At most k rounds. -/
def runGo (red : Se → Se) (lrn : Int → Se → Se) : Nat → Int → Int → Se → Option Se
  | 0, _, _, _ => none
  | k + 1, most, met, Z =>
    if Z.verdict = 0 ∧ Z.stopped = false ∧ (most < 0 ∨ met < most) then
      match Z.clashes with
      | none => runGo red lrn k most met (Z.prop.calm red)
      | some r => if Z.o.conflicts ≥ 0 ∧ Z.prop.conflicts ≥ Z.o.conflicts then some { Z.prop with stopped := true } else runGo red lrn k most (met + 1) (lrn r Z.prop)
    else some Z
/-- What propagation asks for. -/
structure Se.Pr (Z : Se) : Prop where
  ok : Z.S.Ok
  sm : Z.A.Sm
  ln : Z.W.lists.length = 2 * Z.S.vars.length
  lits : ∀ r, ∀ l ∈ Z.A.lits r, right l Z.S.vars.length = true
  tot : Z.W.total ≤ 500000000
  head : 0 ≤ Z.W.head
  vis : 0 ≤ Z.W.visits
  vis2 : Z.W.visits + Z.W.pending.length + (Z.S.vars.length + 1) * 1000000000 ≤ 4611686018427387904
theorem k_Run {L : List HPr} {w : World} {s : Nat} {Z Z' : Se} (red : Se → Se) (lrn : Int → Se → Se) (I : Int → Se → Prop) {most : Int} (H : Holds (SeR s Z :: L) w) (hI : I 0 Z)
    (hpr : ∀ met Z, I met Z → Z.verdict = 0 → Z.stopped = false → Z.Pr ∧ (Z.prop).W.lists.length = Z.W.lists.length ∧ met < 9000000000000000000 ∧ 0 ≤ met)
    (hcalm : ∀ met Z, I met Z → Z.verdict = 0 → Z.stopped = false → (most < 0 ∨ met < most) → Z.clashes = none → I met (Z.prop.calm red) ∧ ∀ w, Holds (SeR s Z.prop :: L) w → Calls cx.P F.search_Search_calm #[vP s 0] w (Ret fun v w' => v = .tuple #[] ∧ Holds (SeR s (Z.prop.calm red) :: L) w'))
    (hclash : ∀ met Z r, I met Z → Z.verdict = 0 → Z.stopped = false → (most < 0 ∨ met < most) → Z.clashes = some r → ¬ (Z.o.conflicts ≥ 0 ∧ Z.prop.conflicts ≥ Z.o.conflicts) → I (met + 1) (lrn r Z.prop) ∧ ∀ w, Holds (SeR s Z.prop :: L) w → Calls cx.P F.search_Search_clash #[vP s 0, vI r] w (Ret fun v w' => v = .tuple #[] ∧ Holds (SeR s (lrn r Z.prop) :: L) w'))
    {k : Nat} (hrun : runGo red lrn k most 0 Z = some Z') :
    Calls cx.P F.search_Search_Run #[vP s 0, vI most] w (Ret fun v w' => v = vI Z'.verdict ∧ Holds (SeR s Z' :: L) w') := by
  apply vc_search_Search_Run
  let J : Nat → List Value → World → Prop := fun n vs w => ∃ (met : Int) (Z1 : Se), vs = [vI met] ∧ I met Z1 ∧ runGo red lrn n most met Z1 = some Z' ∧ Holds (SeR s Z1 :: L) w
  refine ⟨gI J, gM J, ⟨k, 0, Z, rfl, hI, hrun, H⟩, ?_⟩
  rintro met w1 hJ
  obtain ⟨n, ⟨met', Z1, hv, hI1, hgo, H⟩, hM⟩ := g_open hJ
  simp only [List.cons.injEq, Value.int.injEq, true_and, and_true] at hv
  subst hv
  obtain ⟨p, H⟩ := SeR.op H
  cases n with
  | zero => cases hgo
  | succ n =>
  have hend : ¬ (Z1.verdict = 0 ∧ Z1.stopped = false ∧ (most < 0 ∨ met < most)) → ∀ w1, Holds (seL s Z1 p ++ L) w1 → ∃ x, Cel w1 s 23 (vI x) ∧ (vI x = vI Z'.verdict ∧ Holds (SeR s Z' :: L) w1) := by
    intro hn w1 H
    unfold runGo at hgo
    rw [if_neg hn] at hgo
    have e : Z1 = Z' := by simpa using hgo
    subst e
    exact ⟨_, cel H 0 rfl rfl, rfl, SeR.sh H⟩
  have hgo1 : (Z1.verdict = 0 ∧ Z1.stopped = false ∧ (most < 0 ∨ met < most)) → ∃ x3, Cel w1 s 19 (.pointer x3) ∧ Calls cx.P F.watch_Watcher_Propagate #[.pointer x3] w1 (Ret fun v1 w2 => ∃ r1 r2, v1 = .tuple #[vI r1, vB r2] ∧ gif r2 (Calls cx.P F.search_Search_calm #[vP s 0] w2 (Ret fun v2 w3 => v2 = .tuple #[] ∧ gI J [vI met] w3 ∧ gM J [vI met] w3 < gM J [vI met] w1)) (Dr w2 fun w4 => ∃ x4, Cel w4 s 0 (vI x4) ∧ gif (decide (x4 ≥ (0 : Int))) (∃ x5, Cel w4 s 27 (vI x5) ∧ ∃ x6, Cel w4 s 0 (vI x6) ∧ gif (decide (x5 ≥ (x6 : Int))) (St w4 s 24 [vB true] fun w5 => ∃ x7, Cel w5 s 23 (vI x7) ∧ (vI x7 = vI Z'.verdict ∧ Holds (SeR s Z' :: L) w5)) (InI (met + 1) ∧ Calls cx.P F.search_Search_clash #[vP s 0, vI r1] w4 (Ret fun v3 w6 => v3 = .tuple #[] ∧ gI J [vI (met + 1)] w6 ∧ gM J [vI (met + 1)] w6 < gM J [vI met] w1))) (InI (met + 1) ∧ Calls cx.P F.search_Search_clash #[vP s 0, vI r1] w4 (Ret fun v4 w7 => v4 = .tuple #[] ∧ gI J [vI (met + 1)] w7 ∧ gM J [vI (met + 1)] w7 < gM J [vI met] w1)))) := by
    rintro hc
    obtain ⟨hp, hpl, hm, hm0⟩ := hpr _ _ hI1 hc.1 hc.2.1
    unfold runGo at hgo
    rw [if_pos hc] at hgo
    have H1 := ((H.pick 3 rfl).pick 3 rfl).pick 3 rfl
    refine ⟨_, cel H 0 rfl rfl, Calls.ret (k_Propagate H1 hp.ok hp.sm hp.ln hp.lits hp.tot hp.head hp.vis hp.vis2) ?_⟩
    rintro _ w2 ⟨rfl, H⟩
    have H : Holds (SeR s Z1.prop :: L) w2 := by
      refine SeR.sh (p := p) ?_
      have H := H.pick 3 rfl
      unfold seL
      rw [hpl]
      exact H
    have hcl : (Go.Sv.prop Z1.W Z1.S Z1.A).clash = Z1.clashes := rfl
    rw [hcl]
    cases hcs : Z1.clashes with
    | none =>
      rw [hcs] at hgo
      obtain ⟨i1, i2⟩ := hcalm met Z1 hI1 hc.1 hc.2.1 hc.2.2 hcs
      refine ⟨0, true, rfl, gif_t rfl (Calls.ret (i2 _ H) ?_)⟩
      rintro _ w3 ⟨rfl, H⟩
      exact ⟨rfl, g_step (J := J) ⟨met, _, rfl, i1, hgo, H⟩ (Nat.lt_succ_self n) hM⟩
    | some r =>
      rw [hcs] at hgo
      simp only at hgo
      refine ⟨r, false, rfl, gif_f rfl (dr H fun w4 H => ?_)⟩
      have fin : ¬ (Z1.o.conflicts ≥ 0 ∧ Z1.prop.conflicts ≥ Z1.o.conflicts) → InI (met + 1) ∧ Calls cx.P F.search_Search_clash #[vP s 0, vI r] w4 (Ret fun v4 w7 => v4 = .tuple #[] ∧ gI J [vI (met + 1)] w7 ∧ gM J [vI (met + 1)] w7 < gM J [vI met] w1) := by
        intro hn
        rw [if_neg hn] at hgo
        obtain ⟨i1, i2⟩ := hclash met Z1 r hI1 hc.1 hc.2.1 hc.2.2 hcs hn
        refine ⟨by unfold InI; omega, Calls.ret (i2 _ H) ?_⟩
        rintro _ w5 ⟨rfl, H⟩
        exact ⟨rfl, g_step (J := J) ⟨met + 1, _, rfl, i1, hgo, H⟩ (Nat.lt_succ_self n) hM⟩
      obtain ⟨p2, H2⟩ := SeR.op H
      refine ⟨_, cel H2 0 rfl rfl, gif_d (fun h1 => ?_) (fun h1 => fin (fun h => h1 h.1))⟩
      refine ⟨_, cel H2 0 rfl rfl, _, cel H2 0 rfl rfl, gif_d (fun h2 => ?_) (fun h2 => fin (fun h => h2 h.2))⟩
      have hcc : Z1.o.conflicts ≥ 0 ∧ Z1.prop.conflicts ≥ Z1.o.conflicts := ⟨h1, h2⟩
      rw [if_pos hcc] at hgo
      have e : ({ Z1.prop with stopped := true } : Se) = Z' := by simpa using hgo
      subst e
      exact st H2 0 rfl rfl (Nat.le_of_ble_eq_true rfl) fun w5 H => ⟨_, cel H 0 rfl rfl, rfl, SeR.sh (p := p2) H⟩
  refine ⟨_, cel H 0 rfl rfl, gif_i (fun h1 => ?_) (fun h1 => ?_)⟩
  · have h1' : Z1.verdict = 0 := by simpa using h1
    refine ⟨_, cel H 0 rfl rfl, gif_i (fun h2 => ?_) (fun h2 => ?_)⟩
    · have h2' : Z1.stopped = false := by simpa using h2
      refine gif_d (fun h3 => hgo1 ⟨h1', h2', .inl h3⟩) (fun h3 => gif_d (fun h4 => hgo1 ⟨h1', h2', .inr h4⟩) (fun h4 => ?_))
      exact hend (fun h => by rcases h.2.2 with h | h <;> omega) _ H
    · have h2' : Z1.stopped = true := by simpa using h2
      exact hend (fun h => by rw [h2'] at h; exact absurd h.2.1 (by simp)) _ H
  · have h1' : ¬ Z1.verdict = 0 := by simpa using h1
    exact hend (fun h => h1' h.1) _ H
end Go.Sv
/- The proof, as it is told. -/
namespace Go.Sv
open Go Go.Proofs
set_option maxRecDepth 100000

theorem stRows_get {hs : List (Option Addr × Nat)} {ps : List Stp} {i : Nat} {h : Option Addr × Nat} {x : Stp} (h1 : hs[i]? = some h) (h2 : ps[i]? = some x) : (stRows hs ps)[i]? = some (osl T.int 1 h.1 x.lits.length h.2 (x.lits.map vI)) := by
  unfold stRows; rw [List.getElem?_zipWith, h1, h2]
theorem k_SProof {L : List HPr} {w : World} {s : Nat} {Z : Se} (H : Holds (SeR s Z :: L) w) (hp : Z.proof.length ≤ 1000000000) (hb : ∀ x ∈ Z.proof, x.lits.length ≤ 1000000000) :
    Calls cx.P F.search_Search_Proof #[vP s 0] w (Ret fun v w' => ∃ a c, v = vS a Z.proof.length c ∧ Holds (PrR a c Z.proof :: SeR s Z :: L) w') := by
  apply vc_search_Search_Proof
  obtain ⟨p, H⟩ := SeR.op H
  have H := H.pick 6 rfl
  obtain ⟨hs, hl, H⟩ := PrR.op H
  refine ⟨_, _, _, cel H 2 rfl rfl, fun vs w => ∃ (k : Nat) (oa : Option Addr) (oc : Nat), vs = [vS oa k oc, vI k] ∧ k ≤ Z.proof.length ∧ Holds (PrR oa oc (Z.proof.take k) :: osl T.api_Step 2 p.pp Z.proof.length p.pc (stSlots hs Z.proof) :: star (stRows hs Z.proof) :: (seL s Z p ++ L).eraseIdx 6) w,
    fun vs _ => (match vs with | [_, .int _ k] => (Z.proof.length : Int) - k | _ => 0).toNat, ⟨0, none, 0, rfl, Nat.zero_le _, nil_pr H⟩, ?_⟩
  rintro oa ol oc i w1 ⟨k, oa', oc', hv, hk, H⟩
  simp only [List.cons.injEq, Value.slice.injEq, Value.int.injEq, true_and, and_true] at hv
  obtain ⟨⟨rfl, rfl, rfl⟩, rfl⟩ := hv
  have htk : (Z.proof.take ol).length = ol := by rw [List.length_take]; omega
  refine gif_d (fun h => ?_) (fun h => ?_)
  · have hlt : ol < Z.proof.length := by omega
    obtain ⟨x, hx⟩ := lt_get hlt
    obtain ⟨hd, hhd⟩ := lt_get (l := hs) (i := ol) (by omega)
    have hxm := hb x (List.mem_of_getElem? hx)
    refine ⟨⟨by omega, by omega⟩, opm H 1 rfl (by omega) fun b o e => ?_⟩
    rw [e] at H
    obtain ⟨g1, g2⟩ := stFlat_get hhd hx
    rw [Int.toNat_natCast]
    refine ⟨x.del, hd.1, x.lits.length, hd.2, ?_, ?_⟩
    · refine ocL H 1 rfl fun j u hj => ?_
      match j, hj with
      | 0, hj => rw [Nat.add_zero, g1]; exact hj
      | 1, hj => rw [g2]; exact hj
      | j + 2, hj => simp at hj
    refine al H fun b2 w2 H => st H 0 rfl rfl (Nat.le_of_ble_eq_true rfl) fun w3 H => dr H fun w4 H => ⟨_, cel H 0 rfl rfl, _, _, _, cel H 0 rfl rfl, Calls.ret (k_CloneI H rfl hxm fun w' H => ?_) ?_⟩
    · have H := H.pick 3 rfl
      have H := star_take ol (stRows_get hhd hx) H
      exact asrc_osl slInt H 0 rfl
    rintro _ w5 ⟨a, ca, rfl, H⟩
    refine ⟨_, _, _, rfl, cel H 1 rfl rfl, al H fun b3 w6 H => ?_⟩
    have H : Holds (blk b3 [vB x.del, vS a x.lits.length ca] T.api_Step :: osl T.int 1 a x.lits.length ca (x.lits.map vI) :: PrR oa oc (Z.proof.take ol) :: osl T.api_Step 2 (aP b o) Z.proof.length p.pc (stSlots hs Z.proof) :: star (stRows hs Z.proof) :: (seL s Z p ++ L).eraseIdx 6) w6 := Holds.ord 4 [0, 1, 3] rfl H
    have key := pr_app (tx := T.api_Step) (ty := T.s_api_Step) (x := x) (K := fun v2 w7 => ∃ r2a r2l r2c, v2 = vS r2a r2l r2c ∧ InI ((ol : Int) + 1) ∧ (∃ (k : Nat) (oa : Option Addr) (oc : Nat), [vS r2a r2l r2c, vI ((ol : Int) + 1)] = [vS oa k oc, vI k] ∧ k ≤ Z.proof.length ∧ Holds (PrR oa oc (Z.proof.take k) :: osl T.api_Step 2 p.pp Z.proof.length p.pc (stSlots hs Z.proof) :: star (stRows hs Z.proof) :: (seL s Z p ++ L).eraseIdx 6) w7) ∧ ((Z.proof.length : Int) - ((ol : Int) + 1)).toNat < ((Z.proof.length : Int) - (ol : Int)).toNat) (by rw [htk]; omega) H ?_
    · rw [htk] at key
      exact key
    · intro p' c' w7 H
      rw [htk]
      refine ⟨_, _, _, rfl, by unfold InI; omega, ⟨ol + 1, p', c', rfl, by omega, ?_⟩, by omega⟩
      have et : Z.proof.take (ol + 1) = Z.proof.take ol ++ [x] := by rw [List.take_add_one, hx]; rfl
      rw [et, e]
      exact H
  · have hge : ol = Z.proof.length := by omega
    subst hge
    rw [List.take_length] at H
    refine ⟨oa, oc, rfl, ?_⟩
    have H : Holds (osl T.api_Step 2 p.pp Z.proof.length p.pc (stSlots hs Z.proof) :: star (stRows hs Z.proof) :: PrR oa oc Z.proof :: (seL s Z p ++ L).eraseIdx 6) w1 := (H.pick 2 rfl).pick 2 rfl
    have H := PrR.sh hl H
    have H : Holds (PrR oa oc Z.proof :: (seL s Z p ++ L)) w1 := Holds.ord 10 [1, 2, 3, 4, 5, 6, 7, 0, 8, 9] rfl H
    exact part_shut1 (Ls := seL s Z p) (fun _ h => ⟨p, h⟩) H
end Go.Sv
/- Clauses are added to a new search. -/
namespace Go.Sv
open Go Go.Proofs
set_option maxRecDepth 100000

/-- A search to which clauses were added, and no more. -/
structure Se.Ad (n : Nat) (Z : Se) : Prop where
  ok : Z.S.Ok
  hn : Z.S.vars.length = n
  ln : Z.W.lists.length = 2 * n
  lits : ∀ r, ∀ l ∈ Z.A.lits r, right l n = true
  c0 : 0 ≤ Z.A.count
  cnt : Z.A.count ≤ Z.A.words.length
  pend : Z.W.pending.length ≤ Z.A.words.length
  tot : Z.W.total ≤ 2 * Z.A.words.length
  head : Z.W.head = 0
  vis : Z.W.visits = 0
theorem Ar.Sw.lits {A A' : Ar} (h : A.Sw A') {n : Nat} (hr : ∀ r, ∀ l ∈ A.lits r, right l n = true) : ∀ r, ∀ l ∈ A'.lits r, right l n = true := fun r l hl => hr r l ((h.perm r).mem_iff.1 hl)
theorem swap_count (A : Ar) (r i k : Int) : (A.swap r i k).count = A.count := by unfold Ar.swap Ar.upd; split <;> rfl
structure AttK (W : Wt) (A : Ar) (P : Bool × Wt × Ar) : Prop where
  sw : A.Sw P.2.2
  cnt : P.2.2.count = A.count
  ln : P.2.1.lists.length = W.lists.length
  pend : P.2.1.pending.length ≤ W.pending.length + 1
  tot : P.2.1.total ≤ W.total + 2
  head : P.2.1.head = W.head
  vis : P.2.1.visits = W.visits
theorem attach_keep (W : Wt) (S : Tr) (A : Ar) (r : Int) : AttK W A (attach W S A r) := by
  unfold attach
  split
  · simp only
    split
    · refine ⟨(bring_sw S A r 0).trans (bring_sw S _ r 1), ?_, ?_, ?_, ?_, rfl, rfl⟩
      · show (bring S (bring S A r 0) r 1).count = _
        unfold bring
        rw [swap_count, swap_count]
      · simp only [add_len]
      · show (W.pending ++ [r]).length ≤ _
        simp
      · have h1 := total_add ({ W with pending := W.pending ++ [r] } : Wt) ((bring S (bring S A r 0) r 1).lit r 0) ⟨r, (bring S (bring S A r 0) r 1).lit r 1, decide ((A.lits r).length = 2)⟩
        have h2 := total_add (({ W with pending := W.pending ++ [r] } : Wt).add ((bring S (bring S A r 0) r 1).lit r 0) ⟨r, (bring S (bring S A r 0) r 1).lit r 1, decide ((A.lits r).length = 2)⟩) ((bring S (bring S A r 0) r 1).lit r 1) ⟨r, (bring S (bring S A r 0) r 1).lit r 0, decide ((A.lits r).length = 2)⟩
        have h3 : ({ W with pending := W.pending ++ [r] } : Wt).total = W.total := rfl
        exact Nat.le_trans h2 (by omega)
    · refine ⟨.refl A, rfl, rfl, by simp, ?_, rfl, rfl⟩
      show W.total ≤ W.total + 2
      omega
  · exact ⟨.refl A, rfl, rfl, Nat.le_add_right _ _, Nat.le_add_right _ _, rfl, rfl⟩
theorem add_ad {n : Nat} {Z : Se} (h : Z.Ad n) {xs : List Int} (hx : ∀ x ∈ xs, right x n = true) (l : Bool) (g : Int) : (Z.add xs l g).2.Ad n ∧ (Z.add xs l g).2.A.words.length ≤ Z.A.words.length + 3 + xs.length := by
  unfold Se.add
  split
  · exact ⟨⟨h.ok, h.hn, h.ln, h.lits, h.c0, h.cnt, h.pend, h.tot, h.head, h.vis⟩, by show Z.A.words.length ≤ _; omega⟩
  · have k := attach_keep Z.W Z.S (Z.A.addC xs l g) (Z.A.words.length : Int)
    generalize attach Z.W Z.S (Z.A.addC xs l g) (Z.A.words.length : Int) = P at k
    have hw : P.2.2.words.length = Z.A.words.length + 3 + xs.length := by rw [k.sw.w, Ar.addC_words]; simp; omega
    have hc : P.2.2.count = Z.A.count + 1 := k.cnt
    have hlits : ∀ r, ∀ x ∈ (Z.A.addC xs l g).lits r, right x n = true := by
      intro r x hxm
      rw [addC_lits] at hxm
      split at hxm
      · exact hx x hxm
      · exact h.lits r x hxm
    have := h.cnt
    have := h.c0
    have := h.pend
    have := h.tot
    have := k.tot
    have := k.pend
    refine ⟨⟨h.ok, h.hn, ?_, k.sw.lits hlits, ?_, ?_, ?_, ?_, ?_, ?_⟩, ?_⟩
    · show P.2.1.lists.length = _; rw [k.ln]; exact h.ln
    · show 0 ≤ P.2.2.count; omega
    · show P.2.2.count ≤ (P.2.2.words.length : Int); omega
    · show P.2.1.pending.length ≤ P.2.2.words.length; omega
    · show P.2.1.total ≤ 2 * P.2.2.words.length; omega
    · show P.2.1.head = 0; rw [k.head]; exact h.head
    · show P.2.1.visits = 0; rw [k.vis]; exact h.vis
    · show P.2.2.words.length ≤ _; omega
def addGo : List (List Int) → Se → Se
  | [], Z => Z
  | c :: cs, Z => if (Z.add c false 0).1 then addGo cs (Z.add c false 0).2 else (Z.add c false 0).2
def fsize (cs : List (List Int)) : Nat := (cs.map fun c => c.length + 3).sum
theorem fsize_drop {cs : List (List Int)} {k : Nat} {c : List Int} (h : cs[k]? = some c) : fsize (cs.drop k) = c.length + 3 + fsize (cs.drop (k + 1)) := by
  rw [List.drop_eq_getElem_cons (get_lt h), (List.getElem?_eq_some_iff.1 h).2]
  simp [fsize]
theorem addGo_ad {n : Nat} : ∀ (cs : List (List Int)) (Z : Se), Z.Ad n → (∀ c ∈ cs, ∀ x ∈ c, right x n = true) → (addGo cs Z).Ad n ∧ (addGo cs Z).A.words.length ≤ Z.A.words.length + fsize cs
  | [], Z, h, _ => ⟨h, Nat.le_add_right _ _⟩
  | c :: cs, Z, h, hx => by
    obtain ⟨h1, h2⟩ := add_ad h (hx c (List.mem_cons_self ..)) false 0
    have e : fsize (c :: cs) = c.length + 3 + fsize cs := by simp [fsize]
    unfold addGo
    split
    · obtain ⟨h3, h4⟩ := addGo_ad cs _ h1 (fun d hd => hx d (List.mem_cons_of_mem _ hd))
      exact ⟨h3, by omega⟩
    · exact ⟨h1, by omega⟩
/-- First phases. -/
def phGo (o : Op) : Nat → Int → Tr → Rg → Tr × Rg
  | 0, _, S, G => (S, G)
  | k + 1, v, S, G => if o.phase = 1 then phGo o k (v + 1) (S.setPhase v true) G else if o.phase = 2 then phGo o k (v + 1) (S.setPhase v ((G.below 2).1 == 1)) (G.below 2).2 else phGo o k (v + 1) (S.setPhase v false) G
def Tr.new (n : Nat) : Tr := ⟨List.replicate n Cell.zero, [], []⟩
def Se.start (o : Op) (n : Nat) (S : Tr) : Se := ⟨o, n, ⟨List.replicate (2 * n) [], [], 0, 0⟩, S, ⟨[], if o.words = 0 then 1 else max o.words 0, 0⟩, Hq.new n, Qu.new n, [], 0, false, [], fun _ => none, 0, 0, 0, 0⟩
def Se.new (o : Op) (n : Nat) (cs : List (List Int)) (G : Rg) : Se := addGo (normF cs) (Se.start o n (phGo o n 1 (Tr.new n) G).1)
end Go.Sv
/- A new search. -/
namespace Go.Sv
open Go Go.Proofs
set_option maxRecDepth 100000

theorem celL_pre {L : List HPr} {w : World} (H : Holds L w) (i : Nat) {b t : Nat} (xs ys : List Value) (hi : L[i]? = some (blk b (xs ++ ys) t)) : CelL w b 0 xs :=
  celL_of fun j v hj => cel H i hi (by rw [Nat.zero_add, List.getElem?_append_left (get_lt hj)]; exact hj)
theorem normF_mem {cs : List (List Int)} {c : List Int} (h : c ∈ normF cs) : ∃ d ∈ cs, c = normC d := by
  unfold normF at h
  obtain ⟨d, hd, rfl⟩ := List.mem_map.1 h
  exact ⟨d, (List.mem_filter.1 hd).1, rfl⟩
theorem fsize_norm : ∀ cs : List (List Int), fsize (normF cs) ≤ fsize cs
  | [] => Nat.le_refl _
  | c :: cs => by
    have ih := fsize_norm cs
    have e1 : fsize (c :: cs) = c.length + 3 + fsize cs := by simp [fsize]
    by_cases h : taut c = true
    · have e2 : normF (c :: cs) = normF cs := by unfold normF; rw [List.filter_cons_of_neg (by simp [h])]
      rw [e2]; omega
    · have e2 : normF (c :: cs) = normC c :: normF cs := by unfold normF; rw [List.filter_cons_of_pos (by simp [h])]; rfl
      have e3 : fsize (normC c :: normF cs) = (normC c).length + 3 + fsize (normF cs) := by simp [fsize]
      have := normC_len c
      rw [e2, e3]; omega
theorem fsize_len (cs : List (List Int)) : cs.length ≤ fsize cs := by
  induction cs with
  | nil => exact Nat.zero_le _
  | cons c cs ih =>
    have e1 : fsize (c :: cs) = c.length + 3 + fsize cs := by simp [fsize]
    rw [List.length_cons]; omega
theorem tr_new_ok {n : Nat} (hn : n ≤ 100000) : (Tr.new n).Ok := by
  refine ⟨⟨by simp [Tr.new]; exact hn, fun c hc => ?_⟩, fun x hx => (by cases hx), List.nodup_nil, fun i c hc h => ?_, fun s hs => (by cases hs), List.Pairwise.nil⟩
  · have : c = Cell.zero := List.eq_of_mem_replicate hc
    subst this; exact .inr (.inl rfl)
  · have : c = Cell.zero := List.eq_of_mem_replicate (List.mem_of_getElem? hc)
    subst this; exact absurd rfl h
theorem phGo_ok (o : Op) : ∀ (k : Nat) (v : Int) (S : Tr) (G : Rg), S.Ok → (phGo o k v S G).1.Ok ∧ (phGo o k v S G).1.vars.length = S.vars.length ∧ (phGo o k v S G).1.l = S.l ∧ (phGo o k v S G).1.starts = S.starts
  | 0, v, S, G, h => ⟨h, rfl, rfl, rfl⟩
  | k + 1, v, S, G, h => by
    have step : ∀ (is : Bool) (G' : Rg), (phGo o k (v + 1) (S.setPhase v is) G').1.Ok ∧ (phGo o k (v + 1) (S.setPhase v is) G').1.vars.length = S.vars.length ∧ (phGo o k (v + 1) (S.setPhase v is) G').1.l = S.l ∧ (phGo o k (v + 1) (S.setPhase v is) G').1.starts = S.starts := by
      intro is G'
      obtain ⟨h1, h2, h3, h4⟩ := phGo_ok o k (v + 1) (S.setPhase v is) G' (setPhase_ok h v is)
      obtain ⟨k1, k2, k3⟩ := setPhase_shape S v is
      exact ⟨h1, h2.trans k3, h3.trans k1, h4.trans k2⟩
    unfold phGo
    split
    · exact step _ _
    · split
      · exact step _ _
      · exact step _ _
theorem start_ad {o : Op} {n : Nat} {S : Tr} (h : S.Ok) (hn : S.vars.length = n) : (Se.start o n S).Ad n := by
  refine ⟨h, hn, by simp [Se.start], fun r l hl => ?_, Int.le_refl _, by simp [Se.start, Ar.words], by simp [Se.start], ?_, rfl, rfl⟩
  · have : (Se.start o n S).A.lits r = [] := rfl
    rw [this] at hl; cases hl
  · have : (Se.start o n S).W.total = 0 := by simp [Se.start, Wt.total]
    omega
/-- The record while it is laid, without its watcher. -/
def seB0 (s : Nat) (o : Op) (n : Nat) (a t h q rb : Nat) (wv : Value) : HPr := blk s [vI o.conflicts, vI o.words, vI o.restart, vI o.first, vI o.rise, vI o.walk, vI o.kind, vI o.base, vI o.noise, vI o.mode, vI o.phase, vI o.low, vI o.mid, vI o.minimise, vI o.binary, vU o.seed,
  vI (n : Int), vP a 0, vP t 0, wv, vP h 0, vP q 0, vNS, vI 0, vB false, vNS, .map (some rb), vI 0, vI 0, vI 0, vI 0] T.search_Search
theorem below_drawn (G : Rg) (n : Int) : (G.below n).2.drawn ≤ G.drawn + 1 := by
  unfold Rg.below
  split
  · show G.drawn ≤ _; omega
  · unfold Rg.next
    split <;> (show G.drawn + 1 ≤ _; omega)
theorem below_ok {G : Rg} (h : G.Ok) (n : Int) : (G.below n).2.Ok := by
  unfold Rg.below
  split
  · exact h
  · exact (Rg.next_ok h).1
theorem k_SNew1 {L : List HPr} {w : World} {r b1 b2 s a t h q rb : Nat} {G : Rg} {o : Op} {n : Nat} {fa : Option Addr} {fl fc : Nat} {hs : List (Option Addr × Nat)} {cs : List (List Int)}
    (hG : G.Ok) (hd : G.drawn ≤ 4000000000000000000) (hn : n ≤ 100000) (hl : cs.length = fl) (hh : hs.length = cs.length) (h12 : ∀ c ∈ cs, c.length ≤ 12) (hx : ∀ c ∈ cs, ∀ x ∈ c, right x n = true) (hsz : fsize cs ≤ 100000000) (hsrc : ∀ w', Holds L w' → FSrc fa hs cs w')
    (H : Holds (seB0 s o n a t h q rb vN :: ArR a ⟨[], if o.words = 0 then 1 else max o.words 0, 0⟩ :: TrR t (Tr.new n) :: HqR h (Hq.new n) :: QuR q (Qu.new n) :: mpF rb (fun _ => none) :: RgR r G :: blk b1 [vI (n : Int), vS fa fl fc] T.api_Formula :: blk b2 o.vs T.opts_Options :: L) w) :
    vc_search_New_k1 r b1 b2 s w (fun v w' => ∃ s, v = vP s 0 ∧ Holds (SeR s (Se.new o n cs G) :: RgR r (phGo o n 1 (Tr.new n) G).2 :: L) w') := by
  unfold vc_search_New_k1
  obtain ⟨FIN, hF⟩ : ∃ x, phGo o n 1 (Tr.new n) G = x := ⟨_, rfl⟩
  rw [hF]
  refine dr H fun w1 H => ⟨_, cel H 0 rfl rfl, _, cel H 0 rfl rfl, _, cel H 7 rfl rfl, Calls.ret (k_watch_New H a t n hn) ?_⟩
  rintro _ w2 ⟨wx, rfl, H⟩
  refine ⟨_, rfl, st H 1 rfl rfl (Nat.le_of_ble_eq_true rfl) fun w3 H => ?_⟩
  have H : Holds (TrR t (Tr.new n) :: RgR r G :: seB0 s o n a t h q rb (vP wx 0) :: WtR wx a t ⟨List.replicate (2 * n) [], [], 0, 0⟩ (2 * n) :: ArR a ⟨[], if o.words = 0 then 1 else max o.words 0, 0⟩ :: HqR h (Hq.new n) :: QuR q (Qu.new n) :: mpF rb (fun _ => none) :: blk b1 [vI (n : Int), vS fa fl fc] T.api_Formula :: blk b2 o.vs T.opts_Options :: L) w3 := Holds.ord 10 [3, 7, 1, 0, 2, 4, 5, 6, 8, 9] rfl H
  refine ⟨fun vs w => ∃ (k : Nat) (S1 : Tr) (G1 : Rg), vs = [vI ((k : Int) + 1)] ∧ k ≤ n ∧ phGo o (n - k) ((k : Int) + 1) S1 G1 = FIN ∧ S1.Sm ∧ G1.Ok ∧ G1.drawn ≤ G.drawn + k ∧ Holds (TrR t S1 :: RgR r G1 :: seB0 s o n a t h q rb (vP wx 0) :: WtR wx a t ⟨List.replicate (2 * n) [], [], 0, 0⟩ (2 * n) :: ArR a ⟨[], if o.words = 0 then 1 else max o.words 0, 0⟩ :: HqR h (Hq.new n) :: QuR q (Qu.new n) :: mpF rb (fun _ => none) :: blk b1 [vI (n : Int), vS fa fl fc] T.api_Formula :: blk b2 o.vs T.opts_Options :: L) w,
    fun vs _ => (match vs with | [.int _ k] => (n : Int) + 1 - k | _ => 0).toNat, ⟨0, Tr.new n, G, rfl, Nat.zero_le _, hF, (tr_new_ok hn).sm, hG, by omega, H⟩, ?_⟩
  rintro v w4 ⟨k, S1, G1, hv, hk, hgo, hs1, hG1, hdr, H⟩
  simp only [List.cons.injEq, Value.int.injEq, true_and, and_true] at hv
  subst hv
  refine ⟨_, cel H 8 rfl rfl, gif_d (fun hc => ?_) (fun hc => ?_)⟩
  · have hlt : k < n := by omega
    rw [show n - k = (n - (k + 1)) + 1 by omega] at hgo
    unfold phGo at hgo
    have fin : ∀ (S2 : Tr) (G2 : Rg) (w5 : World), S2.Sm → G2.Ok → G2.drawn ≤ G1.drawn + 1 → phGo o (n - (k + 1)) ((k : Int) + 1 + 1) S2 G2 = FIN → Holds (TrR t S2 :: RgR r G2 :: seB0 s o n a t h q rb (vP wx 0) :: WtR wx a t ⟨List.replicate (2 * n) [], [], 0, 0⟩ (2 * n) :: ArR a ⟨[], if o.words = 0 then 1 else max o.words 0, 0⟩ :: HqR h (Hq.new n) :: QuR q (Qu.new n) :: mpF rb (fun _ => none) :: blk b1 [vI (n : Int), vS fa fl fc] T.api_Formula :: blk b2 o.vs T.opts_Options :: L) w5 →
        InI ((k : Int) + 1 + 1) ∧ (∃ (k_1 : Nat) (S1 : Tr) (G1 : Rg), [vI ((k : Int) + 1 + 1)] = [vI ((k_1 : Int) + 1)] ∧ k_1 ≤ n ∧ phGo o (n - k_1) ((k_1 : Int) + 1) S1 G1 = FIN ∧ S1.Sm ∧ G1.Ok ∧ G1.drawn ≤ G.drawn + k_1 ∧ Holds (TrR t S1 :: RgR r G1 :: seB0 s o n a t h q rb (vP wx 0) :: WtR wx a t ⟨List.replicate (2 * n) [], [], 0, 0⟩ (2 * n) :: ArR a ⟨[], if o.words = 0 then 1 else max o.words 0, 0⟩ :: HqR h (Hq.new n) :: QuR q (Qu.new n) :: mpF rb (fun _ => none) :: blk b1 [vI (n : Int), vS fa fl fc] T.api_Formula :: blk b2 o.vs T.opts_Options :: L) w5) ∧ ((n : Int) + 1 - ((k : Int) + 1 + 1)).toNat < ((n : Int) + 1 - ((k : Int) + 1)).toNat := by
      intro S2 G2 w5 h1 h2 h3 h4 H
      exact ⟨by unfold InI; omega, ⟨k + 1, S2, G2, rfl, by omega, h4, h1, h2, by omega, H⟩, by omega⟩
    refine dr H fun w5 H => ⟨_, cel H 2 rfl rfl, _, cel H 9 rfl rfl, gif_i (fun h1 => ?_) (fun h1 => ?_)⟩
    · have h1' : o.phase = 1 := by simpa using h1
      rw [if_pos h1'] at hgo
      refine ⟨cel H 2 rfl rfl, Calls.ret (k_SetPhase H hs1 _ true) ?_⟩
      rintro _ w6 ⟨⟨y, rfl⟩, H⟩
      exact ⟨_, rfl, fin _ _ _ (setPhase_sm hs1 _ _) hG1 (by omega) hgo H⟩
    · have h1' : ¬ o.phase = 1 := by simpa using h1
      rw [if_neg h1'] at hgo
      refine ⟨_, cel H 9 rfl rfl, gif_i (fun h2 => ?_) (fun h2 => ?_)⟩
      · have h2' : o.phase = 2 := by simpa using h2
        rw [if_pos h2'] at hgo
        refine Calls.ret (atp (Q := fun x => x = vI (G1.below 2).1) H 1 rfl fun H => k_Below H hG1 (by omega) 2 (by omega)) ?_
        rintro _ w6 ⟨rfl, H⟩
        refine ⟨_, rfl, cel H 2 rfl rfl, Calls.ret (k_SetPhase H hs1 _ _) ?_⟩
        rintro _ w7 ⟨⟨y, rfl⟩, H⟩
        exact ⟨_, rfl, fin _ _ _ (setPhase_sm hs1 _ _) (below_ok hG1 2) (below_drawn G1 2) hgo H⟩
      · have h2' : ¬ o.phase = 2 := by simpa using h2
        rw [if_neg h2'] at hgo
        refine ⟨cel H 2 rfl rfl, Calls.ret (k_SetPhase H hs1 _ false) ?_⟩
        rintro _ w6 ⟨⟨y, rfl⟩, H⟩
        exact ⟨_, rfl, fin _ _ _ (setPhase_sm hs1 _ _) hG1 (by omega) hgo H⟩
  · have hge : k = n := by omega
    subst hge
    rw [Nat.sub_self] at hgo
    have hgo : (S1, G1) = FIN := hgo
    obtain ⟨o1, o2, o3, o4⟩ := phGo_ok o k 1 (Tr.new k) G (tr_new_ok hn)
    unfold Se.new
    rw [hF, ← hgo] at o1 o2
    rw [hF, ← hgo]
    simp only at o1 o2 ⊢
    have hvl : S1.vars.length = k := by rw [o2]; simp [Tr.new]
    have h2k : WtR wx a t ⟨List.replicate (2 * k) [], [], 0, 0⟩ (2 * k) = WtR wx a t (Se.start o k S1).W (Se.start o k S1).W.lists.length := by simp [Se.start]
    have hcl := fsize_len cs
    refine ⟨_, _, _, _, celL_of fun j v hj => cel H 8 rfl (by rw [Nat.zero_add]; exact hj), Calls.ret (k_Formula H (k : Int) hl hh (by omega) h12 (fun c hc x hxm => ?_) (fun w' H => hsrc w' H.tail.tail.tail.tail.tail.tail.tail.tail.tail.tail)) ?_⟩
    · have := right_iff.1 (hx c hc x hxm); omega
    rintro _ w5 ⟨pp, pc, rfl, H⟩
    have hnr : ∀ c ∈ normF cs, ∀ x ∈ c, right x k = true := by
      intro c hc x hxm
      obtain ⟨d, hd', rfl⟩ := normF_mem hc
      exact hx d hd' x (normC_sub d x hxm)
    have hns := fsize_norm cs
    generalize normF cs = ns at *
    have hnl := fsize_len ns
    obtain ⟨rs, hrl, H⟩ := LsR.op H
    have H : Holds (seB0 s o k a t h q rb (vP wx 0) :: WtR wx a t ⟨List.replicate (2 * k) [], [], 0, 0⟩ (2 * k) :: ArR a ⟨[], if o.words = 0 then 1 else max o.words 0, 0⟩ :: TrR t S1 :: HqR h (Hq.new k) :: QuR q (Qu.new k) :: mpF rb (fun _ => none) :: osl T.s_int 1 pp ns.length pc (slots rs ns) :: star (rowsP T.int 1 (fun x : Int => [vI x]) rs ns) :: RgR r G1 :: L) w5 := Holds.ord 12 [4, 5, 6, 2, 7, 8, 9, 0, 1, 3] rfl H
    have H := nil_pr (osl_nil T.bool 1 H)
    rw [h2k] at H
    have H : Holds (SeR s (Se.start o k S1) :: osl T.s_int 1 pp ns.length pc (slots rs ns) :: star (rowsP T.int 1 (fun x : Int => [vI x]) rs ns) :: RgR r G1 :: L) w5 := SeR.sh (p := ⟨a, t, wx, h, q, none, 0, none, 0, rb⟩) (Holds.ord 9 [2, 3, 4, 5, 6, 7, 0, 1, 8] rfl H)
    refine ⟨_, _, _, _, rfl, fun vs w => ∃ (j : Nat) (Z1 : Se), vs = [vI j] ∧ j ≤ ns.length ∧ addGo (ns.drop j) Z1 = addGo ns (Se.start o k S1) ∧ Z1.Ad k ∧ Z1.A.words.length + fsize (ns.drop j) ≤ fsize ns ∧ Holds (SeR s Z1 :: osl T.s_int 1 pp ns.length pc (slots rs ns) :: star (rowsP T.int 1 (fun x : Int => [vI x]) rs ns) :: RgR r G1 :: L) w,
      fun vs _ => (match vs with | [.int _ j] => (ns.length : Int) - j | _ => 0).toNat, ⟨0, _, rfl, Nat.zero_le _, rfl, start_ad o1 hvl, by simp [Se.start, Ar.words], H⟩, ?_⟩
    rintro v w6 ⟨j, Z1, hv, hj, hgo2, hz, hw, H⟩
    simp only [List.cons.injEq, Value.int.injEq, true_and, and_true] at hv
    subst hv
    refine gif_d (fun hc2 => ?_) (fun hc2 => ?_)
    · have hlt : j < ns.length := by omega
      obtain ⟨c, hc'⟩ := lt_get hlt
      obtain ⟨hd', hhd⟩ := lt_get (l := rs) (i := j) (by omega)
      have hfs := fsize_drop hc'
      have hcm := hnr c (List.mem_of_getElem? hc')
      have hdr' : ns.drop j = c :: ns.drop (j + 1) := by rw [List.drop_eq_getElem_cons hlt, (List.getElem?_eq_some_iff.1 hc').2]
      have hgo2 : (if (Z1.add c false 0).1 then addGo (ns.drop (j + 1)) (Z1.add c false 0).2 else (Z1.add c false 0).2) = addGo ns (Se.start o k S1) := by rw [hdr'] at hgo2; exact hgo2
      have hc1 := hz.cnt
      have hc0 := hz.c0
      have hpd := hz.pend
      have htt := hz.tot
      refine ⟨⟨by omega, by omega⟩, opm H 1 rfl (by omega) fun b o' e => ?_⟩
      subst e
      rw [Int.toNat_natCast]
      refine ⟨_, _, _, oc H 1 rfl (slots_get hhd hc'), Calls.ret (k_SAdd H hz.ok (xs := c) rfl (by omega) (by unfold InI; omega) (fun w' H => ?_) false 0 (by rw [hz.ln, hz.hn]) (by rw [hz.hn]; exact hcm) (by omega) (fun i => by have := row_total Z1.W i; omega)) ?_⟩
      · have H := star_take j (rowsP_get hhd hc') H.swap
        have := asrc_osl slInt H 0 rfl (c' := hd'.2)
        rw [flat_one] at this
        exact this
      rintro _ w7 ⟨rfl, H⟩
      obtain ⟨a1, a2⟩ := add_ad hz hcm false 0
      refine ⟨_, rfl, gif_i (fun h1 => ?_) (fun h1 => ?_)⟩
      · have h1' : ¬ (Z1.add c false 0).1 = true := by simpa using h1
        rw [if_neg h1'] at hgo2
        rw [← hgo2]
        exact ⟨s, rfl, Holds.ord 4 [0, 3] rfl H⟩
      · have h1' : (Z1.add c false 0).1 = true := by simpa using h1
        rw [if_pos h1'] at hgo2
        exact ⟨by unfold InI; omega, ⟨j + 1, _, rfl, by omega, hgo2, a1, by omega, H⟩, by simp only; omega⟩
    · have e : ns.drop j = [] := List.drop_eq_nil_of_le (by omega)
      rw [e] at hgo2
      have hgo2 : Z1 = addGo ns (Se.start o k S1) := hgo2
      rw [← hgo2]
      exact ⟨s, rfl, Holds.ord 4 [0, 3] rfl H⟩

theorem k_SNew {L : List HPr} {w : World} {r : Nat} {G : Rg} {o : Op} {n : Nat} {fa : Option Addr} {fl fc : Nat} {hs : List (Option Addr × Nat)} {cs : List (List Int)} (H : Holds (RgR r G :: L) w)
    (hG : G.Ok) (hd : G.drawn ≤ 4000000000000000000) (hn : n ≤ 100000) (hl : cs.length = fl) (hh : hs.length = cs.length) (h12 : ∀ c ∈ cs, c.length ≤ 12) (hx : ∀ c ∈ cs, ∀ x ∈ c, right x n = true) (hsz : fsize cs ≤ 100000000) (hsrc : ∀ w', Holds L w' → FSrc fa hs cs w') :
    Calls cx.P F.search_New #[.agg #[vI (n : Int), vS fa fl fc], o.v, vP r 0] w (Ret fun v w' => ∃ s, v = vP s 0 ∧ Holds (SeR s (Se.new o n cs G) :: RgR r (phGo o n 1 (Tr.new n) G).2 :: L) w') := by
  apply vc_search_New
  refine al H fun b1 w1 H => al H fun b2 w2 H => ?_
  have key : ∀ (words : Int) (w2 : World), words = (if o.words = 0 then 1 else max o.words 0) → Holds (blk b2 o.vs T.opts_Options :: blk b1 [vI (n : Int), vS fa fl fc] T.api_Formula :: RgR r G :: L) w2 →
      vc_search_New_k2 words r b1 b2 w2 (fun v w' => ∃ s, v = vP s 0 ∧ Holds (SeR s (Se.new o n cs G) :: RgR r (phGo o n 1 (Tr.new n) G).2 :: L) w') := by
    intro words w2 hw H
    unfold vc_search_New_k2
    have op : ∀ {L' : List HPr} {w : World} (i : Nat), Holds L' w → L'[i]? = some (blk b2 o.vs T.opts_Options) → CelL w b2 0 [vI o.conflicts, vI o.words, vI o.restart, vI o.first, vI o.rise, vI o.walk, vI o.kind, vI o.base, vI o.noise, vI o.mode, vI o.phase, vI o.low, vI o.mid, vI o.minimise, vI o.binary, .int .u64 o.seed] := fun {L' w} i H hi => celL_pre H i o.vs [] (by rw [List.append_nil]; exact hi)
    have fin : ∀ {s a t h q rb : Nat} {w : World}, Holds (seB0 s o n a t h q rb vN :: ArR a ⟨[], words, 0⟩ :: TrR t (Tr.new n) :: HqR h (Hq.new n) :: QuR q (Qu.new n) :: mpo rb #[] 0 :: RgR r G :: blk b1 [vI (n : Int), vS fa fl fc] T.api_Formula :: blk b2 o.vs T.opts_Options :: L) w →
        vc_search_New_k1 r b1 b2 s w (fun v w' => ∃ s, v = vP s 0 ∧ Holds (SeR s (Se.new o n cs G) :: RgR r (phGo o n 1 (Tr.new n) G).2 :: L) w') := by
      intro s a t h q rb w H
      rw [hw] at H
      exact k_SNew1 hG hd hn hl hh h12 hx hsz hsrc (H.set 5 rfl fun m hm => mpF_new hm)
    refine dr H fun w3 H => ⟨_, _, _, _, _, _, _, _, _, _, _, _, _, _, _, _, op 0 H rfl, _, cel H 1 rfl rfl, _, cel H 1 rfl rfl, _, cel H 1 rfl rfl, _, cel H 1 rfl rfl, ?_, ?_⟩
    · refine Calls.ret (k_arena_New H words) ?_
      rintro _ w4 ⟨a, rfl, H⟩
      refine ⟨_, rfl, op 1 H rfl, cel H 2 rfl rfl, cel H 2 rfl rfl, cel H 2 rfl rfl, cel H 2 rfl rfl, ?_, ?_⟩
      · refine Calls.ret (k_trail_New H hn) ?_
        rintro _ w5 ⟨t, rfl, H⟩
        refine ⟨_, rfl, op 2 H rfl, cel H 3 rfl rfl, cel H 3 rfl rfl, cel H 3 rfl rfl, ?_, ?_⟩
        · refine Calls.ret (k_scores_New H hn) ?_
          rintro _ w6 ⟨h, rfl, H⟩
          refine ⟨_, rfl, op 3 H rfl, cel H 4 rfl rfl, cel H 4 rfl rfl, ?_, ?_⟩
          · refine Calls.ret (k_vmtf_New H hn) ?_
            rintro _ w7 ⟨q, rfl, H⟩
            refine ⟨_, rfl, op 4 H rfl, cel H 5 rfl rfl, alM H fun rb w8 H => ⟨op 5 H rfl, cel H 6 rfl rfl, cel H 6 rfl rfl, cel H 6 rfl rfl, cel H 6 rfl rfl, al H fun s w9 H => fin (Holds.ord 9 [0, 5, 4, 3, 2, 1, 8, 7, 6] rfl H)⟩⟩
          · refine alM H fun rb w7 H => ⟨op 4 H rfl, cel H 5 rfl rfl, cel H 5 rfl rfl, cel H 5 rfl rfl, cel H 5 rfl rfl, Calls.ret (k_vmtf_New H hn) ?_⟩
            rintro _ w8 ⟨q, rfl, H⟩
            exact ⟨_, rfl, op 5 H rfl, cel H 6 rfl rfl, al H fun s w9 H => fin (Holds.ord 9 [0, 5, 4, 3, 1, 2, 8, 7, 6] rfl H)⟩
        · refine alM H fun rb w6 H => ⟨op 3 H rfl, cel H 4 rfl rfl, cel H 4 rfl rfl, cel H 4 rfl rfl, cel H 4 rfl rfl, Calls.ret (k_scores_New H hn) ?_⟩
          rintro _ w7 ⟨h, rfl, H⟩
          refine ⟨_, rfl, op 4 H rfl, cel H 5 rfl rfl, cel H 5 rfl rfl, Calls.ret (k_vmtf_New H hn) ?_⟩
          rintro _ w8 ⟨q, rfl, H⟩
          exact ⟨_, rfl, op 5 H rfl, cel H 6 rfl rfl, al H fun s w9 H => fin (Holds.ord 9 [0, 5, 4, 2, 1, 3, 8, 7, 6] rfl H)⟩
      · refine alM H fun rb w5 H => ⟨op 2 H rfl, cel H 3 rfl rfl, cel H 3 rfl rfl, cel H 3 rfl rfl, cel H 3 rfl rfl, Calls.ret (k_trail_New H hn) ?_⟩
        rintro _ w6 ⟨t, rfl, H⟩
        refine ⟨_, rfl, op 3 H rfl, cel H 4 rfl rfl, cel H 4 rfl rfl, cel H 4 rfl rfl, Calls.ret (k_scores_New H hn) ?_⟩
        rintro _ w7 ⟨h, rfl, H⟩
        refine ⟨_, rfl, op 4 H rfl, cel H 5 rfl rfl, cel H 5 rfl rfl, Calls.ret (k_vmtf_New H hn) ?_⟩
        rintro _ w8 ⟨q, rfl, H⟩
        exact ⟨_, rfl, op 5 H rfl, cel H 6 rfl rfl, al H fun s w9 H => fin (Holds.ord 9 [0, 5, 3, 2, 1, 4, 8, 7, 6] rfl H)⟩
    · refine alM H fun rb w4 H => ⟨op 1 H rfl, cel H 2 rfl rfl, cel H 2 rfl rfl, cel H 2 rfl rfl, cel H 2 rfl rfl, Calls.ret (k_arena_New H words) ?_⟩
      rintro _ w5 ⟨a, rfl, H⟩
      refine ⟨_, rfl, op 2 H rfl, cel H 3 rfl rfl, cel H 3 rfl rfl, cel H 3 rfl rfl, cel H 3 rfl rfl, Calls.ret (k_trail_New H hn) ?_⟩
      rintro _ w6 ⟨t, rfl, H⟩
      refine ⟨_, rfl, op 3 H rfl, cel H 4 rfl rfl, cel H 4 rfl rfl, cel H 4 rfl rfl, Calls.ret (k_scores_New H hn) ?_⟩
      rintro _ w7 ⟨h, rfl, H⟩
      refine ⟨_, rfl, op 4 H rfl, cel H 5 rfl rfl, cel H 5 rfl rfl, Calls.ret (k_vmtf_New H hn) ?_⟩
      rintro _ w8 ⟨q, rfl, H⟩
      exact ⟨_, rfl, op 5 H rfl, cel H 6 rfl rfl, al H fun s w9 H => fin (Holds.ord 9 [0, 4, 3, 2, 1, 5, 8, 7, 6] rfl H)⟩
  refine ⟨_, cel H 0 rfl rfl, _, cel H 0 rfl rfl, gif_i (fun h => ?_) (fun h => ?_)⟩
  · have h' : o.words = 0 := by simpa using h
    exact key _ _ (by rw [if_pos h']) H
  · have h' : ¬ o.words = 0 := by simpa using h
    refine key _ _ ?_ H
    rw [if_neg h']
    unfold iMax
    split <;> omega
end Go.Sv
/- Whom a watcher watches, and that what follows follows. -/
namespace Go.Sv
open Go Go.Proofs

structure ClOk (n : Nat) (ls : List Int) : Prop where
  nd : ls.Nodup
  rt : ∀ l ∈ ls, right l n = true
  tt : ∀ l ∈ ls, -l ∉ ls
def Wt.at (W : Wt) (g : Int) : List Wat := W.row (litIx g).toNat
def Wt.put (W : Wt) (g : Int) (ws : List Wat) : Wt := { W with lists := W.lists.set (litIx g).toNat ws }
theorem put_at {W : Wt} {n : Nat} (hl : W.lists.length = 2 * n) {f g : Int} (hf : right f n = true) (hg : right g n = true) (ws : List Wat) : (W.put f ws).at g = if g = f then ws else W.at g := by
  obtain ⟨f0, f1, f2, f3⟩ := right_ix hf
  obtain ⟨g0, g1, g2, g3⟩ := right_ix hg
  unfold Wt.at Wt.put Wt.row
  simp only [List.getElem?_set]
  by_cases h : g = f
  · subst h
    rw [if_pos rfl, if_pos (by omega), if_pos rfl]; rfl
  · rw [if_neg (fun e => h (litIx_inj g0 f0 e.symm)), if_neg h]
theorem add_at {W : Wt} {n : Nat} (hl : W.lists.length = 2 * n) {l g : Int} (hf : right l n = true) (hg : right g n = true) (x : Wat) : (W.add l x).at g = if g = l then W.at g ++ [x] else W.at g := by
  obtain ⟨f0, f1, f2, f3⟩ := right_ix hf
  obtain ⟨g0, g1, g2, g3⟩ := right_ix hg
  unfold Wt.at
  rw [row_add]
  by_cases h : g = l
  · subst h
    rw [if_pos ⟨rfl, by omega⟩, if_pos rfl]
  · rw [if_neg (fun e => h (litIx_inj g0 f0 e.1)), if_neg h]
structure WInv (n : Nat) (W : Wt) (A : Ar) : Prop where
  ln : W.lists.length = 2 * n
  cl : ∀ r, A.has r = true → ClOk n (A.lits r)
  ref : ∀ g, right g n = true → ∀ x ∈ W.at g, x.ref < (A.words.length : Int)
  ex : ∀ r, A.has r = true → ∀ g, right g n = true → (W.at g).countP (fun x => x.ref == r) = if 2 ≤ (A.lits r).length ∧ (A.lit r 0 = g ∨ A.lit r 1 = g) then 1 else 0
  wat : ∀ g, right g n = true → ∀ x ∈ W.at g, A.has x.ref = true → x.binary = decide ((A.lits x.ref).length = 2) ∧ x.blocker ∈ A.lits x.ref ∧ x.blocker ≠ g
def lswap (l : List Int) (i k : Nat) : List Int := (l.set i ((l[k]?).getD 0)).set k ((l[i]?).getD 0)
theorem lits_get (A : Ar) {r : Int} {c : Cl} (h : A.get r = some c) : A.lits r = c.lits := by unfold Ar.lits; rw [h]
theorem lit_ix (A : Ar) (r : Int) (i : Nat) : A.lit r (i : Int) = ((A.lits r)[i]?).getD 0 := by
  unfold Ar.lit
  rw [if_neg (by omega)]; simp
theorem swap_lits {A : Ar} {r : Int} {i k : Nat} (hi : i < (A.lits r).length) (hk : k < (A.lits r).length) (hnz : ∀ l ∈ A.lits r, l ≠ 0) (x : Int) : (A.swap r i k).lits x = if x = r then lswap (A.lits r) i k else A.lits x := by
  have h1 : A.lit r (i : Int) ≠ 0 := hnz _ (lit_mem hi)
  have h2 : A.lit r (k : Int) ≠ 0 := hnz _ (lit_mem hk)
  obtain ⟨c, hc, _⟩ := Ar.lit_get h1
  unfold Ar.swap
  rw [if_neg (fun h => by rcases h with h | h <;> contradiction)]
  unfold Ar.lits
  rw [upd_get (Cl.swap_len _ _) (fun _ => rfl)]
  by_cases hx : x = r
  · subst hx
    rw [if_pos rfl, if_pos rfl, hc]
    rfl
  · rw [if_neg hx, if_neg hx]
theorem has_some {A : Ar} {r : Int} (h : A.has r = true) : ∃ c, A.get r = some c := by
  unfold Ar.has at h
  exact Option.isSome_iff_exists.1 h
theorem lits_has {A : Ar} {r x : Int} (h : x ∈ A.lits r) : A.has r = true := by
  unfold Ar.lits at h
  cases hg : A.get r with
  | none => rw [hg] at h; cases h
  | some c => unfold Ar.has; rw [hg]; rfl
/-- The same watched pairs. -/
theorem WInv.sw {n : Nat} {W : Wt} {A A' : Ar} (h : WInv n W A) (k : A.Sw A') (hp : ∀ r, A.has r = true → 2 ≤ (A.lits r).length → ∀ g, (A'.lit r 0 = g ∨ A'.lit r 1 = g) ↔ (A.lit r 0 = g ∨ A.lit r 1 = g)) : WInv n W A' := by
  have hl : ∀ r, (A'.lits r).length = (A.lits r).length := fun r => (k.perm r).length_eq
  refine ⟨h.ln, fun r hr => ?_, fun g hg x hx => by rw [k.w]; exact h.ref g hg x hx, fun r hr g hg => ?_, fun g hg x hx hr => ?_⟩
  · have c := h.cl r (by rw [← k.has]; exact hr)
    exact ⟨(k.perm r).nodup_iff.2 c.nd, fun l hl => c.rt l ((k.perm r).mem_iff.1 hl), fun l hl hn => c.tt l ((k.perm r).mem_iff.1 hl) ((k.perm r).mem_iff.1 hn)⟩
  · rw [k.has] at hr
    rw [h.ex r hr g hg, hl]
    by_cases h2 : 2 ≤ (A.lits r).length
    · simp only [h2, true_and, hp r hr h2 g]
    · simp only [h2, false_and]
  · rw [k.has] at hr
    obtain ⟨w1, w2, w3⟩ := h.wat g hg x hx hr
    exact ⟨by rw [hl]; exact w1, (k.perm _).mem_iff.2 w2, w3⟩
theorem lswap_get (l : List Int) {i k : Nat} (hi : i < l.length) (hk : k < l.length) (j : Nat) : (lswap l i k)[j]? = if j = k then l[i]? else if j = i then l[k]? else l[j]? := by
  unfold lswap
  rw [List.getElem?_set, List.getElem?_set]
  by_cases h1 : j = k
  · subst h1
    rw [if_pos rfl, if_pos (by simpa using hk), if_pos rfl, List.getElem?_eq_getElem hi]; rfl
  · rw [if_neg (fun e => h1 e.symm), if_neg h1]
    by_cases h2 : j = i
    · subst h2
      rw [if_pos rfl, if_pos hi, if_pos rfl, List.getElem?_eq_getElem hk]; rfl
    · rw [if_neg (fun e => h2 e.symm), if_neg h2]
/-! ### what follows -/
inductive UP (A : Ar) : Tr → Tr → Prop
  | refl (S : Tr) : UP A S S
  | put {S S' : Tr} (h : UP A S S') (y r : Int) (hy : y ∈ A.lits r) (h0 : S'.value y = 0) (ho : ∀ z ∈ A.lits r, z ≠ y → S'.value z < 0) : UP A S (S'.put y r)
theorem UP.trans {A : Ar} {S S' S'' : Tr} (h : UP A S S') (k : UP A S' S'') : UP A S S'' := by
  induction k with
  | refl => exact h
  | put _ y r hy h0 ho ih => exact .put ih y r hy h0 ho
theorem UP.sw {A A' : Ar} (k : A.Sw A') {S S' : Tr} (h : UP A' S S') : UP A S S' := by
  induction h with
  | refl => exact .refl _
  | put _ y r hy h0 ho ih => exact .put ih y r ((k.perm r).mem_iff.1 hy) h0 (fun z hz => ho z ((k.perm r).mem_iff.2 hz))
/-- All of a clause's literals are false. -/
def Fals (S : Tr) (A : Ar) (r : Int) : Prop := A.has r = true ∧ ∀ z ∈ A.lits r, S.value z < 0
theorem Fals.sw {A A' : Ar} (k : A.Sw A') {S : Tr} {r : Int} (h : Fals S A' r) : Fals S A r := ⟨by rw [← k.has]; exact h.1, fun z hz => h.2 z ((k.perm r).mem_iff.2 hz)⟩
theorem free_of {S : Tr} {l : Int} (hr : right l S.vars.length = true) (h : S.value l = 0) : S.free l = true := by
  unfold Tr.free
  have := Tr.at_right (S := S) (l := l)
  rw [hr] at this
  obtain ⟨c, hc⟩ := Option.isSome_iff_exists.1 this
  unfold Tr.value at h
  rw [hc] at h ⊢
  simp only at h ⊢
  split at h
  · have : c.value = 0 := by omega
    rw [this]; rfl
  · rw [h]; rfl
theorem unit_up {A : Ar} {S : Tr} {l r : Int} (hl : l ∈ A.lits r) (ho : ∀ z ∈ A.lits r, z ≠ l → S.value z < 0) (hnt : ¬ S.value l > 0) (hr : right l S.vars.length = true) : UP A S (unitS S l r) ∧ (unitO S l r = 2 → Fals (unitS S l r) A r) ∧ (unitO S l r ≠ 2 → unitO S l r = 0) := by
  unfold unitO
  refine ⟨?_, ?_, ?_⟩
  · unfold unitS
    split
    · rename_i h; exact .put (.refl S) l r hl h ho
    · exact .refl S
  · intro h2
    refine ⟨lits_has hl, fun z hz => ?_⟩
    by_cases h : S.value l = 0
    · have e : unitS S l r = S.put l r := by unfold unitS; rw [if_pos h]
      rw [e] at h2 ⊢
      have hf := free_of hr h
      have : (S.put l r).value l = 1 := by
        unfold Tr.put
        rw [if_pos hf, value_putC hf, if_pos rfl]
      rw [this] at h2
      simp at h2
    · have e : unitS S l r = S := by unfold unitS; rw [if_neg h]
      rw [e]
      by_cases hz' : z = l
      · subst hz'; omega
      · exact ho z hz hz'
  · intro h; split at h <;> simp_all
end Go.Sv
/- Propagation keeps the watches, and puts only what follows. -/
namespace Go.Sv
open Go Go.Proofs

theorem lit0 (A : Ar) (r : Int) : A.lit r 0 = ((A.lits r)[0]?).getD 0 := lit_ix A r 0
theorem lit1 (A : Ar) (r : Int) : A.lit r 1 = ((A.lits r)[1]?).getD 0 := lit_ix A r 1
theorem cl_nz {n : Nat} {ls : List Int} (h : ClOk n ls) : ∀ l ∈ ls, l ≠ 0 := fun l hl => (right_iff.1 (h.rt l hl)).1
/-- One watch gives way to another of the same clause. -/
theorem WInv.turn {n : Nat} {W : Wt} {A : Ar} {f : Int} {kept xs : List Wat} {x x' : Wat} (hf : right f n = true) (hl : W.lists.length = 2 * n) (h : WInv n (W.put f (kept ++ x :: xs)) A) (hr : x'.ref = x.ref) (hb : x'.binary = x.binary) (hw : A.has x.ref = true → x'.blocker ∈ A.lits x.ref ∧ x'.blocker ≠ f) :
    WInv n (W.put f (kept ++ x' :: xs)) A := by
  have at1 : ∀ g, right g n = true → ∀ ws, (W.put f ws).at g = if g = f then ws else W.at g := fun g hg ws => put_at hl hf hg ws
  refine ⟨by unfold Wt.put; simpa using hl, h.cl, fun g hg y hy => ?_, fun r hr' g hg => ?_, fun g hg y hy hy' => ?_⟩
  · rw [at1 g hg] at hy
    by_cases hgf : g = f
    · rw [if_pos hgf] at hy
      have hx := h.ref g hg x (by rw [at1 g hg, if_pos hgf]; simp)
      rcases List.mem_append.1 hy with hy | hy
      · exact h.ref g hg y (by rw [at1 g hg, if_pos hgf]; simp [hy])
      · rcases List.mem_cons.1 hy with hy | hy
        · rw [hy, hr]; exact hx
        · exact h.ref g hg y (by rw [at1 g hg, if_pos hgf]; simp [hy])
    · rw [if_neg hgf] at hy
      exact h.ref g hg y (by rw [at1 g hg, if_neg hgf]; exact hy)
  · rw [← h.ex r hr' g hg, at1 g hg, at1 g hg]
    by_cases hgf : g = f
    · rw [if_pos hgf, if_pos hgf, List.countP_append, List.countP_append, List.countP_cons, List.countP_cons, hr]
    · rw [if_neg hgf, if_neg hgf]
  · rw [at1 g hg] at hy
    by_cases hgf : g = f
    · rw [if_pos hgf] at hy
      have hx := h.wat g hg x (by rw [at1 g hg, if_pos hgf]; simp)
      rcases List.mem_append.1 hy with hy | hy
      · exact h.wat g hg y (by rw [at1 g hg, if_pos hgf]; simp [hy]) hy'
      · rcases List.mem_cons.1 hy with hy | hy
        · rw [hy] at hy' ⊢
          rw [hr] at hy' ⊢
          rw [hb, hgf]
          exact ⟨(hx hy').1, hw hy'⟩
        · exact h.wat g hg y (by rw [at1 g hg, if_pos hgf]; simp [hy]) hy'
    · rw [if_neg hgf] at hy
      exact h.wat g hg y (by rw [at1 g hg, if_neg hgf]; exact hy) hy'
/-- A watch of a clause that is gone goes. -/
theorem WInv.dead {n : Nat} {W : Wt} {A : Ar} {f : Int} {kept xs : List Wat} {x : Wat} (hf : right f n = true) (hl : W.lists.length = 2 * n) (h : WInv n (W.put f (kept ++ x :: xs)) A) (hr : A.has x.ref = false) :
    WInv n (W.put f (kept ++ xs)) A := by
  have at1 : ∀ g, right g n = true → ∀ ws, (W.put f ws).at g = if g = f then ws else W.at g := fun g hg ws => put_at hl hf hg ws
  have sub : ∀ g, right g n = true → ∀ y, y ∈ (W.put f (kept ++ xs)).at g → y ∈ (W.put f (kept ++ x :: xs)).at g := by
    intro g hg y hy
    rw [at1 g hg] at hy ⊢
    by_cases hgf : g = f
    · rw [if_pos hgf] at hy ⊢
      simp only [List.mem_append, List.mem_cons] at hy ⊢
      rcases hy with hy | hy
      · exact .inl hy
      · exact .inr (.inr hy)
    · rw [if_neg hgf] at hy ⊢; exact hy
  refine ⟨by unfold Wt.put; simpa using hl, h.cl, fun g hg y hy => h.ref g hg y (sub g hg y hy), fun r hr' g hg => ?_, fun g hg y hy hy' => h.wat g hg y (sub g hg y hy) hy'⟩
  rw [← h.ex r hr' g hg, at1 g hg, at1 g hg]
  by_cases hgf : g = f
  · rw [if_pos hgf, if_pos hgf, List.countP_append, List.countP_append, List.countP_cons]
    have : (x.ref == r) = false := by
      rw [beq_eq_false_iff_ne]
      intro e
      rw [e, hr'] at hr; cases hr
    rw [this]; rfl
  · rw [if_neg hgf, if_neg hgf]
/-- A watch moves. -/
theorem WInv.move {n : Nat} {W : Wt} {A : Ar} {f : Int} {kept xs : List Wat} {x : Wat} (hf : right f n = true) (hl : W.lists.length = 2 * n) (h : WInv n (W.put f (kept ++ x :: xs)) A) (hr : A.has x.ref = true) (h1 : A.lit x.ref 1 = f) (hb : x.binary = false) {i : Nat} (hi : 2 ≤ i) (hi2 : i < (A.lits x.ref).length) :
    WInv n ((W.add (A.lit x.ref i) ⟨x.ref, A.lit x.ref 0, false⟩).put f (kept ++ xs)) (A.swap x.ref 1 i) := by
  have c := h.cl x.ref hr
  have nz := cl_nz c
  have hsl := swap_lits (r := x.ref) (i := 1) (k := i) (A := A) (by omega) hi2 nz
  have hsw := swap_sw A x.ref 1 i
  generalize hA2 : A.swap x.ref 1 (i : Int) = A2 at *
  have hsl : ∀ y, A2.lits y = if y = x.ref then lswap (A.lits x.ref) 1 i else A.lits y := hsl
  have hlm : A.lit x.ref (i : Int) ∈ A.lits x.ref := lit_mem hi2
  have hfm : A.lit x.ref 0 ∈ A.lits x.ref := lit_mem (i := 0) (by omega)
  have gi : (A.lits x.ref)[i]? = some (A.lit x.ref (i : Int)) := by rw [lit_ix, List.getElem?_eq_getElem hi2]; rfl
  have g0 : (A.lits x.ref)[0]? = some (A.lit x.ref 0) := by rw [lit0, List.getElem?_eq_getElem (by omega)]; rfl
  have g1 : (A.lits x.ref)[1]? = some f := by rw [← h1, lit1, List.getElem?_eq_getElem (by omega)]; rfl
  have ndne : ∀ {j k : Nat} {u v : Int}, (A.lits x.ref)[j]? = some u → (A.lits x.ref)[k]? = some v → j ≠ k → u ≠ v := by
    intro j k u v hj hk hjk e
    subst e
    have hj' := get_lt hj
    have hk' := get_lt hk
    rw [List.getElem?_eq_getElem hj'] at hj
    rw [List.getElem?_eq_getElem hk'] at hk
    have e : (A.lits x.ref)[j] = (A.lits x.ref)[k] := by rw [Option.some.inj hj, Option.some.inj hk]
    have nd := c.nd
    rw [List.nodup_iff_pairwise_ne, List.pairwise_iff_getElem] at nd
    rcases Nat.lt_or_gt_of_ne hjk with hlt | hlt
    · exact nd j k hj' hk' hlt e
    · exact nd k j hk' hj' hlt e.symm
  have hl0 := ndne gi g0 (by omega)
  have hlf := ndne gi g1 (by omega)
  have h0f := ndne g0 g1 (by omega)
  have lg2 := lswap_get (A.lits x.ref) (i := 1) (k := i) (by omega) hi2
  generalize hl' : A.lit x.ref (i : Int) = l at *
  generalize hfi : A.lit x.ref 0 = first at *
  have hlr := c.rt l hlm
  have at1 : ∀ g, right g n = true → ∀ ws, (W.put f ws).at g = if g = f then ws else W.at g := fun g hg ws => put_at hl hf hg ws
  have at2 : ∀ g, right g n = true → ∀ ws, ((W.add l ⟨x.ref, first, false⟩).put f ws).at g = if g = f then ws else if g = l then W.at g ++ [⟨x.ref, first, false⟩] else W.at g := fun g hg ws => by
    rw [put_at (by rw [add_len]; exact hl) hf hg, add_at hl hlr hg]
  have sub : ∀ g, right g n = true → ∀ y, y ∈ ((W.add l ⟨x.ref, first, false⟩).put f (kept ++ xs)).at g → y ∈ (W.put f (kept ++ x :: xs)).at g ∨ (g = l ∧ y = ⟨x.ref, first, false⟩) := by
    intro g hg y hy
    rw [at2 g hg] at hy
    rw [at1 g hg]
    by_cases hgf : g = f
    · rw [if_pos hgf] at hy ⊢
      simp only [List.mem_append, List.mem_cons] at hy ⊢
      rcases hy with hy | hy
      · exact .inl (.inl hy)
      · exact .inl (.inr (.inr hy))
    · rw [if_neg hgf] at hy ⊢
      by_cases hgl : g = l
      · rw [if_pos hgl] at hy
        rcases List.mem_append.1 hy with hy | hy
        · exact .inl hy
        · exact .inr ⟨hgl, by simpa using hy⟩
      · rw [if_neg hgl] at hy; exact .inl hy
  have hxr := h.ref f hf x (by rw [at1 f hf, if_pos rfl]; simp)
  have hxw := h.wat f hf x (by rw [at1 f hf, if_pos rfl]; simp) hr
  have hlen : ∀ y, (A2.lits y).length = (A.lits y).length := fun y => (hsw.perm y).length_eq
  refine ⟨by unfold Wt.put; rw [List.length_set, add_len]; exact hl, fun r hr' => ?_, fun g hg y hy => ?_, fun r hr' g hg => ?_, fun g hg y hy hy' => ?_⟩
  · have c' := h.cl r (by rw [← hsw.has]; exact hr')
    exact ⟨(hsw.perm r).nodup_iff.2 c'.nd, fun l hl => c'.rt l ((hsw.perm r).mem_iff.1 hl), fun l hl hn => c'.tt l ((hsw.perm r).mem_iff.1 hl) ((hsw.perm r).mem_iff.1 hn)⟩
  · rw [hsw.w]
    rcases sub g hg y hy with hy | ⟨_, hy⟩
    · exact h.ref g hg y hy
    · rw [hy]; exact hxr
  · rw [hsw.has] at hr'
    have hex := h.ex r hr' g hg
    rw [at1 g hg] at hex
    rw [at2 g hg, hlen]
    by_cases hrx : r = x.ref
    · subst hrx
      have e0 : A2.lit x.ref 0 = first := by rw [lit0, hsl, if_pos rfl, lg2, if_neg (by omega), if_neg (by omega), g0]; rfl
      have e1 : A2.lit x.ref 1 = l := by rw [lit1, hsl, if_pos rfl, lg2, if_neg (by omega), if_pos rfl, gi]; rfl
      rw [e0, e1]
      rw [hfi, h1] at hex
      have h2 : 2 ≤ (A.lits x.ref).length := by omega
      simp only [h2, true_and] at hex ⊢
      by_cases hgf : g = f
      · subst hgf
        rw [if_pos rfl, if_pos (.inr rfl), List.countP_append, List.countP_cons] at hex
        rw [if_pos rfl, if_neg (fun e => by rcases e with e | e <;> contradiction), List.countP_append]
        simp only [beq_self_eq_true, if_true] at hex
        omega
      · rw [if_neg hgf] at hex ⊢
        by_cases hgl : g = l
        · subst hgl
          rw [if_neg (fun e => e.elim (fun e => hl0 e.symm) (fun e => hgf e.symm))] at hex
          rw [if_pos rfl, if_pos (.inr rfl), List.countP_append, hex]
          simp
        · rw [if_neg hgl, hex]
          have : (first = g ∨ f = g) ↔ (first = g ∨ l = g) := ⟨fun e => e.elim .inl (fun e => absurd e.symm hgf), fun e => e.elim .inl (fun e => absurd e.symm hgl)⟩
          simp only [this]
    · have er : A2.lits r = A.lits r := by rw [hsl, if_neg hrx]
      have e0 : A2.lit r 0 = A.lit r 0 := by rw [lit0, lit0, er]
      have e1 : A2.lit r 1 = A.lit r 1 := by rw [lit1, lit1, er]
      have hne : (x.ref == r) = false := by rw [beq_eq_false_iff_ne]; exact fun e => hrx e.symm
      rw [e0, e1, ← hex]
      by_cases hgf : g = f
      · rw [if_pos hgf, if_pos hgf, List.countP_append, List.countP_append, List.countP_cons, hne]; rfl
      · rw [if_neg hgf, if_neg hgf]
        by_cases hgl : g = l
        · rw [if_pos hgl, List.countP_append, List.countP_cons, hne]; rfl
        · rw [if_neg hgl]
  · rw [hsw.has] at hy'
    rcases sub g hg y hy with hy | ⟨hgl, hy⟩
    · obtain ⟨w1, w2, w3⟩ := h.wat g hg y hy hy'
      exact ⟨by rw [hlen]; exact w1, (hsw.perm _).mem_iff.2 w2, w3⟩
    · subst hy
      refine ⟨by rw [hlen, ← hxw.1]; exact hb.symm, (hsw.perm _).mem_iff.2 hfm, fun e => hl0 (by rw [hgl] at e; exact e.symm)⟩
end Go.Sv
/- Propagation as a whole: watches kept, only what follows is put. -/
namespace Go.Sv
open Go Go.Proofs

theorem WInv.vis {n : Nat} {W : Wt} {A : Ar} (h : WInv n W A) (v : Int) : WInv n { W with visits := v } A := ⟨h.ln, h.cl, h.ref, h.ex, h.wat⟩
theorem WInv.same {n : Nat} {W W' : Wt} {A : Ar} (h : WInv n W A) (e : W'.lists = W.lists) : WInv n W' A := by
  have ea : ∀ g, W'.at g = W.at g := fun g => by unfold Wt.at Wt.row; rw [e]
  exact ⟨by rw [e]; exact h.ln, h.cl, fun g hg x hx => h.ref g hg x (by rw [← ea]; exact hx), fun r hr g hg => by rw [ea]; exact h.ex r hr g hg, fun g hg x hx => h.wat g hg x (by rw [← ea]; exact hx)⟩
theorem watched {n : Nat} {W : Wt} {A : Ar} {f : Int} {kept xs : List Wat} {x : Wat} (hf : right f n = true) (hl : W.lists.length = 2 * n) (h : WInv n (W.put f (kept ++ x :: xs)) A) (hr : A.has x.ref = true) : 2 ≤ (A.lits x.ref).length ∧ (A.lit x.ref 0 = f ∨ A.lit x.ref 1 = f) := by
  have hex := h.ex x.ref hr f hf
  rw [put_at hl hf hf, if_pos rfl, List.countP_append, List.countP_cons] at hex
  simp only [beq_self_eq_true, if_true] at hex
  by_cases h2 : 2 ≤ (A.lits x.ref).length ∧ (A.lit x.ref 0 = f ∨ A.lit x.ref 1 = f)
  · exact h2
  · rw [if_neg h2] at hex; omega
theorem swap01_lits {n : Nat} {A : Ar} {r f : Int} (c : ClOk n (A.lits r)) (h2 : 2 ≤ (A.lits r).length) (hw : A.lit r 0 = f ∨ A.lit r 1 = f) :
    (∀ x, x ≠ r → (swap01 A r f).lits x = A.lits x) ∧ (swap01 A r f).lit r 1 = f ∧ (∀ g, ((swap01 A r f).lit r 0 = g ∨ (swap01 A r f).lit r 1 = g) ↔ (A.lit r 0 = g ∨ A.lit r 1 = g)) := by
  unfold swap01
  split
  · rename_i h0
    have hsl := swap_lits (A := A) (r := r) (i := 0) (k := 1) (by omega) (by omega) (cl_nz c)
    have hsl : ∀ x, (A.swap r 0 1).lits x = if x = r then lswap (A.lits r) 0 1 else A.lits x := hsl
    have lg := lswap_get (A.lits r) (i := 0) (k := 1) (by omega) (by omega)
    have e0 : (A.swap r 0 1).lit r 0 = A.lit r 1 := by rw [lit0, hsl, if_pos rfl, lg, if_neg (by omega), if_pos rfl, lit1]
    have e1 : (A.swap r 0 1).lit r 1 = A.lit r 0 := by rw [lit1, hsl, if_pos rfl, lg, if_pos rfl, lit0]
    refine ⟨fun x hx => by rw [hsl, if_neg hx], by rw [e1]; exact h0, fun g => by rw [e0, e1]; exact Or.comm⟩
  · rename_i h0
    exact ⟨fun x _ => rfl, hw.resolve_left h0, fun g => Iff.rfl⟩
theorem findGo_none : ∀ {S : Tr} {ls : List Int} {i : Nat}, findGo S ls i = none → ∀ l ∈ ls, S.value l < 0
  | S, [], i, _, l, hl => by cases hl
  | S, x :: ls, i, h, l, hl => by
    unfold findGo at h
    split at h
    · cases h
    · rename_i hx
      rcases List.mem_cons.1 hl with e | e
      · subst e; omega
      · exact findGo_none h l e
structure VInv (n : Nat) (W : Wt) (S : Tr) (A : Ar) (f : Int) (kept xs : List Wat) (V : VR) : Prop where
  inv : WInv n (V.W.put f (if V.out = 1 then kept ++ xs else kept ++ V.x :: xs)) V.A
  up : UP A S V.S
  fl : V.out = 2 → Fals V.S A V.x.ref
theorem ne02 {A : Prop} (e : (0 : Int) = 2) : A := absurd e (by decide)
theorem ne12 {A : Prop} (e : (1 : Int) = 2) : A := absurd e (by decide)
theorem ne01 : ¬ (0 : Int) = 1 := by decide
theorem visit_inv {n : Nat} {W : Wt} {S : Tr} {A : Ar} {f : Int} {kept xs : List Wat} {x : Wat} (hf : right f n = true) (hS : S.vars.length = n) (hv : S.value f < 0) (hl : W.lists.length = 2 * n) (h : WInv n (W.put f (kept ++ x :: xs)) A) :
    VInv n W S A f kept xs (visit W S A x f) := by
  unfold visit
  split
  · rename_i hr
    have hc := h.cl x.ref hr
    obtain ⟨h2, hw⟩ := watched hf hl h hr
    have hx := h.wat f hf x (by rw [put_at hl hf hf, if_pos rfl]; simp) hr
    split
    · exact ⟨by rw [if_neg ne01]; exact h.same rfl, .refl S, fun e => ne02 e⟩
    · rename_i hb
      split
      · rename_i hbin
        have hlen : (A.lits x.ref).length = 2 := by rw [hx.1] at hbin; exact of_decide_eq_true hbin
        have ho : ∀ z ∈ A.lits x.ref, z ≠ x.blocker → S.value z < 0 := by
          intro z hz hzb
          have : z = f := by
            have fm : f ∈ A.lits x.ref := by
              rcases hw with e | e
              · rw [← e]; exact lit_mem (i := 0) (by omega)
              · rw [← e]; exact lit_mem (i := 1) (by omega)
            have nd := hc.nd
            obtain ⟨hx1, hx2, hx3⟩ := hx
            generalize A.lits x.ref = ls at *
            match ls, hlen with
            | [a, b], _ =>
              simp only [List.mem_cons, List.not_mem_nil, or_false] at hz hx2 fm
              rcases hz with rfl | rfl <;> rcases hx2 with e | e <;> rcases fm with e' | e' <;> simp_all
          rw [this]; exact hv
        obtain ⟨u1, u2, u3⟩ := unit_up hx.2.1 ho hb (by rw [hS]; exact hc.rt _ hx.2.1)
        refine ⟨?_, u1, fun e => u2 e⟩
        have : ¬ unitO S x.blocker x.ref = 1 := by
          by_cases e : unitO S x.blocker x.ref = 2
          · rw [e]; decide
          · rw [u3 e]; decide
        rw [if_neg this]; exact h.same rfl
      · rename_i hbin
        have hbin : x.binary = false := by simpa using hbin
        simp only
        obtain ⟨s1, s2, s3⟩ := swap01_lits hc h2 hw
        have sw := swap01_sw A x.ref f
        have h1 : WInv n (W.put f (kept ++ x :: xs)) (swap01 A x.ref f) := h.sw sw (fun r hr2 _ g => by
          by_cases e : r = x.ref
          · rw [e]; exact s3 g
          · have el := s1 r e
            rw [lit0, lit1, lit0 A, lit1 A, el])
        have hr1 : (swap01 A x.ref f).has x.ref = true := by rw [sw.has]; exact hr
        have hln : ((swap01 A x.ref f).lits x.ref).length = (A.lits x.ref).length := (sw.perm _).length_eq
        generalize swap01 A x.ref f = A1 at *
        have hc1 := h1.cl x.ref hr1
        have hfm : A1.lit x.ref 0 ∈ A1.lits x.ref := lit_mem (i := 0) (by omega)
        have h0f : A1.lit x.ref 0 ≠ f := by
          intro e
          have nd := hc1.nd
          rw [List.nodup_iff_pairwise_ne, List.pairwise_iff_getElem] at nd
          refine nd 0 1 (by omega) (by omega) (by omega) ?_
          rw [← s2, lit0, lit1, List.getElem?_eq_getElem (by omega), List.getElem?_eq_getElem (by omega)] at e
          exact e
        split
        · refine ⟨?_, .refl S, fun e => ne02 e⟩
          rw [if_neg ne01]
          exact (h1.turn (x' := { x with blocker := A1.lit x.ref 0 }) hf hl rfl rfl (fun _ => ⟨hfm, h0f⟩)).same rfl
        · rename_i hnt
          split
          · rename_i i hi
            obtain ⟨i1, i2, l, i3, i4⟩ := findGo_ge hi
            have hi2 : i < (A1.lits x.ref).length := by rw [List.length_drop] at i2; omega
            refine ⟨?_, .refl S, fun e => ne12 e⟩
            rw [if_pos rfl]
            exact (WInv.move hf hl h1 hr1 s2 hbin i1 hi2).same rfl
          · rename_i hn
            have hall := findGo_none hn
            have ho : ∀ z ∈ A1.lits x.ref, z ≠ A1.lit x.ref 0 → S.value z < 0 := by
              intro z hz hz0
              obtain ⟨j, hj, e⟩ := List.getElem_of_mem hz
              by_cases hj0 : j = 0
              · subst hj0
                exact absurd (by rw [lit0, List.getElem?_eq_getElem hj, ← e]; rfl) hz0
              · by_cases hj1 : j = 1
                · subst hj1
                  have : z = f := by rw [← s2, lit1, List.getElem?_eq_getElem hj, ← e]; rfl
                  rw [this]; exact hv
                · refine hall z (List.mem_of_getElem? (i := j - 2) ?_)
                  rw [List.getElem?_drop, show 2 + (j - 2) = j by omega, List.getElem?_eq_getElem hj, e]
            obtain ⟨u1, u2, u3⟩ := unit_up hfm ho hnt (by rw [hS]; exact hc1.rt _ hfm)
            refine ⟨?_, u1.sw sw, fun e => (u2 e).sw sw⟩
            have : ¬ unitO S (A1.lit x.ref 0) x.ref = 1 := by
              by_cases e : unitO S (A1.lit x.ref 0) x.ref = 2
              · rw [e]; decide
              · rw [u3 e]; decide
            rw [if_neg this]; exact h1.same rfl
  · rename_i hr
    have hr : A.has x.ref = false := by simpa using hr
    exact ⟨by rw [if_pos rfl]; exact (h.dead hf hl hr).same rfl, .refl S, fun e => ne12 e⟩
structure FInv (n : Nat) (S : Tr) (A : Ar) (f : Int) (R : FR) : Prop where
  inv : WInv n (R.W.put f R.row) R.A
  up : UP A S R.S
  fl : ∀ r, R.clash = some r → Fals R.S A r
theorem fellGo_inv {n : Nat} {f : Int} (hf : right f n = true) : ∀ (xs kept : List Wat) (W : Wt) (S : Tr) (A : Ar), S.vars.length = n → S.value f < 0 → W.lists.length = 2 * n → WInv n (W.put f (kept ++ xs)) A → FInv n S A f (fellGo f xs kept W S A)
  | [], kept, W, S, A, _, _, _, h => ⟨by rw [List.append_nil] at h; exact h, .refl S, fun r hr => by cases hr⟩
  | x :: xs, kept, W, S, A, hS, hv, hl, h => by
    have k := visit_keep W S A x f
    have v := visit_inv hf hS hv hl h
    unfold fellGo
    simp only
    generalize visit W S A x f = V at *
    have hS' : V.S.vars.length = n := by rw [k.S.vars]; exact hS
    have hv' : V.S.value f < 0 := by rw [k.S.val f (by omega)]; exact hv
    have hl' : V.W.lists.length = 2 * n := by rw [k.len]; exact hl
    split
    · rename_i h0
      have hi := v.inv
      rw [if_neg (by rw [h0]; decide)] at hi
      have ih := fellGo_inv hf xs (kept ++ [V.x]) V.W V.S V.A hS' hv' hl' (by rw [List.append_assoc]; exact hi)
      exact ⟨ih.inv, v.up.trans (ih.up.sw k.A), fun r hr => (ih.fl r hr).sw k.A⟩
    · split
      · rename_i _ h2
        have hi := v.inv
        rw [if_neg (by rw [h2]; decide)] at hi
        refine ⟨hi, v.up, fun r hr => ?_⟩
        have e : V.x.ref = r := by simpa using hr
        rw [← e]; exact v.fl h2
      · rename_i h0 h2
        have h1 : V.out = 1 := by rcases k.out with e | e | e <;> simp_all
        have hi := v.inv
        rw [if_pos h1] at hi
        have ih := fellGo_inv hf xs kept V.W V.S V.A hS' hv' hl' hi
        exact ⟨ih.inv, v.up.trans (ih.up.sw k.A), fun r hr => (ih.fl r hr).sw k.A⟩
theorem put_self {W : Wt} {f : Int} {n : Nat} (hl : W.lists.length = 2 * n) (hf : right f n = true) : W.put f (W.at f) = W := by
  obtain ⟨f0, f1, f2, f3⟩ := right_ix hf
  unfold Wt.put Wt.at Wt.row
  have : W.lists.set (litIx f).toNat ((W.lists[(litIx f).toNat]?).getD []) = W.lists := by
    apply set_self
    rw [List.getElem?_eq_getElem (by omega)]; rfl
  rw [this]
theorem fell_inv {n : Nat} {W : Wt} {S : Tr} {A : Ar} {f : Int} (hf : right f n = true) (hS : S.vars.length = n) (hv : S.value f < 0) (h : WInv n W A) :
    WInv n (fell W S A f).W (fell W S A f).A ∧ UP A S (fell W S A f).S ∧ (∀ r, (fell W S A f).clash = some r → Fals (fell W S A f).S A r) := by
  have hp := put_self h.ln hf
  have := fellGo_inv hf (W.at f) [] W S A hS hv h.ln (by rw [List.nil_append, hp]; exact h)
  exact ⟨this.inv, this.up, this.fl⟩
/-! ### what wasn't looked at -/
theorem lookGo_spec {S : Tr} : ∀ {ls : List Int} {f g : Int}, f ≠ 0 ∨ f = 0 → lookGo S ls f = some g → (∀ z ∈ ls, z ≠ 0) → (∀ z ∈ ls, S.value z < 0 ∨ (z = g ∧ S.value z = 0)) ∧ (g = f ∨ (f = 0 ∧ g ∈ ls ∧ S.value g = 0))
  | [], f, g, _, h, _ => by
    have : f = g := by simpa [lookGo] using h
    exact ⟨fun z hz => (by cases hz), .inl this.symm⟩
  | x :: ls, f, g, hf, h, hz => by
    unfold lookGo at h
    split at h
    · cases h
    · rename_i hc
      simp only [not_or, not_and] at hc
      obtain ⟨h1, h2⟩ := lookGo_spec (by omega) h (fun z hz' => hz z (List.mem_cons_of_mem _ hz'))
      by_cases hx : S.value x = 0
      · rw [if_pos hx] at h2
        have hf0 : f = 0 := by have := hc.2 hx; omega
        have hx0 := hz x (List.mem_cons_self ..)
        have hg : g = x := by
          rcases h2 with h2 | h2
          · exact h2
          · exact absurd h2.1 hx0
        subst hg
        exact ⟨fun z hz' => (List.mem_cons.1 hz').elim (fun e => .inr ⟨e, by rw [e]; exact hx⟩) (fun e => h1 z e), .inr ⟨hf0, List.mem_cons_self .., hx⟩⟩
      · rw [if_neg hx] at h2
        refine ⟨fun z hz' => (List.mem_cons.1 hz').elim (fun e => .inl (by rw [e]; omega)) (fun e => h1 z e), ?_⟩
        rcases h2 with h2 | ⟨h2, h3, h4⟩
        · exact .inl h2
        · exact .inr ⟨h2, List.mem_cons_of_mem _ h3, h4⟩
theorem look_inv {n : Nat} {S : Tr} {A : Ar} {r : Int} (hc : ClOk n (A.lits r)) (hr : A.has r = true) (hS : S.vars.length = n) : UP A S (look S A r).2 ∧ ((look S A r).1 = false → Fals (look S A r).2 A r) := by
  unfold look
  split
  · exact ⟨.refl S, fun h => by cases h⟩
  · rename_i f hf
    obtain ⟨h1, h2⟩ := lookGo_spec (.inr rfl) hf (cl_nz hc)
    split
    · rename_i h0
      refine ⟨.refl S, fun _ => ⟨hr, fun z hz => ?_⟩⟩
      rcases h1 z hz with h | h
      · exact h
      · exact absurd (h.1.trans h0) (cl_nz hc z hz)
    · rename_i h0
      rcases h2 with h2 | ⟨_, h2, h3⟩
      · exact absurd h2 h0
      · refine ⟨.put (.refl S) f r h2 h3 (fun z hz hzf => (h1 z hz).resolve_right (fun h => hzf h.1)), fun h => ?_⟩
        rw [free_of (by rw [hS]; exact hc.rt f h2) h3] at h
        cases h
theorem pend_inv {n : Nat} {A : Ar} (hc : ∀ r, A.has r = true → ClOk n (A.lits r)) : ∀ (rs : List Int) (v : Int) (S : Tr), S.vars.length = n → UP A S (pendGo A rs v S).S ∧ ∀ r, (pendGo A rs v S).clash = some r → Fals (pendGo A rs v S).S A r
  | [], v, S, _ => ⟨.refl S, fun r h => by cases h⟩
  | r :: rs, v, S, hS => by
    unfold pendGo
    split
    · rename_i hr
      obtain ⟨l1, l2⟩ := look_inv (hc r hr) hr hS
      split
      · obtain ⟨h1, h2⟩ := pend_inv hc rs (v + 1) (look S A r).2 (by rw [(look_ext S A r).vars]; exact hS)
        exact ⟨l1.trans h1, h2⟩
      · rename_i hf
        refine ⟨l1, fun r' h' => ?_⟩
        have e : r = r' := by simpa using h'
        rw [← e]
        exact l2 (by simpa using hf)
    · exact pend_inv hc rs (v + 1) S hS
theorem head_inv {n : Nat} : ∀ (k : Nat) (W : Wt) (S : Tr) (A : Ar), S.Ok → S.vars.length = n → 0 ≤ W.head → WInv n W A → WInv n (headGo k W S A).W (headGo k W S A).A ∧ UP A S (headGo k W S A).S ∧ ∀ r, (headGo k W S A).clash = some r → Fals (headGo k W S A).S A r
  | 0, W, S, A, _, _, _, h => ⟨h, .refl S, fun r h => by cases h⟩
  | k + 1, W, S, A, hok, hS, hh, h => by
    unfold headGo
    split
    · rename_i hlt
      have hlm : S.lAt W.head ∈ S.l := by
        unfold Tr.lAt
        rw [if_neg (by omega), List.getElem?_eq_getElem (by omega)]
        exact List.getElem_mem _
      have hlv := hok.tr _ hlm
      have hlr := right_iff.1 (ok_right hok hlm)
      generalize S.lAt W.head = x at *
      have hf : right (-x) n = true := right_iff.2 ⟨by omega, by omega⟩
      have hv : S.value (-x) < 0 := by rw [value_neg, hlv]; decide
      obtain ⟨f1, f2, f3⟩ := fell_inv hf hS hv h
      have hx := right_ix hf
      obtain ⟨e1, e2, e3, e4, e5, _⟩ := fell_keep W S A (-x) (by rw [h.ln]; exact hx.2.1)
      generalize fell W S A (-x) = R at *
      split
      · rename_i r hr
        exact ⟨f1, f2, fun r' h' => by
          have e : r = r' := by simpa using h'
          rw [← e]; exact f3 r hr⟩
      · have hS' : R.S.vars.length = n := by rw [e1.vars]; exact hS
        obtain ⟨g1, g2, g3⟩ := head_inv k { R.W with head := W.head + 1 } R.S R.A (e1.ok hok) hS' (by show 0 ≤ W.head + 1; omega) (f1.same rfl)
        exact ⟨g1, f2.trans (g2.sw e2), fun r hr => (g3 r hr).sw e2⟩
    · exact ⟨h, .refl S, fun r h => by cases h⟩
theorem prop_inv {n : Nat} {W : Wt} {S : Tr} {A : Ar} (hok : S.Ok) (hS : S.vars.length = n) (hh : 0 ≤ W.head) (h : WInv n W A) : WInv n (prop W S A).W (prop W S A).A ∧ UP A S (prop W S A).S ∧ ∀ r, (prop W S A).clash = some r → Fals (prop W S A).S A r := by
  obtain ⟨p1, p2⟩ := pend_inv h.cl W.pending W.visits S hS
  unfold prop
  simp only
  split
  · rename_i r hr
    exact ⟨h.same rfl, p1, fun r' h' => by
      have e : r = r' := by simpa using h'
      rw [← e]; exact p2 r hr⟩
  · have ext : S.Ext (pendGo A W.pending W.visits S).S := by
      clear p1 p2
      have : ∀ (rs : List Int) (v : Int) (S : Tr), S.Ext (pendGo A rs v S).S := by
        intro rs
        induction rs with
        | nil => intro v S; exact .refl S
        | cons r rs ih =>
          intro v S
          unfold pendGo
          split
          · split
            · exact (look_ext S A r).trans (ih _ _)
            · exact look_ext S A r
          · exact ih _ _
      exact this _ _ _
    obtain ⟨g1, g2, g3⟩ := head_inv ((pendGo A W.pending W.visits S).S.vars.length + 1) { W with pending := (pendGo A W.pending W.visits S).pending, visits := (pendGo A W.pending W.visits S).visits } (pendGo A W.pending W.visits S).S A (ext.ok hok) (by rw [ext.vars]; exact hS) hh (h.same rfl)
    exact ⟨g1, p1.trans g2, g3⟩
end Go.Sv
/- A clause that is attached is watched. -/
namespace Go.Sv
open Go Go.Proofs

theorem swap_other (A : Ar) (r i k : Int) {x : Int} (hx : x ≠ r) : (A.swap r i k).lits x = A.lits x := by
  unfold Ar.swap
  split
  · rfl
  · unfold Ar.lits
    rw [upd_get (Cl.swap_len _ _) (fun _ => rfl), if_neg hx]
theorem count_zero {W : Wt} {A : Ar} {n : Nat} (h : WInv n W A) {g r : Int} (hg : right g n = true) (hr : (A.words.length : Int) ≤ r) : (W.at g).countP (fun x => x.ref == r) = 0 := by
  rw [List.countP_eq_zero]
  intro x hx e
  have := h.ref g hg x hx
  have e' : x.ref = r := by simpa using e
  omega
theorem attach_inv {n : Nat} {W : Wt} {S : Tr} {A : Ar} (h : WInv n W A) {xs : List Int} (hx : ClOk n xs) (l : Bool) (g : Int) :
    WInv n (attach W S (A.addC xs l g) (A.words.length : Int)).2.1 (attach W S (A.addC xs l g) (A.words.length : Int)).2.2 ∧ (attach W S (A.addC xs l g) (A.words.length : Int)).1 = true := by
  have hw1 : (A.addC xs l g).words.length = A.words.length + 3 + xs.length := by rw [Ar.addC_words]; simp; omega
  have hlits : ∀ r, (A.addC xs l g).lits r = if r = (A.words.length : Int) then xs else A.lits r := addC_lits A xs l g
  have hhas : ∀ r, (A.addC xs l g).has r = if r = (A.words.length : Int) then true else A.has r := Ar.addC_has A xs l g
  generalize A.addC xs l g = A1 at *
  generalize hR : (A.words.length : Int) = R at *
  have hc1 : ∀ r, A1.has r = true → ClOk n (A1.lits r) := by
    intro r hr
    rw [hlits]
    rw [hhas] at hr
    by_cases e : r = R
    · rw [if_pos e]; exact hx
    · rw [if_neg e] at hr ⊢; exact h.cl r hr
  have hR1 : A1.has R = true := by rw [hhas, if_pos rfl]
  have hlR : A1.lits R = xs := by rw [hlits, if_pos rfl]
  have cz : ∀ g, right g n = true → (W.at g).countP (fun x => x.ref == R) = 0 := fun g hg => count_zero h hg (by omega)
  have refne : ∀ g, right g n = true → ∀ x ∈ W.at g, x.ref ≠ R := fun g hg x hx e => by have := h.ref g hg x hx; omega
  unfold attach
  rw [if_pos hR1]
  simp only
  split
  · rename_i h2
    rw [hlR] at h2
    have sw := (bring_sw S A1 R 0).trans (bring_sw S (bring S A1 R 0) R 1)
    have ho : ∀ x, x ≠ R → (bring S (bring S A1 R 0) R 1).lits x = A1.lits x := fun x hx => by
      unfold bring
      rw [swap_other _ _ _ _ hx, swap_other _ _ _ _ hx]
    generalize bring S (bring S A1 R 0) R 1 = A2 at *
    have hp := sw.perm R
    rw [hlR] at hp
    have hlen : (A2.lits R).length = xs.length := hp.length_eq
    have hc2 : ClOk n (A2.lits R) := ⟨hp.nodup_iff.2 hx.nd, fun l hl => hx.rt l (hp.mem_iff.1 hl), fun l hl hn => hx.tt l (hp.mem_iff.1 hl) (hp.mem_iff.1 hn)⟩
    have m0 : A2.lit R 0 ∈ A2.lits R := lit_mem (i := 0) (by omega)
    have m1 : A2.lit R 1 ∈ A2.lits R := lit_mem (i := 1) (by omega)
    have hne : A2.lit R 0 ≠ A2.lit R 1 := by
      intro e
      have nd := hc2.nd
      rw [List.nodup_iff_pairwise_ne, List.pairwise_iff_getElem] at nd
      refine nd 0 1 (by omega) (by omega) (by omega) ?_
      rw [lit0, lit1, List.getElem?_eq_getElem (by omega), List.getElem?_eq_getElem (by omega)] at e
      exact e
    generalize ha : A2.lit R 0 = a at *
    have ra := hc2.rt a m0
    generalize hb : A2.lit R 1 = b at *
    have rb := hc2.rt b m1
    refine ⟨?_, rfl⟩
    rw [hlR]
    have atW : ∀ g, right g n = true → ((({ W with pending := W.pending ++ [R] } : Wt).add a ⟨R, b, decide (xs.length = 2)⟩).add b ⟨R, a, decide (xs.length = 2)⟩).at g = if g = b then W.at g ++ [⟨R, a, decide (xs.length = 2)⟩] else if g = a then W.at g ++ [⟨R, b, decide (xs.length = 2)⟩] else W.at g := by
      intro g hg
      rw [add_at (n := n) (by rw [add_len]; exact h.ln) rb hg, add_at (W := { W with pending := W.pending ++ [R] }) (n := n) h.ln ra hg]
      by_cases h1 : g = b
      · rw [if_pos h1, if_pos h1, if_neg (fun e => hne (by rw [← e, h1]))]; rfl
      · rw [if_neg h1, if_neg h1]; rfl
    have hasR : ∀ r, A2.has r = if r = R then true else A.has r := fun r => by rw [sw.has, hhas]
    refine ⟨by rw [add_len, add_len]; exact h.ln, fun r hr => ?_, fun g hg y hy => ?_, fun r hr g hg => ?_, fun g hg y hy hr => ?_⟩
    · by_cases e : r = R
      · rw [e]; exact hc2
      · rw [ho r e]; exact hc1 r (by rw [← sw.has]; exact hr)
    · rw [sw.w, hw1]
      rw [atW g hg] at hy
      have : y ∈ W.at g ∨ y.ref = R := by
        split at hy
        · rcases List.mem_append.1 hy with e | e
          · exact .inl e
          · right; have : y = ⟨R, a, decide (xs.length = 2)⟩ := by simpa using e
            rw [this]
        · split at hy
          · rcases List.mem_append.1 hy with e | e
            · exact .inl e
            · right; have : y = ⟨R, b, decide (xs.length = 2)⟩ := by simpa using e
              rw [this]
          · exact .inl hy
      rcases this with e | e
      · have := h.ref g hg y e; omega
      · omega
    · rw [atW g hg]
      by_cases e : r = R
      · subst e
        have c0 := cz g hg
        rw [hlen]
        have h2' : 2 ≤ xs.length := h2
        by_cases h1 : g = b
        · rw [if_pos h1, List.countP_append, c0, if_pos ⟨h2', .inr (hb.trans h1.symm)⟩]; simp
        · rw [if_neg h1]
          by_cases h3 : g = a
          · rw [if_pos h3, List.countP_append, c0, if_pos ⟨h2', .inl (ha.trans h3.symm)⟩]; simp
          · rw [if_neg h3, c0, if_neg]
            rintro ⟨_, e | e⟩
            · exact h3 (e.symm.trans ha)
            · exact h1 (e.symm.trans hb)
      · rw [hasR, if_neg e] at hr
        have hex := h.ex r hr g hg
        have el : A2.lits r = A.lits r := by rw [ho r e, hlits, if_neg e]
        rw [lit0, lit1, el, ← lit0, ← lit1, ← hex]
        have hf : ∀ (x y : Int) (bb : Bool), ((⟨R, x, bb⟩ : Wat).ref == r) = false := fun _ _ _ => by rw [beq_eq_false_iff_ne]; exact fun h => e h.symm
        split
        · rw [List.countP_append, List.countP_cons, hf _ 0]; rfl
        · split
          · rw [List.countP_append, List.countP_cons, hf _ 0]; rfl
          · rfl
    · rw [atW g hg] at hy
      have old : y ∈ W.at g → y.binary = decide ((A2.lits y.ref).length = 2) ∧ y.blocker ∈ A2.lits y.ref ∧ y.blocker ≠ g := by
        intro hy
        have hyr := refne g hg y hy
        rw [hasR, if_neg hyr] at hr
        have el : A2.lits y.ref = A.lits y.ref := by rw [ho _ hyr, hlits, if_neg hyr]
        rw [el]
        exact h.wat g hg y hy hr
      split at hy
      · rename_i hgb
        rcases List.mem_append.1 hy with e | e
        · exact old e
        · have : y = ⟨R, a, decide (xs.length = 2)⟩ := by simpa using e
          rw [this]
          exact ⟨by show decide _ = decide ((A2.lits R).length = 2); rw [hlen], m0, fun e => hne (Eq.trans e hgb)⟩
      · split at hy
        · rename_i hga
          rcases List.mem_append.1 hy with e | e
          · exact old e
          · have : y = ⟨R, b, decide (xs.length = 2)⟩ := by simpa using e
            rw [this]
            exact ⟨by show decide _ = decide ((A2.lits R).length = 2); rw [hlen], m1, fun e => hne (Eq.trans e hga).symm⟩
        · exact old hy
  · rename_i h2
    rw [hlR] at h2
    refine ⟨?_, rfl⟩
    have ea : ∀ g, ({ W with pending := W.pending ++ [R] } : Wt).at g = W.at g := fun _ => rfl
    refine ⟨h.ln, hc1, fun g hg y hy => by rw [hw1]; have := h.ref g hg y hy; omega, fun r hr g hg => ?_, fun g hg y hy hr => ?_⟩
    · rw [ea]
      by_cases e : r = R
      · rw [e, cz g hg, hlR, if_neg (fun k => h2 k.1)]
      · rw [hhas, if_neg e] at hr
        have el : A1.lits r = A.lits r := by rw [hlits, if_neg e]
        rw [lit0, lit1, el, ← lit0, ← lit1]
        exact h.ex r hr g hg
    · rw [ea] at hy
      have hyr := refne g hg y hy
      rw [hhas, if_neg hyr] at hr
      have el : A1.lits y.ref = A.lits y.ref := by rw [hlits, if_neg hyr]
      rw [el]
      exact h.wat g hg y hy hr
end Go.Sv
/- What stands in order, once each, without both signs. -/
namespace Go.Sv
open Go Go.Proofs

section
variable (φ : Int → Int)
def gd (l : List Int) (i : Nat) : Int := (l[i]?).getD 0
structure Srt (l : List Int) (m p : Nat) : Prop where
  o : ∀ i j, i < j → j ≤ m → i ≠ p → j ≠ p → φ (gd l i) ≤ φ (gd l j)
  v : ∀ j, p < j → j ≤ m → φ (gd l p) ≤ φ (gd l j)
theorem swp_gd {l : List Int} {j : Nat} (h : j + 1 < l.length) (i : Nat) : gd (swp l j) i = if i = j then gd l (j + 1) else if i = j + 1 then gd l j else gd l i := by
  unfold gd swp
  rw [List.getElem?_set, List.getElem?_set]
  by_cases h1 : i = j
  · subst h1; rw [if_pos rfl, if_pos (by simp; omega), if_pos rfl]; rfl
  · rw [if_neg (fun e => h1 e.symm), if_neg h1]
    by_cases h2 : i = j + 1
    · subst h2; rw [if_pos rfl, if_pos h, if_pos rfl]; rfl
    · rw [if_neg (fun e => h2 e.symm), if_neg h2]
theorem downGo_srt {lt : Int → Int → Bool} (hlt : ∀ x y, lt x y = decide (φ x < φ y)) (m : Nat) : ∀ (k : Nat) (l : List Int), k ≤ m → m < l.length → Srt φ l m k → ∀ i j, i < j → j ≤ m → φ (gd (downGo lt 0 k l) i) ≤ φ (gd (downGo lt 0 k l) j)
  | 0, l, _, _, h, i, j, hij, hj => by
    unfold downGo
    by_cases hi : i = 0
    · subst hi; exact h.v j hij hj
    · exact h.o i j hij hj hi (by omega)
  | k + 1, l, hk, hm, h, i, j, hij, hj => by
    unfold downGo
    rw [Nat.zero_add, hlt]
    by_cases hc : φ ((l[k + 1]?).getD 0) < φ ((l[k]?).getD 0)
    · rw [if_pos (by simpa using hc)]
      refine downGo_srt hlt m k (swp l k) (by omega) (by rw [swp_len]; exact hm) ?_ i j hij hj
      have sg := swp_gd (l := l) (j := k) (by omega)
      refine ⟨fun i j hij hj hi hj' => ?_, fun j hj hj2 => ?_⟩
      · rw [sg, sg, if_neg hi, if_neg hj']
        by_cases h1 : i = k + 1
        · subst h1
          rw [if_pos rfl, if_neg (by omega)]
          exact h.o k j (by omega) hj (by omega) (by omega)
        · rw [if_neg h1]
          by_cases h2 : j = k + 1
          · subst h2
            rw [if_pos rfl]
            exact h.o i k (by omega) (by omega) h1 (by omega)
          · rw [if_neg h2]
            exact h.o i j hij hj h1 h2
      · rw [sg, sg, if_pos rfl, if_neg (by omega)]
        by_cases h2 : j = k + 1
        · subst h2
          rw [if_pos rfl]
          exact Int.le_of_lt hc
        · rw [if_neg h2]
          exact h.v j (by omega) hj2
    · rw [if_neg (by simpa using hc)]
      have hc' : φ (gd l k) ≤ φ (gd l (k + 1)) := by unfold gd; omega
      by_cases h1 : i = k + 1
      · subst h1; exact h.v j hij hj
      · by_cases h2 : j = k + 1
        · subst h2
          by_cases h3 : i = k
          · subst h3; exact hc'
          · have := h.o i k (by omega) (by omega) h1 (by omega); omega
        · exact h.o i j hij hj h1 h2
theorem insGo_srt {lt : Int → Int → Bool} (hlt : ∀ x y, lt x y = decide (φ x < φ y)) : ∀ (k i : Nat) (l : List Int), 1 ≤ i → i + k = l.length → (∀ a b, a < b → b < i → φ (gd l a) ≤ φ (gd l b)) → ∀ a b, a < b → b < l.length → φ (gd (insGo lt 0 k i l) a) ≤ φ (gd (insGo lt 0 k i l) b)
  | 0, i, l, _, hl, h, a, b, hab, hb => h a b hab (by omega)
  | k + 1, i, l, hi, hl, h, a, b, hab, hb => by
    unfold insGo
    rw [Nat.sub_zero]
    have hp := downGo_perm lt 0 i l (by omega)
    refine insGo_srt hlt k (i + 1) _ (by omega) (by rw [hp.length_eq]; omega) ?_ a b hab (by rw [hp.length_eq]; exact hb)
    intro a b hab hb
    exact downGo_srt φ hlt i i l (Nat.le_refl _) (by omega) ⟨fun i' j' h1 h2 h3 h4 => h i' j' h1 (by omega), fun j' h1 h2 => by omega⟩ a b hab (by omega)
theorem isort_srt {lt : Int → Int → Bool} (hlt : ∀ x y, lt x y = decide (φ x < φ y)) (xs : List Int) : (isort lt xs).Pairwise (fun x y => φ x ≤ φ y) := by
  have hp := isort_perm lt xs
  rw [List.pairwise_iff_getElem]
  intro i j hi hj hij
  have hl := hp.length_eq
  unfold isort at *
  have := insGo_srt φ hlt (xs.length - 1) 1 xs (by omega) (by omega) (fun a b h1 h2 => by omega) i j hij (by omega)
  unfold gd at this
  rw [List.getElem?_eq_getElem hi, List.getElem?_eq_getElem hj] at this
  exact this
theorem ddup_srt : ∀ (p : Int) (xs : List Int), (∀ x ∈ xs, ∀ y ∈ xs, φ x = φ y → x = y) → (∀ x ∈ xs, φ x = φ p → x = p) → (∀ x ∈ xs, φ p ≤ φ x) → xs.Pairwise (fun x y => φ x ≤ φ y) → (ddup p xs).Pairwise (fun x y => φ x < φ y) ∧ (∀ x ∈ ddup p xs, φ p < φ x) ∧ ∀ x, x ∈ xs → x ∈ ddup p xs ∨ x = p
  | p, [], _, _, _, _ => ⟨.nil, fun x h => (by cases h), fun x h => (by cases h)⟩
  | p, x :: xs, hi, hpi, hp, hs => by
    rw [List.pairwise_cons] at hs
    have hi' : ∀ a ∈ xs, ∀ b ∈ xs, φ a = φ b → a = b := fun a ha b hb => hi a (List.mem_cons_of_mem _ ha) b (List.mem_cons_of_mem _ hb)
    unfold ddup
    split
    · rename_i e
      obtain ⟨h1, h2, h3⟩ := ddup_srt p xs hi' (fun a ha => hpi a (List.mem_cons_of_mem _ ha)) (fun a ha => hp a (List.mem_cons_of_mem _ ha)) hs.2
      refine ⟨h1, h2, fun y hy => ?_⟩
      rcases List.mem_cons.1 hy with h | h
      · exact .inr (h.trans e)
      · exact h3 y h
    · rename_i e
      obtain ⟨h1, h2, h3⟩ := ddup_srt x xs hi' (fun a ha => hi a (List.mem_cons_of_mem _ ha) x (List.mem_cons_self ..)) hs.1 hs.2
      have hx : φ p < φ x := by
        have := hp x (List.mem_cons_self ..)
        rcases Int.lt_or_eq_of_le this with h | h
        · exact h
        · exact absurd (hpi x (List.mem_cons_self ..) h.symm) e
      refine ⟨List.pairwise_cons.2 ⟨h2, h1⟩, fun y hy => ?_, fun y hy => ?_⟩
      · rcases List.mem_cons.1 hy with h | h
        · rw [h]; exact hx
        · have := h2 y h; omega
      · rcases List.mem_cons.1 hy with h | h
        · left; rw [h]; exact List.mem_cons_self ..
        · rcases h3 y h with h | h
          · exact .inl (List.mem_cons_of_mem _ h)
          · left; rw [h]; exact List.mem_cons_self ..
end
theorem ltLit_eq (x y : Int) : ltLit x y = decide (litIx x < litIx y) := by
  unfold ltLit cmpI
  split
  · simp; assumption
  · split <;> simp <;> omega
theorem litIx_nz {x y : Int} (_ : x ≠ 0) (_ : y ≠ 0) (h : litIx x = litIx y) : x = y := by
  unfold litIx at h
  split at h <;> split at h <;> omega
theorem normC_srt {xs : List Int} (hx : ∀ x ∈ xs, x ≠ 0) : (normC xs).Pairwise (fun x y => litIx x < litIx y) ∧ ∀ x, x ∈ normC xs ↔ x ∈ xs := by
  have hp := isort_perm ltLit xs
  have hs := isort_srt litIx ltLit_eq xs
  unfold normC
  have hz : ∀ x ∈ isort ltLit xs, x ≠ 0 := fun x h => hx x (hp.mem_iff.1 h)
  have hm : ∀ x, x ∈ isort ltLit xs ↔ x ∈ xs := fun x => hp.mem_iff
  generalize isort ltLit xs = ys at *
  cases ys with
  | nil => exact ⟨.nil, fun x => hm x⟩
  | cons y ys =>
    rw [List.pairwise_cons] at hs
    have hy := hz y (List.mem_cons_self ..)
    have hz' : ∀ x ∈ ys, x ≠ 0 := fun x h => hz x (List.mem_cons_of_mem _ h)
    obtain ⟨h1, h2, h3⟩ := ddup_srt litIx y ys (fun a ha b hb e => litIx_nz (hz' a ha) (hz' b hb) e) (fun a ha e => litIx_nz (hz' a ha) hy e) hs.1 hs.2
    refine ⟨List.pairwise_cons.2 ⟨h2, h1⟩, fun x => ?_⟩
    rw [← hm x]
    refine ⟨compact_sub (y :: ys) x, fun h => ?_⟩
    rcases List.mem_cons.1 h with h | h
    · rw [h]; exact List.mem_cons_self ..
    · rcases h3 x h with h | h
      · exact List.mem_cons_of_mem _ h
      · rw [h]; exact List.mem_cons_self ..
theorem taut_none : ∀ {xs : List Int}, xs.Pairwise (fun x y => litIx x < litIx y) → (∀ x ∈ xs, x ≠ 0) → tautGo xs = false → ∀ v : Int, 0 < v → v ∈ xs → -v ∈ xs → False
  | [], _, _, _, v, _, h, _ => by cases h
  | x :: xs, hs, hz, ht, v, hv, h1, h2 => by
    rw [List.pairwise_cons] at hs
    have hz' : ∀ y ∈ xs, y ≠ 0 := fun y h => hz y (List.mem_cons_of_mem _ h)
    have e1 : litIx v = 2 * (v - 1) := by unfold litIx; rw [if_neg (by omega)]
    have e2 : litIx (-v) = 2 * (v - 1) + 1 := by unfold litIx; rw [if_pos (by omega)]; omega
    have ht' : tautGo xs = false := by
      cases xs with
      | nil => rfl
      | cons y ys =>
        unfold tautGo at ht
        simp only [Bool.or_eq_false_iff] at ht
        exact ht.2
    rcases List.mem_cons.1 h1 with h1e | h1
    · rcases List.mem_cons.1 h2 with h2 | h2
      · omega
      · cases xs with
        | nil => cases h2
        | cons y ys =>
          unfold tautGo at ht
          simp only [Bool.or_eq_false_iff, beq_eq_false_iff_ne] at ht
          have hy := hs.1 y (List.mem_cons_self ..)
          have hs2 := hs.2
          rw [List.pairwise_cons] at hs2
          have hyle : litIx y ≤ litIx (-v) := by
            rcases List.mem_cons.1 h2 with h | h
            · rw [h]; exact Int.le_refl _
            · exact Int.le_of_lt (hs2.1 _ h)
          have : y = -v := litIx_nz (hz' y (List.mem_cons_self ..)) (by omega) (by rw [← h1e] at hy; omega)
          exact ht.1 (by omega)
    · rcases List.mem_cons.1 h2 with h2 | h2
      · have := hs.1 v h1
        rw [← h2] at this
        omega
      · exact taut_none hs.2 hz' ht' v hv h1 h2
theorem norm_clok {n : Nat} {xs : List Int} (hx : ∀ x ∈ xs, right x n = true) (ht : taut xs = false) : ClOk n (normC xs) := by
  have hz : ∀ x ∈ xs, x ≠ 0 := fun x h => (right_iff.1 (hx x h)).1
  obtain ⟨h1, h2⟩ := normC_srt hz
  have hz' : ∀ x ∈ normC xs, x ≠ 0 := fun x h => hz x ((h2 x).1 h)
  refine ⟨?_, fun l hl => hx l ((h2 l).1 hl), fun l hl hn => ?_⟩
  · rw [List.nodup_iff_pairwise_ne]
    exact h1.imp fun h e => by rw [e] at h; omega
  · have := taut_none h1 hz' ht
    by_cases h : 0 < l
    · exact this l h hl hn
    · have hl0 := hz' l hl
      exact this (-l) (by omega) hn (by rw [Int.neg_neg]; exact hl)
end Go.Sv
/- What propagation keeps, counted. -/
namespace Go.Sv
open Go Go.Proofs

structure PK (W : Wt) (S : Tr) (A : Ar) (P : PR) (K : Nat) : Prop where
  S : S.Ext P.S
  A : A.Sw P.A
  ln : P.W.lists.length = W.lists.length
  pend : P.W.pending.length ≤ W.pending.length
  tot : P.W.total ≤ W.total
  head : 0 ≤ P.W.head
  vis : W.visits ≤ P.W.visits
  vis2 : P.W.visits + P.W.pending.length ≤ W.visits + W.pending.length + K
theorem pend_keep (A : Ar) : ∀ (rs : List Int) (v : Int) (S : Tr), S.Ext (pendGo A rs v S).S ∧ (pendGo A rs v S).pending.length ≤ rs.length ∧ v ≤ (pendGo A rs v S).visits ∧ (pendGo A rs v S).visits + (pendGo A rs v S).pending.length ≤ v + rs.length + 1 ∧ ((pendGo A rs v S).clash = none → (pendGo A rs v S).pending = [] ∧ (pendGo A rs v S).visits ≤ v + rs.length)
  | [], v, S => ⟨.refl S, Nat.le_refl _, Int.le_refl _, by simp [pendGo]; omega, fun _ => ⟨rfl, by simp [pendGo]⟩⟩
  | r :: rs, v, S => by
    unfold pendGo
    split
    · split
      · obtain ⟨h1, h2, h3, h4, h5⟩ := pend_keep A rs (v + 1) (look S A r).2
        refine ⟨(look_ext S A r).trans h1, by rw [List.length_cons]; omega, by omega, by rw [List.length_cons]; omega, fun h => ?_⟩
        obtain ⟨k1, k2⟩ := h5 h
        exact ⟨k1, by rw [List.length_cons]; omega⟩
      · refine ⟨look_ext S A r, Nat.le_refl _, by show v ≤ v + 1; omega, ?_, fun h => by cases h⟩
        show v + 1 + ((r :: rs).length : Int) ≤ v + ((r :: rs).length : Int) + 1
        omega
    · obtain ⟨h1, h2, h3, h4, h5⟩ := pend_keep A rs (v + 1) S
      refine ⟨h1, by rw [List.length_cons]; omega, by omega, by rw [List.length_cons]; omega, fun h => ?_⟩
      obtain ⟨k1, k2⟩ := h5 h
      exact ⟨k1, by rw [List.length_cons]; omega⟩
theorem head_keep {n : Nat} : ∀ (k : Nat) (W : Wt) (S : Tr) (A : Ar), S.Ok → S.vars.length = n → 0 ≤ W.head → W.lists.length = 2 * n → PK W S A (headGo k W S A) (k * W.total) ∧ (headGo k W S A).W.pending = W.pending
  | 0, W, S, A, _, _, hh, hl => ⟨⟨.refl S, .refl A, rfl, Nat.le_refl _, Nat.le_refl _, hh, Int.le_refl _, by show W.visits + (W.pending.length : Int) ≤ W.visits + (W.pending.length : Int) + _; omega⟩, rfl⟩
  | k + 1, W, S, A, hok, hS, hh, hl => by
    unfold headGo
    split
    · rename_i hlt
      have hlm : S.lAt W.head ∈ S.l := by
        unfold Tr.lAt
        rw [if_neg (by omega), List.getElem?_eq_getElem (by omega)]
        exact List.getElem_mem _
      have hlr := right_iff.1 (ok_right hok hlm)
      generalize S.lAt W.head = x at *
      have hf : right (-x) n = true := right_iff.2 ⟨by omega, by omega⟩
      have hx := right_ix hf
      obtain ⟨e1, e2, e3, e4, e5, e6, e7, e8⟩ := fell_keep W S A (-x) (by rw [hl]; exact hx.2.1)
      have hrow := row_total W (litIx (-x)).toNat
      have hk : (k + 1) * W.total = k * W.total + W.total := Nat.succ_mul _ _
      generalize fell W S A (-x) = R at *
      split
      · refine ⟨⟨e1, e2, e3, by rw [e4]; exact Nat.le_refl _, e8, by show 0 ≤ R.W.head; rw [e5]; exact hh, e6, ?_⟩, e4⟩
        show R.W.visits + (R.W.pending.length : Int) ≤ _
        rw [e4, hk]
        have : 0 ≤ k * W.total := Nat.zero_le _
        omega
      · obtain ⟨g, gp⟩ := head_keep (n := n) k { R.W with head := W.head + 1 } R.S R.A (e1.ok hok) (by rw [e1.vars]; exact hS) (by show 0 ≤ W.head + 1; omega) (by show R.W.lists.length = _; rw [e3]; exact hl)
        have t : ({ R.W with head := W.head + 1 } : Wt).total = R.W.total := rfl
        have gl : (headGo k { R.W with head := W.head + 1 } R.S R.A).W.lists.length = R.W.lists.length := g.ln
        have gt := g.tot
        have gv : R.W.visits ≤ (headGo k { R.W with head := W.head + 1 } R.S R.A).W.visits := g.vis
        have gv2 : (headGo k { R.W with head := W.head + 1 } R.S R.A).W.visits + ((headGo k { R.W with head := W.head + 1 } R.S R.A).W.pending.length : Int) ≤ R.W.visits + (R.W.pending.length : Int) + ((k * R.W.total : Nat) : Int) := g.vis2
        have gp' : (headGo k { R.W with head := W.head + 1 } R.S R.A).W.pending = R.W.pending := gp
        refine ⟨⟨e1.trans g.S, e2.trans g.A, by rw [gl, e3], by rw [gp', e4]; exact Nat.le_refl _, by omega, g.head, by omega, ?_⟩, by rw [gp', e4]⟩
        rw [e4] at gv2
        have hm : k * R.W.total ≤ k * W.total := Nat.mul_le_mul_left _ e8
        rw [hk]
        omega
    · exact ⟨⟨.refl S, .refl A, rfl, Nat.le_refl _, Nat.le_refl _, hh, Int.le_refl _, by show W.visits + (W.pending.length : Int) ≤ W.visits + (W.pending.length : Int) + _; omega⟩, rfl⟩
theorem prop_keep {n : Nat} {W : Wt} {S : Tr} {A : Ar} (hok : S.Ok) (hS : S.vars.length = n) (hh : 0 ≤ W.head) (hl : W.lists.length = 2 * n) : PK W S A (prop W S A) ((n + 1) * W.total + 1) := by
  obtain ⟨p1, p2, p3, p4, p5⟩ := pend_keep A W.pending W.visits S
  unfold prop
  simp only
  split
  · refine ⟨p1, .refl A, rfl, p2, Nat.le_refl _, hh, p3, ?_⟩
    show (pendGo A W.pending W.visits S).visits + ((pendGo A W.pending W.visits S).pending.length : Int) ≤ _
    have : 0 ≤ (n + 1) * W.total := Nat.zero_le _
    omega
  · obtain ⟨g, gp⟩ := head_keep (n := n) ((pendGo A W.pending W.visits S).S.vars.length + 1) { W with pending := (pendGo A W.pending W.visits S).pending, visits := (pendGo A W.pending W.visits S).visits } (pendGo A W.pending W.visits S).S A (p1.ok hok) (by rw [p1.vars]; exact hS) hh hl
    rw [p1.vars, hS] at g gp ⊢
    have gv := g.vis
    have gv2 := g.vis2
    have gpl := g.pend
    have t : ({ W with pending := (pendGo A W.pending W.visits S).pending, visits := (pendGo A W.pending W.visits S).visits } : Wt).total = W.total := rfl
    rw [t] at gv2
    simp only at gv gv2 gpl
    exact ⟨p1.trans g.S, g.A, g.ln, by omega, g.tot, g.head, by omega, by omega⟩
end Go.Sv
/- A search whose phases satisfy its clauses: no clash, and a model. -/
namespace Go.Sv
open Go Go.Proofs

def lt (a : Int → Bool) (x : Int) : Prop := a (x.natAbs : Int) = decide (0 < x)
theorem lt_neg {a : Int → Bool} {x : Int} (hx : x ≠ 0) (h : lt a x) (k : lt a (-x)) : False := by
  unfold lt at h k
  rw [show (-x).natAbs = x.natAbs by omega, h] at k
  by_cases h0 : 0 < x
  · rw [decide_eq_true h0] at k
    have := of_decide_eq_true k.symm
    omega
  · rw [decide_eq_false h0] at k
    have := of_decide_eq_false k.symm
    omega
theorem value_pm {S : Tr} (h : S.Ok) (x : Int) : S.value x = 1 ∨ S.value x = 0 ∨ S.value x = -1 := by
  unfold Tr.value
  cases hc : S.at x with
  | none => simp
  | some c =>
    have hm : c ∈ S.vars := List.mem_of_getElem? (at_some hc).2.1
    have := h.sm.v c hm
    simp only
    split <;> omega
/-- Agrees with an assignment, and would decide by it. -/
structure Agr' (n : Nat) (a : Int → Bool) (S : Tr) : Prop where
  v : ∀ x, S.value x = 1 → lt a x
  p : ∀ v : Int, 1 ≤ v → v ≤ (n : Int) → S.value v = 0 → S.phase v = a v
theorem phase_putC {S : Tr} {l r : Int} (hl : (S.at l).isSome = true) {v : Int} (hv : v.natAbs ≠ l.natAbs) : (S.putC l r).phase v = S.phase v := by
  unfold Tr.phase
  rw [at_putC hl, if_neg (fun h => hv h.2)]
theorem put_agr {n : Nat} {a : Int → Bool} {S : Tr} (h : Agr' n a S) {l r : Int} (hl : lt a l) : Agr' n a (S.put l r) := by
  unfold Tr.put
  split
  · rename_i hf
    refine ⟨fun x hx => ?_, fun v h1 h2 h0 => ?_⟩
    · rw [value_putC hf] at hx
      by_cases e : x = l
      · rw [e]; exact hl
      · rw [if_neg e] at hx
        by_cases e2 : x = -l
        · rw [if_pos e2] at hx; simp at hx
        · rw [if_neg e2] at hx; exact h.v x hx
    · rw [value_putC hf] at h0
      by_cases e : v = l
      · rw [if_pos e] at h0; simp at h0
      · rw [if_neg e] at h0
        by_cases e2 : v = -l
        · rw [if_pos e2] at h0; simp at h0
        · rw [if_neg e2] at h0
          obtain ⟨c, hc, _⟩ := free_some hf
          rw [phase_putC (by rw [hc]; rfl) (by omega)]
          exact h.p v h1 h2 h0
  · exact h
theorem neg_lt {a : Int → Bool} {S : Tr} (hok : S.Ok) {n : Nat} (h : Agr' n a S) {z : Int} (hz : S.value z < 0) : lt a (-z) := by
  refine h.v (-z) ?_
  rw [value_neg]
  rcases value_pm hok z with e | e | e <;> omega
theorem up_agr {n : Nat} {a : Int → Bool} {A : Ar} (hsat : ∀ r, A.has r = true → ∃ l ∈ A.lits r, lt a l) (hnz : ∀ r, ∀ l ∈ A.lits r, l ≠ 0) {S S' : Tr} (hu : UP A S S') (hok : S.Ok) (h : Agr' n a S) : Agr' n a S' ∧ S'.Ok := by
  induction hu with
  | refl => exact ⟨h, hok⟩
  | put _ y r hy h0 ho ih =>
    obtain ⟨ih1, ih2⟩ := ih
    refine ⟨put_agr ih1 ?_, put_ok ih2 y r⟩
    obtain ⟨l, hl, hlt⟩ := hsat r (lits_has hy)
    by_cases e : l = y
    · rw [← e]; exact hlt
    · exact (lt_neg (hnz r l hl) hlt (neg_lt ih2 ih1 (ho l hl e))).elim
theorem fals_no {n : Nat} {a : Int → Bool} {A : Ar} (hsat : ∀ r, A.has r = true → ∃ l ∈ A.lits r, lt a l) (hnz : ∀ r, ∀ l ∈ A.lits r, l ≠ 0) {S : Tr} (hok : S.Ok) (h : Agr' n a S) {r : Int} (hf : Fals S A r) : False := by
  obtain ⟨l, hl, hlt⟩ := hsat r hf.1
  exact lt_neg (hnz r l hl) hlt (neg_lt hok h (hf.2 l hl))
theorem decide_eq {S : Tr} {l : Int} (hf : S.free l = true) : S.decide l = ({ S with starts := S.starts ++ [(S.l.length : Int)] } : Tr).putC l (-1) := by unfold Tr.decide; rw [if_pos hf]
theorem decide_val {S : Tr} {l : Int} (hf : S.free l = true) (x : Int) : (S.decide l).value x = if x = l then 1 else if x = -l then -1 else S.value x := by
  rw [decide_eq hf]
  exact value_putC (S := { S with starts := S.starts ++ [(S.l.length : Int)] }) hf x
theorem decide_agr {n : Nat} {a : Int → Bool} {S : Tr} (h : Agr' n a S) {l : Int} (hl : lt a l) (hf : S.free l = true) : Agr' n a (S.decide l) := by
  refine ⟨fun x hx => ?_, fun v h1 h2 h0 => ?_⟩
  · rw [decide_val hf] at hx
    by_cases e : x = l
    · rw [e]; exact hl
    · rw [if_neg e] at hx
      by_cases e2 : x = -l
      · rw [if_pos e2] at hx; simp at hx
      · rw [if_neg e2] at hx; exact h.v x hx
  · rw [decide_val hf] at h0
    by_cases e : v = l
    · rw [if_pos e] at h0; simp at h0
    · rw [if_neg e] at h0
      by_cases e2 : v = -l
      · rw [if_pos e2] at h0; simp at h0
      · rw [if_neg e2] at h0
        obtain ⟨c, hc, _⟩ := free_some hf
        rw [decide_eq hf, phase_putC (S := { S with starts := S.starts ++ [(S.l.length : Int)] }) (by show (S.at l).isSome = true; rw [hc]; rfl) (by omega)]
        exact h.p v h1 h2 h0
theorem assign_agr {n : Nat} {a : Int → Bool} {S : Tr} (hok : S.Ok) (hn : S.vars.length = n) (h : Agr' n a S) : ∀ i, i < n → S.assign[i]? = some (a ((i : Int) + 1)) := by
  intro i hi
  have hi' : i < S.vars.length := by omega
  have hg := List.getElem?_eq_getElem hi'
  generalize S.vars[i] = c at hg
  obtain ⟨h1, h2⟩ := value_idx hg
  unfold Tr.assign
  rw [List.getElem?_map, hg]
  simp only [Option.map_some, Option.some.injEq]
  unfold Cell.is
  rcases hok.sm.v c (List.mem_of_getElem? hg) with e | e | e
  · have := h.v (-((i : Int) + 1)) (by rw [value_neg, h2, e]; rfl)
    unfold lt at this
    rw [show ((-((i : Int) + 1)).natAbs : Int) = (i : Int) + 1 by omega, decide_eq_false (by omega)] at this
    rw [this, e]; rfl
  · have := h.p ((i : Int) + 1) (by omega) (by omega) (by rw [h2, e])
    unfold Tr.phase at this
    rw [h1] at this
    simp only at this
    rw [e, ← this]
    simp
  · have := h.v ((i : Int) + 1) (by rw [h2, e])
    unfold lt at this
    rw [show (((i : Int) + 1).natAbs : Int) = (i : Int) + 1 by omega, decide_eq_true (by omega)] at this
    rw [this, e]; rfl
theorem cover : ∀ (n : Nat) (xs : List Nat), (∀ i, 1 ≤ i → i ≤ n → i ∈ xs) → n ≤ xs.length
  | 0, _, _ => Nat.zero_le _
  | n + 1, xs, h => by
    have h1 := cover n (xs.filter (· ≠ n + 1)) (fun i h1 h2 => by
      simp only [List.mem_filter, decide_eq_true_eq]
      exact ⟨h i h1 (by omega), by omega⟩)
    have h2 := h (n + 1) (by omega) (Nat.le_refl _)
    have h3 : (xs.filter (· ≠ n + 1)).length < xs.length := List.length_filter_lt_length_iff_exists.2 ⟨n + 1, h2, by simp⟩
    omega
theorem unassigned {S : Tr} {n : Nat} (hok : S.Ok) (hn : S.vars.length = n) (h : S.l.length ≠ n) : ∃ v : Int, 1 ≤ v ∧ v ≤ (n : Int) ∧ S.value v = 0 := by
  have hle := hok.len
  by_cases hc : ∃ v : Int, 1 ≤ v ∧ v ≤ (n : Int) ∧ S.value v = 0
  · exact hc
  · have := cover n (S.l.map Int.natAbs) (fun i h1 h2 => by
      have hi : i - 1 < S.vars.length := by omega
      have hg := List.getElem?_eq_getElem hi
      obtain ⟨_, k2⟩ := value_idx hg
      have hv : S.vars[i - 1].value ≠ 0 := fun e => hc ⟨((i - 1 : Nat) : Int) + 1, by omega, by omega, by rw [k2, e]⟩
      obtain ⟨x, hx, he⟩ := hok.on (i - 1) _ hg hv
      exact List.mem_map.2 ⟨x, hx, by omega⟩)
    rw [List.length_map] at this
    omega
theorem takeGo_spec {n : Nat} (hn : n ≤ 100000) {S : Tr} : ∀ (k : Nat) (Q : Hq), Q.Ok n → Q.l.length < k → (∃ v ∈ Q.l, S.value v = 0) → S.value (takeGo k S Q).1 = 0 ∧ (takeGo k S Q).1 ∈ Q.l ∧ (takeGo k S Q).2.Ok n ∧ ∀ u, S.value u = 0 → u ∈ Q.l → u ≠ (takeGo k S Q).1 → u ∈ (takeGo k S Q).2.l
  | 0, Q, _, h, _ => by omega
  | k + 1, Q, hq, hk, ⟨x, hx, hx0⟩ => by
    rcases list_cases Q.l with hl | ⟨v, l, hl⟩
    · rw [hl] at hx; cases hx
    · obtain ⟨t1, t2⟩ := take_okx hq hl
      have e : takeGo (k + 1) S Q = if S.value v = 0 then (v, Q.take) else takeGo k S Q.take := by
        show (match Q.l with | [] => (0, Q) | v :: _ => if S.value v = 0 then (v, Q.take) else takeGo k S Q.take) = _
        rw [hl]
      rw [e]
      by_cases h0 : S.value v = 0
      · rw [if_pos h0]
        refine ⟨h0, by rw [hl]; exact List.mem_cons_self .., t1, fun u _ hu hne => ?_⟩
        rw [hl] at hu
        exact (t2 u).2 ((List.mem_cons.1 hu).resolve_left hne)
      · rw [if_neg h0]
        have hxl : x ∈ l := by
          rw [hl] at hx
          exact (List.mem_cons.1 hx).resolve_left (fun e => h0 (by rw [← e]; exact hx0))
        obtain ⟨_, _, t3⟩ := take_facts (hs := hq.sm hn)
        have hll : Q.l.length = l.length + 1 := by rw [hl]; rfl
        obtain ⟨r1, r2, r3, r4⟩ := takeGo_spec hn k Q.take t1 (by rw [t3]; omega) ⟨x, (t2 x).2 hxl, hx0⟩
        refine ⟨r1, by rw [hl]; exact List.mem_cons_of_mem _ ((t2 _).1 r2), r3, fun u hu hm hne => r4 u hu ?_ hne⟩
        rw [hl] at hm
        exact (t2 u).2 ((List.mem_cons.1 hm).resolve_left (fun e => h0 (by rw [← e]; exact hu)))
structure Qu.Ok (n : Nat) (U : Qu) : Prop where
  pos : 0 < U.l.length
  ch : Chain U U.ord (U.behind 0)
  mem : ∀ v, v ∈ U.ord ↔ 1 ≤ v ∧ v ≤ (n : Int)
theorem qu_new_ok (n : Nat) : (Qu.new n).Ok n := by
  have hl := qu_new_len n
  have hc := qu_new_chain n
  have hlen : ∀ (m k : Nat), (upTo k m).length = m := by
    intro m
    induction m with
    | zero => intro k; rfl
    | succ m ih => intro k; simp [upTo, ih]
  have e : (Qu.new n).ord = upTo 1 n := chain_ord hc (by rw [hlen, hl]; omega)
  refine ⟨by omega, by rw [e]; exact hc, fun v => ?_⟩
  rw [e, upTo_mem]; omega
theorem next_spec {n : Nat} {Z : Se} (hn : n ≤ 100000) (hq : Z.Q.Ok n) (hu : Z.U.Ok n) (hin : ∀ v : Int, 1 ≤ v → v ≤ (n : Int) → Z.S.value v = 0 → v ∈ Z.Q.l) (hex : ∃ v : Int, 1 ≤ v ∧ v ≤ (n : Int) ∧ Z.S.value v = 0) :
    Z.S.value Z.next.1 = 0 ∧ 1 ≤ Z.next.1 ∧ Z.next.1 ≤ (n : Int) ∧ Z.next.2.Q.Ok n ∧ ∀ u : Int, 1 ≤ u → u ≤ (n : Int) → Z.S.value u = 0 → u ≠ Z.next.1 → u ∈ Z.next.2.Q.l := by
  obtain ⟨x, x1, x2, x3⟩ := hex
  unfold Se.next
  split
  · have hs : (Z.U.ord.find? (fun v => !(Z.S.value v != 0))).isSome = true := by
      rw [List.find?_isSome]
      exact ⟨x, (hu.mem x).2 ⟨x1, x2⟩, by simp [x3]⟩
    obtain ⟨y, hy⟩ := Option.isSome_iff_exists.1 hs
    have hy1 := List.find?_some hy
    have hy2 := (hu.mem y).1 (List.mem_of_find?_eq_some hy)
    simp only [hy, Option.getD_some]
    exact ⟨by simpa using hy1, hy2.1, hy2.2, hq, fun u h1 h2 h3 _ => hin u h1 h2 h3⟩
  · obtain ⟨r1, r2, r3, r4⟩ := takeGo_spec hn (S := Z.S) (Z.Q.l.length + 1) Z.Q hq (Nat.lt_succ_self _) ⟨x, hin x x1 x2 x3, x3⟩
    have := hq.r _ r2
    exact ⟨r1, this.1, this.2, r3, fun u h1 h2 h3 h4 => r4 u h3 (hin u h1 h2 h3) h4⟩
/-! ### the run -/
structure Se.Cm (n T : Nat) (a : Int → Bool) (Z : Se) : Prop where
  hn : Z.S.vars.length = n
  ok : Z.S.Ok
  wi : WInv n Z.W Z.A
  wl : Z.A.words.length ≤ 1000000
  tot : Z.W.total ≤ T
  head : 0 ≤ Z.W.head
  vis : 0 ≤ Z.W.visits
  vis2 : Z.W.visits + Z.W.pending.length ≤ T + Z.S.starts.length * (((n + 1) * T + 1 : Nat) : Int)
  q : Z.Q.Ok n
  u : Z.U.Ok n
  hin : ∀ v : Int, 1 ≤ v → v ≤ (n : Int) → Z.S.value v = 0 → v ∈ Z.Q.l
  c : Z.conflicts = 0 ∧ Z.since = 0 ∧ Z.restarts = 0 ∧ Z.reductions = 0 ∧ Z.proof = [] ∧ Z.stopped = false
  opt : 1 ≤ Z.o.restart ∧ 1 ≤ Z.o.first
  agr : Agr' n a Z.S
  sat : ∀ r, Z.A.has r = true → ∃ l ∈ Z.A.lits r, lt a l
theorem nz_of {n : Nat} {W : Wt} {A : Ar} (h : WInv n W A) : ∀ r, ∀ l ∈ A.lits r, l ≠ 0 := fun r l hl => cl_nz (h.cl r (lits_has hl)) l hl
theorem Se.Cm.pr {n T : Nat} {a : Int → Bool} {Z : Se} (h : Z.Cm n T a) (hn : n ≤ 100) (hT : T ≤ 10000000) : Z.Pr := by
  have hln := h.ok.len
  have hsl := h.ok.sl
  have hnn := h.hn
  have h1 := h.vis2
  have h2 : (Z.S.starts.length : Int) * (((n + 1) * T + 1 : Nat) : Int) ≤ 100 * 1010000001 := by
    have a1 : Z.S.starts.length * ((n + 1) * T + 1) ≤ 100 * (101 * 10000000 + 1) := Nat.mul_le_mul (by omega) (Nat.succ_le_succ (Nat.mul_le_mul (by omega) hT))
    have : ((Z.S.starts.length * ((n + 1) * T + 1) : Nat) : Int) ≤ ((100 * (101 * 10000000 + 1) : Nat) : Int) := by exact_mod_cast a1
    rw [Int.natCast_mul] at this
    exact this
  exact ⟨h.ok, ⟨by have := h.wl; omega⟩, by rw [h.wi.ln, h.hn], fun r l hl => by rw [h.hn]; exact (h.wi.cl r (lits_has hl)).rt l hl, by have := h.tot; omega, h.head, h.vis, by omega⟩
theorem restartAt_pos {o : Op} (h : 1 ≤ o.restart) : 0 < restartAt o (0 + 1) := by
  have : luby (0 + 1) = 1 := rfl
  unfold restartAt
  rw [this]
  unfold timesT
  have h1 : fitT 1 = 1 := rfl
  have h2 : 1 ≤ fitT o.restart := by unfold fitT; omega
  rw [h1]; omega
theorem reduceAt_pos {o : Op} (h : 1 ≤ o.first) : 0 < reduceAt o (0 + 1) := by
  unfold reduceAt
  rw [if_neg (by decide)]
  have h1 : fitT (0 + 1) = 1 := rfl
  have h2 : 1 ≤ fitT o.first := by unfold fitT; omega
  have h3 : ∀ x y, 0 ≤ fitT (timesT x y) := fun x y => (fitT_range _).1
  have h4 : 1 ≤ fitT (timesT (0 + 1) o.first) := by
    have : 1 ≤ timesT (0 + 1) o.first := by unfold timesT; rw [h1]; omega
    unfold fitT; omega
  have := h3 (timesT (0 + 1) (Int.tdiv (0 + 1 - 1) 2)) o.rise
  unfold sumT; omega
/-- What propagation leaves. -/
theorem prop_cm {n T : Nat} {a : Int → Bool} {Z : Se} (h : Z.Cm n T a) : Z.clashes = none ∧ Z.prop.S.Ok ∧ Z.prop.S.starts = Z.S.starts ∧ Z.S.l.length ≤ Z.prop.S.l.length ∧ Z.prop.W.lists.length = Z.W.lists.length ∧ Z.prop.A.words.length = Z.A.words.length ∧
    Z.prop.S.vars.length = n ∧ WInv n Z.prop.W Z.prop.A ∧ Z.prop.W.total ≤ T ∧ 0 ≤ Z.prop.W.head ∧ 0 ≤ Z.prop.W.visits ∧ Z.prop.W.visits + Z.prop.W.pending.length ≤ T + (Z.S.starts.length + 1) * (((n + 1) * T + 1 : Nat) : Int) ∧ Agr' n a Z.prop.S ∧ (∀ x, Z.S.value x ≠ 0 → Z.prop.S.value x = Z.S.value x) ∧ ∀ r, Z.prop.A.has r = true → ∃ l ∈ Z.prop.A.lits r, lt a l := by
  obtain ⟨p1, p2, p3⟩ := prop_inv h.ok h.hn h.head h.wi
  have pk := prop_keep (A := Z.A) h.ok h.hn h.head h.wi.ln
  have nz := nz_of h.wi
  obtain ⟨g1, g2⟩ := up_agr h.sat nz p2 h.ok h.agr
  have hv := pk.vis
  have hv2 := pk.vis2
  have ht := pk.tot
  have h0 := h.vis
  have h2 := h.vis2
  have htt := h.tot
  refine ⟨?_, g2, pk.S.starts, ?_, pk.ln, pk.A.w, pk.S.vars.trans h.hn, p1, Nat.le_trans ht h.tot, pk.head, ?_, ?_, g1, fun x hx => pk.S.val x hx, fun r hr => ?_⟩
  · cases hc : Z.clashes with
    | none => rfl
    | some r => exact (fals_no h.sat nz g2 g1 (p3 r hc)).elim
  · obtain ⟨t, ht⟩ := pk.S.pre
    show _ ≤ (Go.Sv.prop Z.W Z.S Z.A).S.l.length
    rw [ht]; simp
  · show 0 ≤ (Go.Sv.prop Z.W Z.S Z.A).W.visits; omega
  · show (Go.Sv.prop Z.W Z.S Z.A).W.visits + ((Go.Sv.prop Z.W Z.S Z.A).W.pending.length : Int) ≤ _
    have hm : (n + 1) * Z.W.total + 1 ≤ (n + 1) * T + 1 := Nat.succ_le_succ (Nat.mul_le_mul_left _ htt)
    generalize (n + 1) * Z.W.total + 1 = K at *
    generalize (n + 1) * T + 1 = K2 at *
    have : ((Z.S.starts.length : Int) + 1) * (K2 : Int) = Z.S.starts.length * (K2 : Int) + K2 := by rw [Int.add_mul, Int.one_mul]
    rw [this]; omega
  · have hr' : Z.A.has r = true := by rw [← pk.A.has]; exact hr
    obtain ⟨l, hl, hlt⟩ := h.sat r hr'
    exact ⟨l, (pk.A.perm r).mem_iff.2 hl, hlt⟩
/-- A step: a model, or one decision more. -/
theorem calm_cm {n T : Nat} {a : Int → Bool} {Z : Se} (hn : n ≤ 100) (h : Z.Cm n T a) (red : Se → Se) :
    (Z.prop.S.l.length = n ∧ Z.prop.calm red = { Z.prop with verdict := 1, model := Z.prop.S.assign }) ∨ (Z.prop.S.l.length ≠ n ∧ (Z.prop.calm red).Cm n T a ∧ Z.S.l.length < (Z.prop.calm red).S.l.length ∧ (Z.prop.calm red).verdict = Z.verdict ∧ (Z.prop.calm red).A.words.length = Z.A.words.length ∧ (Z.prop.calm red).vars = Z.vars) := by
  obtain ⟨_, q1, q2, q3, q4, q5, q6, q7, q8, q9, q10, q11, q12, q13, q14⟩ := prop_cm h
  obtain ⟨c1, c2, c3, c4, c5, c6⟩ := h.c
  have hc : Z.prop.conflicts = 0 ∧ Z.prop.since = 0 ∧ Z.prop.restarts = 0 ∧ Z.prop.reductions = 0 := ⟨c1, c2, c3, c4⟩
  unfold Se.calm
  rw [q6]
  by_cases hf : Z.prop.S.l.length = n
  · left; rw [if_pos hf]; exact ⟨hf, rfl⟩
  · right
    have e1 : ¬ Z.prop.conflicts ≥ reduceAt Z.prop.o (Z.prop.reductions + 1) := by
      rw [hc.1, hc.2.2.2]
      have := reduceAt_pos (o := Z.prop.o) h.opt.2
      omega
    have e2 : ¬ Z.prop.since ≥ restartAt Z.prop.o (Z.prop.restarts + 1) := by
      rw [hc.2.1, hc.2.2.1]
      have := restartAt_pos (o := Z.prop.o) h.opt.1
      omega
    rw [if_neg hf, if_neg e1, if_neg e2]
    obtain ⟨n1, n2, n3, n4, n5⟩ := next_spec (n := n) (Z := Z.prop) (by omega) h.q h.u (fun v h1 h2 h3 => h.hin v h1 h2 (by
      by_cases e : Z.S.value v = 0
      · exact e
      · rw [q13 v e] at h3; exact absurd h3 e)) (unassigned q1 q6 hf)
    have hS := next_S Z.prop
    have hrest : Z.prop.next.2 = { Z.prop with Q := Z.prop.next.2.Q } := by unfold Se.next; split <;> rfl
    unfold Se.decide
    rw [if_neg (by omega)]
    generalize hv : Z.prop.next.1 = v at *
    generalize hQ : Z.prop.next.2.Q = Q' at *
    rw [hrest]
    simp only
    have hph := q12.p v n2 n3 n1
    generalize hl : (if Z.prop.S.phase v = true then v else -v) = l
    have hlv : (l = v ∧ Z.prop.S.phase v = true) ∨ (l = -v ∧ Z.prop.S.phase v = false) := by
      cases hp : Z.prop.S.phase v with
      | true => rw [hp, if_pos rfl] at hl; exact .inl ⟨hl.symm, rfl⟩
      | false => rw [hp, if_neg (by decide)] at hl; exact .inr ⟨hl.symm, rfl⟩
    have hl0 : Z.prop.S.value l = 0 := by
      rcases hlv with ⟨e, _⟩ | ⟨e, _⟩
      · rw [e]; exact n1
      · rw [e, value_neg, n1]; rfl
    have hlr : right l n = true := right_iff.2 (by rcases hlv with ⟨e, _⟩ | ⟨e, _⟩ <;> omega)
    have hlt : lt a l := by
      unfold lt
      rcases hlv with ⟨e, hp⟩ | ⟨e, hp⟩
      · rw [e, show (v.natAbs : Int) = v by omega, ← hph, hp, decide_eq_true (by omega)]
      · rw [e, show ((-v).natAbs : Int) = v by omega, ← hph, hp, decide_eq_false (by omega)]
    have hfr := free_of (S := Z.prop.S) (by rw [q6]; exact hlr) hl0
    have hde := decide_eq hfr
    have hdl : (Z.prop.S.decide l).l = Z.prop.S.l ++ [l] := by rw [hde]; rfl
    have hds : (Z.prop.S.decide l).starts = Z.prop.S.starts ++ [(Z.prop.S.l.length : Int)] := by rw [hde]; rfl
    have hdv : (Z.prop.S.decide l).vars.length = n := by rw [hde]; show (Z.prop.S.vars.set _ _).length = n; rw [List.length_set]; exact q6
    refine ⟨hf, ⟨hdv, decide_ok q1 l, q7, by show Z.prop.A.words.length ≤ _; rw [q5]; exact h.wl, q8, q9, q10, ?_, n4, h.u, ?_, ⟨c1, c2, c3, c4, c5, c6⟩, h.opt, decide_agr q12 hlt hfr, q14⟩, ?_, rfl, q5, rfl⟩
    · show Z.prop.W.visits + (Z.prop.W.pending.length : Int) ≤ _
      rw [hds, q2, List.length_append]
      simpa using q11
    · intro u h1 h2 h3
      have h3 : (Z.prop.S.decide l).value u = 0 := h3
      rw [decide_val hfr] at h3
      by_cases e : u = l
      · rw [if_pos e] at h3; simp at h3
      · rw [if_neg e] at h3
        by_cases e2 : u = -l
        · rw [if_pos e2] at h3; simp at h3
        · rw [if_neg e2] at h3
          exact n5 u h1 h2 h3 (by rcases hlv with ⟨e3, _⟩ | ⟨e3, _⟩ <;> omega)
    · rw [hdl, List.length_append]
      simp; omega
structure Se.Won (n : Nat) (a : Int → Bool) (Z Z0 : Se) : Prop where
  v : Z.verdict = 1
  ml : Z.model.length = n
  m : ∀ i, i < n → Z.model[i]? = some (a ((i : Int) + 1))
  c : Z.conflicts = 0 ∧ Z.since = 0 ∧ Z.restarts = 0 ∧ Z.reductions = 0 ∧ Z.proof = [] ∧ Z.stopped = false
  w : Z.A.words.length = Z0.A.words.length
theorem won {n T : Nat} {a : Int → Bool} {red : Se → Se} {lrn : Int → Se → Se} {met : Int} {Z : Se} (h : Z.Cm n T a) (hv : Z.verdict = 0) (h1 : Z.prop.S.l.length = n) (h2 : Z.prop.calm red = { Z.prop with verdict := 1, model := Z.prop.S.assign }) :
    ∃ k Z', runGo red lrn k (-1) met Z = some Z' ∧ Z'.Won n a Z := by
  obtain ⟨q0, q1, q2, q3, q4, q5, q6, q7, q8, q9, q10, q11, q12, q13, q14⟩ := prop_cm h
  refine ⟨2, { Z.prop with verdict := 1, model := Z.prop.S.assign }, ?_, ⟨rfl, ?_, assign_agr q1 q6 q12, h.c, q5⟩⟩
  · unfold runGo
    rw [if_pos ⟨hv, h.c.2.2.2.2.2, .inl (by decide)⟩, q0]
    simp only
    rw [h2]
    unfold runGo
    rw [if_neg (by simp)]
  · show Z.prop.S.assign.length = n
    simp [Tr.assign, q6]
theorem run_cm {n T : Nat} {a : Int → Bool} (hn : n ≤ 100) (red : Se → Se) (lrn : Int → Se → Se) (met : Int) : ∀ (d : Nat) (Z : Se), n - Z.S.l.length ≤ d → Z.Cm n T a → Z.verdict = 0 → ∃ k Z', runGo red lrn k (-1) met Z = some Z' ∧ Z'.Won n a Z := by
  intro d
  induction d with
  | zero =>
    intro Z hd h hv
    have hle := h.ok.len
    have hnn := h.hn
    rcases calm_cm hn h red with ⟨h1, h2⟩ | ⟨h1, h2, h3, _⟩
    · exact won h hv h1 h2
    · have := h2.ok.len
      have := h2.hn
      omega
  | succ d ih =>
    intro Z hd h hv
    rcases calm_cm hn h red with ⟨h1, h2⟩ | ⟨h1, h2, h3, h4, h5, h6⟩
    · exact won h hv h1 h2
    · obtain ⟨k, Z', hk, hw⟩ := ih _ (by omega) h2 (by rw [h4]; exact hv)
      refine ⟨k + 1, Z', ?_, ⟨hw.v, hw.ml, hw.m, hw.c, hw.w.trans h5⟩⟩
      unfold runGo
      rw [if_pos ⟨hv, h.c.2.2.2.2.2, .inl (by decide)⟩, (prop_cm h).1]
      exact hk
end Go.Sv
/- The calm run, as the machine does it; a new search is calm. -/
namespace Go.Sv
open Go Go.Proofs
set_option maxRecDepth 100000

theorem k_runC {L : List HPr} {w : World} {s n T : Nat} {Z : Se} {a : Int → Bool} (H : Holds (SeR s Z :: L) w) (hn : n ≤ 100) (hT : T ≤ 10000000) (h : Z.Cm n T a) (hv : Z.verdict = 0) :
    Calls cx.P F.search_Search_Run #[vP s 0, vI (-1)] w (Ret fun v w' => v = vI 1 ∧ ∃ Z', Z'.Won n a Z ∧ Holds (SeR s Z' :: L) w') := by
  obtain ⟨k, Z', hk, hw⟩ := run_cm hn id (fun _ => id) 0 n Z (Nat.sub_le ..) h hv
  refine Calls.ret (k_Run id (fun _ => id) (fun met Z => met = 0 ∧ (Z.verdict = 0 → Z.Cm n T a)) H ⟨rfl, fun _ => h⟩ ?_ ?_ ?_ hk) ?_
  · rintro met Z1 ⟨hm, h1⟩ hv1 _
    have h1 := h1 hv1
    exact ⟨h1.pr hn hT, (prop_cm h1).2.2.2.2.1, by omega, by omega⟩
  · rintro met Z1 ⟨hm, h1⟩ hv1 _ _ _
    have h1 := h1 hv1
    obtain ⟨q0, q1, q2, q3, q4, q5, q6, q7, q8, q9, q10, q11, q12, q13, q14⟩ := prop_cm h1
    have c := h1.c
    refine ⟨⟨hm, fun hv2 => ?_⟩, fun w H => ?_⟩
    · rcases calm_cm hn h1 id with ⟨k1, k2⟩ | ⟨k1, k2, _⟩
      · rw [k2] at hv2; simp at hv2
      · exact k2
    · have hr : Z1.prop.restarts = 0 := c.2.2.1
      have hd : Z1.prop.reductions = 0 := c.2.2.2.1
      refine k_calm id H q1 (by rw [q6]; exact h1.q) h1.u.pos h1.u.ch (by omega) (by omega) (by omega) (by omega) (fun hf => ?_) (fun _ hcc => ?_)
      · rw [q6] at hf
        have := next_spec (n := n) (Z := Z1.prop) (by omega) h1.q h1.u (fun v g1 g2 g3 => h1.hin v g1 g2 (by
          by_cases e : Z1.S.value v = 0
          · exact e
          · rw [q13 v e] at g3; exact absurd g3 e)) (unassigned q1 q6 hf)
        have := this.2.2.1
        omega
      · rw [hd] at hcc
        have e : Z1.prop.conflicts = 0 := c.1
        have := reduceAt_pos (o := Z1.prop.o) h1.opt.2
        omega
  · rintro met Z1 r ⟨hm, h1⟩ hv1 _ _ hc
    have := (prop_cm (h1 hv1)).1
    rw [this] at hc; cases hc
  · rintro v w1 ⟨rfl, H⟩
    exact ⟨by rw [hw.v], Z', hw, H⟩
/-! ### a new search -/
structure Se.Nw (n : Nat) (o : Op) (Z : Se) : Prop where
  ad : Z.Ad n
  wi : WInv n Z.W Z.A
  q : Z.Q.Ok n
  hin : ∀ v : Int, 1 ≤ v → v ≤ (n : Int) → v ∈ Z.Q.l
  u : Z.U.Ok n
  c : Z.conflicts = 0 ∧ Z.since = 0 ∧ Z.restarts = 0 ∧ Z.reductions = 0 ∧ Z.proof = [] ∧ Z.verdict = 0 ∧ Z.model = []
  o : Z.o = o
  vars : Z.vars = n
  l : Z.S.l = []
  st : Z.S.starts = []
theorem start_nw {o : Op} {n : Nat} {S : Tr} (h : S.Ok) (hn : S.vars.length = n) (hl : S.l = []) (hs : S.starts = []) : (Se.start o n S).Nw n o := by
  have hq := hnew_ok (n := n)
  refine ⟨start_ad h hn, ?_, hq.1, fun v h1 h2 => (hq.2 v).2 ⟨h1, h2⟩, qu_new_ok n, ⟨rfl, rfl, rfl, rfl, rfl, rfl, rfl⟩, rfl, rfl, hl, hs⟩
  have hr : ∀ g, (Se.start o n S).W.at g = [] := fun g => by
    unfold Wt.at Wt.row Se.start
    simp only [List.getElem?_replicate]
    split <;> rfl
  have hh : ∀ r, (Se.start o n S).A.has r = false := fun r => rfl
  exact ⟨by simp [Se.start], fun r hr' => (by rw [hh] at hr'; cases hr'), fun g _ x hx => (by rw [hr] at hx; cases hx), fun r hr' => (by rw [hh] at hr'; cases hr'), fun g _ x hx => (by rw [hr] at hx; cases hx)⟩
theorem add_nw {n : Nat} {o : Op} {Z : Se} (h : Z.Nw n o) {xs : List Int} (hx : ClOk n xs) : (Z.add xs false 0).2.Nw n o ∧ (∀ r, (Z.add xs false 0).2.A.has r = true → (Z.A.has r = true ∧ ((Z.add xs false 0).2.A.lits r).Perm (Z.A.lits r)) ∨ ((Z.add xs false 0).2.A.lits r).Perm xs) ∧ (Z.add xs false 0).2.S = Z.S ∧ ((Z.A.limit ≤ 0) → (Z.add xs false 0).1 = true ∧ (Z.add xs false 0).2.stopped = Z.stopped ∧ (Z.add xs false 0).2.A.limit = Z.A.limit) := by
  have had := (add_ad h.ad hx.rt false 0).1
  have hatt := attach_inv (S := Z.S) h.wi hx false 0
  have hk := attach_keep Z.W Z.S (Z.A.addC xs false 0) (Z.A.words.length : Int)
  unfold Se.add at had ⊢
  split
  · rename_i hf
    rw [if_pos hf] at had
    refine ⟨⟨had, h.wi, h.q, h.hin, h.u, h.c, h.o, h.vars, h.l, h.st⟩, fun r hr => .inl ⟨hr, .refl _⟩, rfl, fun hl => ?_⟩
    unfold Ar.full at hf
    simp at hf; omega
  · rename_i hf
    rw [if_neg hf] at had
    refine ⟨⟨had, hatt.1, h.q, h.hin, h.u, h.c, h.o, h.vars, h.l, h.st⟩, fun r hr => ?_, rfl, fun _ => ⟨hatt.2, rfl, hk.sw.lim⟩⟩
    have hp := hk.sw.perm r
    have hr : (attach Z.W Z.S (Z.A.addC xs false 0) (Z.A.words.length : Int)).2.2.has r = true := hr
    rw [hk.sw.has, Ar.addC_has] at hr
    rw [addC_lits] at hp
    split at hp
    · exact .inr hp
    · rename_i hne
      rw [if_neg hne] at hr
      exact .inl ⟨hr, hp⟩
theorem addGo_nw {n : Nat} {o : Op} : ∀ (cs : List (List Int)) (Z : Se), Z.Nw n o → (∀ c ∈ cs, ClOk n c) → (addGo cs Z).Nw n o ∧ (∀ r, (addGo cs Z).A.has r = true → (Z.A.has r = true ∧ ((addGo cs Z).A.lits r).Perm (Z.A.lits r)) ∨ ∃ c ∈ cs, ((addGo cs Z).A.lits r).Perm c) ∧ (addGo cs Z).S = Z.S ∧ (Z.A.limit ≤ 0 → (addGo cs Z).stopped = Z.stopped)
  | [], Z, h, _ => ⟨h, fun r hr => .inl ⟨hr, .refl _⟩, rfl, fun _ => rfl⟩
  | c :: cs, Z, h, hx => by
    obtain ⟨h1, h2, h3, h4⟩ := add_nw h (hx c (List.mem_cons_self ..))
    unfold addGo
    split
    · obtain ⟨k1, k2, k3, k4⟩ := addGo_nw cs _ h1 (fun d hd => hx d (List.mem_cons_of_mem _ hd))
      refine ⟨k1, fun r hr => ?_, k3.trans h3, fun hl => (k4 (by rw [(h4 hl).2.2]; exact hl)).trans (h4 hl).2.1⟩
      rcases k2 r hr with ⟨kh, k⟩ | ⟨d, hd, k⟩
      · rcases h2 r kh with ⟨eh, e⟩ | e
        · exact .inl ⟨eh, k.trans e⟩
        · exact .inr ⟨c, List.mem_cons_self .., k.trans e⟩
      · exact .inr ⟨d, List.mem_cons_of_mem _ hd, k⟩
    · rename_i hf
      refine ⟨h1, fun r hr => ?_, h3, fun hl => absurd (h4 hl).1 hf⟩
      rcases h2 r hr with e | e
      · exact .inl e
      · exact .inr ⟨c, List.mem_cons_self .., e⟩
theorem normF_clok {n : Nat} {cs : List (List Int)} (hx : ∀ c ∈ cs, ∀ x ∈ c, right x n = true) : ∀ c ∈ normF cs, ClOk n c := by
  intro c hc
  unfold normF at hc
  obtain ⟨d, hd, rfl⟩ := List.mem_map.1 hc
  obtain ⟨hd1, hd2⟩ := List.mem_filter.1 hd
  exact norm_clok (hx d hd1) (by simpa using hd2)
/-- What a new search is. -/
theorem new_nw {o : Op} {n : Nat} (hn : n ≤ 100000) {cs : List (List Int)} (hx : ∀ c ∈ cs, ∀ x ∈ c, right x n = true) (G : Rg) : (Se.new o n cs G).Nw n o ∧ (∀ r, (Se.new o n cs G).A.has r = true → ∃ c ∈ normF cs, ((Se.new o n cs G).A.lits r).Perm c) ∧ (Se.new o n cs G).S = (phGo o n 1 (Tr.new n) G).1 ∧ (o.words < 0 → (Se.new o n cs G).stopped = false) ∧ (Se.new o n cs G).A.words.length ≤ fsize cs := by
  obtain ⟨p1, p2, p3, p4⟩ := phGo_ok o n 1 (Tr.new n) G (tr_new_ok hn)
  have hvl : (phGo o n 1 (Tr.new n) G).1.vars.length = n := by rw [p2]; simp [Tr.new]
  have hs := start_nw (o := o) p1 hvl (by rw [p3]; rfl) (by rw [p4]; rfl)
  obtain ⟨k1, k2, k3, k4⟩ := addGo_nw (normF cs) _ hs (normF_clok hx)
  have kw := (addGo_ad (normF cs) _ hs.ad (fun c hc => (normF_clok hx c hc).rt)).2
  have hns := fsize_norm cs
  refine ⟨k1, fun r hr => ?_, k3, fun hw => ?_, ?_⟩
  · rcases k2 r hr with ⟨kh, _⟩ | k
    · have : (Se.start o n (phGo o n 1 (Tr.new n) G).1).A.has r = false := rfl
      rw [this] at kh; cases kh
    · exact k
  · refine k4 ?_
    show (if o.words = 0 then 1 else max o.words 0) ≤ 0
    rw [if_neg (by omega)]; omega
  · have : (Se.start o n (phGo o n 1 (Tr.new n) G).1).A.words.length = 0 := rfl
    show (addGo (normF cs) _).A.words.length ≤ _
    omega
/-- A new search is calm, if its phases satisfy its clauses. -/
theorem nw_cm {n : Nat} {o : Op} {Z : Se} (h : Z.Nw n o) (hw : Z.A.words.length ≤ 1000000) (hst : Z.stopped = false) (ho : 1 ≤ o.restart ∧ 1 ≤ o.first) {a : Int → Bool} (ha : ∀ v : Int, 1 ≤ v → v ≤ (n : Int) → Z.S.phase v = a v) (hsat : ∀ r, Z.A.has r = true → ∃ l ∈ Z.A.lits r, lt a l) : Z.Cm n (3 * Z.A.words.length) a := by
  have ad := h.ad
  have h1 := ad.pend
  have h2 := ad.tot
  have h0 : ∀ x, Z.S.value x ≠ 1 := fun x e => by
    have := (ad.ok.mem_iff x).2 e
    rw [h.l] at this; cases this
  refine ⟨ad.hn, ad.ok, h.wi, hw, by omega, by rw [ad.head]; exact Int.le_refl _, by rw [ad.vis]; exact Int.le_refl _, ?_, h.q, h.u, fun v h1 h2 _ => h.hin v h1 h2, ⟨h.c.1, h.c.2.1, h.c.2.2.1, h.c.2.2.2.1, h.c.2.2.2.2.1, hst⟩, by rw [h.o]; exact ho, ⟨fun x hx => absurd hx (h0 x), fun v h1 h2 _ => ha v h1 h2⟩, hsat⟩
  rw [ad.vis, h.st]
  simp
  omega
end Go.Sv
/- The anchor of the search's statements. -/
namespace Go.Sv
open Go Go.Proofs
set_option maxRecDepth 100000

theorem nw_pr {n : Nat} {o : Op} {Z : Se} (h : Z.Nw n o) (hw : Z.A.words.length ≤ 1000000) (hn : n ≤ 100) : Z.Pr := by
  have ad := h.ad
  have h1 := ad.pend
  have h2 := ad.tot
  exact ⟨ad.ok, ⟨by omega⟩, by rw [ad.ln, ad.hn], fun r l hl => by rw [ad.hn]; exact ad.lits r l hl, by omega, by rw [ad.head]; exact Int.le_refl _, by rw [ad.vis]; exact Int.le_refl _, by rw [ad.vis, ad.hn]; omega⟩
def G1 : Rg := ⟨[], rgSeed 1, 0⟩
theorem g1_ok : G1.Ok := ⟨fun x hx => (by cases hx), by decide, by decide⟩
theorem fsrc_nil {w : World} : FSrc none [] [] w := ⟨fun h => by simp at h, fun i h xs h1 => by simp at h1⟩
def Z0 : Se := Se.new Op.dflt 1 [[1], [-1]] G1
theorem fit_run : ∃ Z', runGo id (fun _ Z => Z.clash0) 2 (-1) 0 Z0 = some Z' ∧ Z'.verdict = 2 ∧ Z'.proof = [⟨false, []⟩] ∧ Z'.conflicts = 1 := ⟨_, rfl, rfl, rfl, rfl⟩
theorem fit_clash : ∃ r, Z0.clashes = some r := ⟨_, rfl⟩
theorem k_fit {L : List HPr} {w : World} (H : Holds L w) : Calls cx.P F.bradawllaw22_fit #[] w (Ret fun v w' => v = vB true ∧ Holds L w') := by
  apply vc_bradawllaw22_fit
  refine al H fun b1 w1 H => al H fun b2 w2 H => al H fun b3 w3 H => Calls.ret (k_Default H) ?_
  rintro _ w4 ⟨rfl, H⟩
  refine ⟨_, _, _, _, _, _, _, _, _, _, _, _, _, _, _, _, rfl, Calls.ret (k_rng_New H (ws := []) rfl (Nat.zero_le _) (fun w' _ => asrc_nil slU) 1) ?_⟩
  rintro _ w5 ⟨r, rfl, H⟩
  have hx : ∀ c ∈ [[(1 : Int)], [-1]], ∀ x ∈ c, right x 1 = true := by decide
  have src : ∀ w', Holds (blk b3 [vS (aP b1 0) 1 1, vS (aP b2 0) 1 1] T.s_int :: blk b2 [vI (-1)] T.int :: blk b1 [vI 1] T.int :: L) w' → FSrc (aP b3 0) [(aP b1 0, 1), (aP b2 0, 1)] [[(1 : Int)], [-1]] w' := by
    intro w' H
    refine ⟨fun _ => ⟨_, _, rfl⟩, fun i h xs h1 h2 => ?_⟩
    match i, h1, h2 with
    | 0, h1, h2 =>
      simp at h1 h2; subst h1; subst h2
      exact ⟨fun b o e => by simp at e; obtain ⟨rfl, rfl⟩ := e; exact cel H 0 rfl rfl, asrc_blk slInt H 2 rfl rfl rfl⟩
    | 1, h1, h2 =>
      simp at h1 h2; subst h1; subst h2
      exact ⟨fun b o e => by simp at e; obtain ⟨rfl, rfl⟩ := e; exact cel H 0 rfl rfl, asrc_blk slInt H 1 rfl rfl rfl⟩
    | i + 2, h1, h2 => simp at h1
  refine ⟨_, rfl, Calls.ret (k_SNew (n := 1) (o := Op.dflt) (G := G1) (fl := 2) (hs := [(aP b1 0, 1), (aP b2 0, 1)]) (cs := [[1], [-1]]) H g1_ok (by decide) (by omega) rfl rfl (by decide) hx (by decide) src) ?_⟩
  rintro _ w6 ⟨s, rfl, H⟩
  obtain ⟨n1, n2, n3, n4, n5⟩ := new_nw (o := Op.dflt) (n := 1) (by omega) hx G1
  have n5' : Z0.A.words.length ≤ 1000000 := Nat.le_trans n5 (by decide)
  have H : Holds (SeR s Z0 :: RgR r (phGo Op.dflt 1 1 (Tr.new 1) G1).2 :: blk b3 [vS (aP b1 0) 1 1, vS (aP b2 0) 1 1] T.s_int :: blk b2 [vI (-1)] T.int :: blk b1 [vI 1] T.int :: L) w6 := H
  refine ⟨_, rfl, Calls.ret (k_SVerdict H) ?_⟩
  rintro _ w7 ⟨rfl, H⟩
  obtain ⟨Z', hrun, hv, hpf, hcf⟩ := fit_run
  obtain ⟨rc, hcl⟩ := fit_clash
  refine ⟨_, rfl, ?_⟩
  show Calls cx.P F.search_Search_Run _ _ _
  refine Calls.ret (k_Run id (fun _ Z => Z.clash0) (fun met Z => (met = 0 ∧ Z = Z0) ∨ Z.verdict = 2) H (.inl ⟨rfl, rfl⟩) ?_ ?_ ?_ hrun) ?_
  · rintro met Z (⟨rfl, rfl⟩ | h) hv0 _
    · have hp := nw_pr n1 n5' (by omega)
      have pk := prop_keep (A := Z0.A) hp.ok n1.ad.hn hp.head (by rw [hp.ln, n1.ad.hn])
      exact ⟨hp, pk.ln, by omega, by omega⟩
    · rw [h] at hv0; simp at hv0
  · rintro met Z (⟨rfl, rfl⟩ | h) hv0 _ _ hc
    · rw [hcl] at hc; cases hc
    · rw [h] at hv0; simp at hv0
  · rintro met Z r1 (⟨rfl, rfl⟩ | h) hv0 _ _ hc _
    · refine ⟨.inr rfl, fun w H => ?_⟩
      have hp := nw_pr n1 n5' (by omega)
      have pk := prop_keep (A := Z0.A) hp.ok n1.ad.hn hp.head (by rw [hp.ln, n1.ad.hn])
      have e1 : Z0.prop.S.starts = [] := pk.S.starts.trans n1.st
      have e2 : Z0.prop.proof = [] := n1.c.2.2.2.2.1
      have e3 : Z0.prop.conflicts = 0 := n1.c.1
      have e4 : Z0.prop.since = 0 := n1.c.2.1
      exact k_clash0 H (by rw [e1]; rfl) (by rw [e2]; exact Nat.zero_le _) (by omega) (by omega) (by omega) (by omega) r1
    · rw [h] at hv0; simp at hv0
  rintro _ w8 ⟨rfl, H⟩
  refine ⟨_, rfl, ?_⟩
  rw [hv]
  unfold vc_bradawllaw22_fit_k1
  refine gif_f rfl (Calls.ret (k_SProof H (by rw [hpf]; decide) (by rw [hpf]; decide)) ?_)
  rintro _ w9 ⟨a, c, rfl, H⟩
  rw [hpf] at H ⊢
  refine ⟨_, _, _, rfl, Calls.ret (k_Default H) ?_⟩
  rintro _ w10 ⟨rfl, H⟩
  refine ⟨_, _, _, _, _, _, _, _, _, _, _, _, _, _, _, _, rfl, Calls.ret (k_rng_New H (ws := []) rfl (Nat.zero_le _) (fun w' _ => asrc_nil slU) 1) ?_⟩
  rintro _ w11 ⟨r2, rfl, H⟩
  have hx2 : ∀ c ∈ ([] : List (List Int)), ∀ x ∈ c, right x 1 = true := by decide
  refine ⟨_, rfl, Calls.ret (k_SNew (n := 1) (o := Op.dflt) (G := G1) (fl := 0) (hs := []) (cs := []) H g1_ok (by decide) (by omega) rfl rfl (by decide) hx2 (by decide) (fun _ _ => fsrc_nil)) ?_⟩
  rintro _ w12 ⟨s2, rfl, H⟩
  obtain ⟨m1, m2, m3, m4, m5⟩ := new_nw (o := Op.dflt) (n := 1) (by omega) hx2 G1
  have H := H.pick 2 rfl
  obtain ⟨hs, hl, H⟩ := PrR.op H
  obtain ⟨h0, rfl⟩ : ∃ h0, hs = [h0] := by
    match hs, hl with
    | [h0], _ => exact ⟨h0, rfl⟩
  refine ⟨_, rfl, gif_t rfl ⟨⟨by decide, by decide⟩, opm H 0 rfl (by decide) fun b o e => ?_⟩⟩
  subst e
  refine ⟨false, oc H 0 rfl (k := 0) rfl, gif_t rfl ⟨⟨by decide, by decide⟩, pm_i ⟨h0.1, 0, h0.2, oc H 0 rfl (k := 1) rfl, gif_t rfl (gif_t rfl ?_)⟩⟩⟩
  have cm := nw_cm m1 (Nat.le_trans m5 (by decide)) (m4 (by decide)) (by decide) (a := fun _ => true) (fun v h1 h2 => by
    rw [m3]
    have : v = 1 := by omega
    subst this; rfl) (fun r hr => by obtain ⟨c, hc, _⟩ := m2 r hr; cases hc)
  have m5' : (Se.new Op.dflt 1 [] G1).A.words.length ≤ 0 := m5
  refine Calls.ret (k_runC (H.pick 2 rfl) (by omega) (by omega) cm m1.c.2.2.2.2.2.1) ?_
  rintro _ w13 ⟨rfl, Z2, hz2, H⟩
  refine ⟨_, rfl, gif_t rfl (Calls.ret (k_SModel H (by rw [hz2.ml]; omega)) ?_)⟩
  rintro _ w14 ⟨a2, c2, rfl, H⟩
  refine ⟨_, _, _, rfl, gif_t (by rw [hz2.ml]; rfl) (Calls.ret (atr H 5 rfl fun H => k_SConflicts H) ?_)⟩
  rintro _ w15 ⟨rfl, H⟩
  refine ⟨_, rfl, by rw [hcf]; rfl, ?_⟩
  exact Holds.ord 10 [] rfl H
end Go.Sv
/- Options made of numbers. -/
namespace Go.Sv
open Go Go.Proofs
set_option maxRecDepth 100000

abbrev vW (n : Int) : Value := .int .u16 n
def made (l0 l1 l2 l3 l4 l5 l6 l7 l8 l9 l10 l11 : Int) : Op :=
  ⟨-1, -1, 1 + Int.tmod l0 200, 1 + Int.tmod l1 200, 1 + Int.tmod l2 100, Int.tmod l3 300, Int.tmod l4 3,
    if Int.tmod l4 3 = 0 then 1 + Int.tmod (shrI .u16 l4 2) 64 else if Int.tmod l4 3 = 1 then 17 + Int.tmod (shrI .u16 l4 2) 200 else 0,
    if Int.tmod l4 3 = 0 then 0 else if Int.tmod l4 3 = 1 then 0 else Int.tmod (shrI .u16 l4 2) 1001,
    Int.tmod l5 3, Int.tmod l6 3, Int.tmod l7 5, Int.tmod l7 5 + Int.tmod l11 9, bitI .and .u16 l8 1, bitI .and .u16 l9 1, IntKind.u64.wrap l10⟩
structure U16 (n : Int) : Prop where
  h0 : 0 ≤ n
  h1 : n ≤ 65535
theorem tmod_in {n : Int} (h : U16 n) (k : Int) (hk : 0 < k) (hk2 : k ≤ 65536) : 0 ≤ Int.tmod n k ∧ Int.tmod n k < k := by
  rw [Int.tmod_eq_emod_of_nonneg h.h0]
  exact ⟨Int.emod_nonneg _ (by omega), Int.emod_lt_of_pos _ hk⟩
theorem shr2_in {n : Int} (h : U16 n) : U16 (shrI .u16 n 2) := by
  have e : shrI .u16 n 2 = n / 4 := by
    unfold shrI
    show Int.fdiv n (2 ^ 2) = _
    exact Int.fdiv_eq_ediv_of_nonneg _ (by decide)
  rw [e]
  exact ⟨by have := h.h0; omega, by have := h.h1; have := h.h0; omega⟩
theorem and1_in {n : Int} (h : U16 n) : 0 ≤ bitI .and .u16 n 1 ∧ bitI .and .u16 n 1 ≤ 1 := by
  obtain ⟨m, rfl⟩ := Int.eq_ofNat_of_zero_le h.h0
  have hm : m < 65536 := by have := h.h1; omega
  have t1 : (BitVec.ofInt 16 (m : Int)).toNat = m := by
    rw [BitVec.ofInt_natCast, BitVec.toNat_ofNat, Nat.mod_eq_of_lt (by omega)]
  have t2 : (BitVec.ofInt 16 (1 : Int)).toNat = 1 := by decide
  show 0 ≤ IntKind.u16.wrap ((BitVec.ofInt 16 (m : Int) &&& BitVec.ofInt 16 (1 : Int)).toNat : Int) ∧ IntKind.u16.wrap ((BitVec.ofInt 16 (m : Int) &&& BitVec.ofInt 16 (1 : Int)).toNat : Int) ≤ 1
  rw [BitVec.toNat_and, t1, t2, Nat.and_one_is_mod]
  rcases Nat.mod_two_eq_zero_or_one m with e | e <;> rw [e] <;> decide
theorem k_Made {L : List HPr} {w : World} (H : Holds L w) {l0 l1 l2 l3 l4 l5 l6 l7 l8 l9 l10 l11 : Int} (h0 : U16 l0) (h1 : U16 l1) (h2 : U16 l2) (h3 : U16 l3) (h4 : U16 l4) (h5 : U16 l5) (h6 : U16 l6) (h7 : U16 l7) (h8 : U16 l8) (h9 : U16 l9) (h11 : U16 l11) :
    Calls cx.P F.bradawllaw21_Made #[.agg #[vW l0, vW l1, vW l2, vW l3, vW l4, vW l5, vW l6, vW l7, vW l8, vW l9, vW l10, vW l11]] w (Ret fun v w' => v = (made l0 l1 l2 l3 l4 l5 l6 l7 l8 l9 l10 l11).v ∧ Holds L w') := by
  apply vc_bradawllaw21_Made
  have t0 := tmod_in h0 200 (by omega) (by omega)
  have t1 := tmod_in h1 200 (by omega) (by omega)
  have t2 := tmod_in h2 100 (by omega) (by omega)
  have t3 := tmod_in h3 300 (by omega) (by omega)
  have t4 := tmod_in h4 3 (by omega) (by omega)
  have t5 := tmod_in h5 3 (by omega) (by omega)
  have t6 := tmod_in h6 3 (by omega) (by omega)
  have t7 := tmod_in h7 5 (by omega) (by omega)
  have t8 := and1_in h8
  have t9 := and1_in h9
  have t11 := tmod_in h11 9 (by omega) (by omega)
  have s := shr2_in h4
  have s1 := tmod_in s 64 (by omega) (by omega)
  have s2 := tmod_in s 200 (by omega) (by omega)
  have s3 := tmod_in s 1001 (by omega) (by omega)
  have sh0 := s.h0
  have sh1 := s.h1
  refine al H fun b1 w1 H => al H fun b2 w2 H => ?_
  refine ⟨by decide, _, cel H 1 rfl rfl, by decide, ?_⟩
  refine ⟨by unfold InI; omega, ?_⟩
  refine ⟨by unfold InI; omega, ?_⟩
  refine ⟨by decide, _, cel H 1 rfl rfl, by decide, ?_⟩
  refine ⟨by unfold InI; omega, ?_⟩
  refine ⟨by unfold InI; omega, ?_⟩
  refine ⟨by decide, _, cel H 1 rfl rfl, by decide, ?_⟩
  refine ⟨by unfold InI; omega, ?_⟩
  refine ⟨by unfold InI; omega, ?_⟩
  refine ⟨by decide, _, cel H 1 rfl rfl, by decide, ?_⟩
  refine ⟨by unfold InI; omega, ?_⟩
  refine ⟨by decide, _, cel H 1 rfl rfl, by decide, ?_⟩
  refine ⟨by unfold InI; omega, ?_⟩
  refine ⟨by decide, _, cel H 1 rfl rfl, by decide, ?_⟩
  refine ⟨by unfold InI; omega, ?_⟩
  refine ⟨by decide, _, cel H 1 rfl rfl, by decide, ?_⟩
  refine ⟨by unfold InI; omega, ?_⟩
  refine ⟨by decide, _, cel H 1 rfl rfl, by decide, ?_⟩
  refine ⟨by unfold InI; omega, ?_⟩
  refine ⟨by decide, _, cel H 1 rfl rfl, ?_⟩
  refine ⟨by unfold InI; omega, ?_⟩
  refine ⟨by decide, _, cel H 1 rfl rfl, ?_⟩
  refine ⟨by unfold InI; omega, ?_⟩
  refine ⟨by decide, _, cel H 1 rfl rfl, ?_⟩
  refine al H fun b3 w3 H => stW H 0 rfl rfl rfl fun w4 H => ?_
  refine ⟨_, cel H 0 rfl rfl, by decide, _, cel H 2 rfl rfl, by decide, ?_⟩
  refine ⟨by unfold InI; omega, ?_⟩
  refine ⟨by unfold InI; omega, ?_⟩
  refine st H 0 rfl rfl (Nat.le_of_ble_eq_true rfl) fun w5 H => ?_
  refine ⟨_, cel H 0 rfl rfl, ?_⟩
  have fin : ∀ (x y : Int) (w6 : World), x = (made l0 l1 l2 l3 l4 l5 l6 l7 l8 l9 l10 l11).base → y = (made l0 l1 l2 l3 l4 l5 l6 l7 l8 l9 l10 l11).noise → Holds (blk b3 [vI (-1), vI (-1), vI (1 + Int.tmod l0 200), vI (1 + Int.tmod l1 200), vI (1 + Int.tmod l2 100), vI (Int.tmod l3 300), vI (Int.tmod l4 3), vI x, vI y, vI (Int.tmod l5 3), vI (Int.tmod l6 3), vI (Int.tmod l7 5), vI (Int.tmod l7 5 + Int.tmod l11 9), vI (bitI .and .u16 l8 1), vI (bitI .and .u16 l9 1), .int .u64 (IntKind.u64.wrap l10)] T.opts_Options ::
      blk b2 [vI 0, vI 0, vI 0, vI 0, vI 0, vI 0, vI 0, vI 0, vI 0, vI 0, vI 0, vI 0, vI 0, vI 0, vI 0, .int .u64 0] T.opts_Options :: blk b1 [vW l0, vW l1, vW l2, vW l3, vW l4, vW l5, vW l6, vW l7, vW l8, vW l9, vW l10, vW l11] T.t12_uint16 :: L) w6 →
      vc_bradawllaw21_Made_k1 b2 b3 w6 (fun v w' => v = (made l0 l1 l2 l3 l4 l5 l6 l7 l8 l9 l10 l11).v ∧ Holds L w') := by
    intro x y w6 hx hy H
    unfold vc_bradawllaw21_Made_k1
    refine ⟨_, _, _, _, _, _, _, _, _, _, _, _, _, _, _, _, celL_pre H 0 _ [] rfl, stW H 1 rfl rfl rfl fun w7 H => ⟨_, _, _, _, _, _, _, _, _, _, _, _, _, _, _, _, celL_pre H 1 _ [] rfl, ?_, H.tail.tail.tail⟩⟩
    rw [hx, hy]; rfl
  refine gif_i (fun c => ?_) (fun c => ?_)
  · have c' : Int.tmod l4 3 = 0 := by simpa using c
    exact ⟨by decide, _, cel H 2 rfl rfl, by decide, by decide, by unfold InI; omega, by unfold InI; omega, st H 0 rfl rfl (Nat.le_of_ble_eq_true rfl) fun w6 H => fin _ _ _ (by unfold made; simp only; rw [if_pos c']) (by unfold made; simp only; rw [if_pos c']) H⟩
  · have c' : ¬ Int.tmod l4 3 = 0 := by simpa using c
    refine gif_i (fun d => ?_) (fun d => ?_)
    · have d' : Int.tmod l4 3 = 1 := by simpa using d
      exact ⟨by decide, _, cel H 2 rfl rfl, by decide, by decide, by unfold InI; omega, by unfold InI; omega, st H 0 rfl rfl (Nat.le_of_ble_eq_true rfl) fun w6 H => fin _ _ _ (by unfold made; simp only; rw [if_neg c', if_pos d']) (by unfold made; simp only; rw [if_neg c', if_pos d']) H⟩
    · have d' : ¬ Int.tmod l4 3 = 1 := by simpa using d
      exact ⟨by decide, _, cel H 2 rfl rfl, by decide, by unfold InI; omega, by decide, st H 0 rfl rfl (Nat.le_of_ble_eq_true rfl) fun w6 H => fin _ _ _ (by unfold made; simp only; rw [if_neg c', if_neg d']) (by unfold made; simp only; rw [if_neg c', if_neg d']) H⟩
end Go.Sv
/- Phases of a new search, and phases that are told. -/
namespace Go.Sv
open Go Go.Proofs

def phStep (o : Op) (G : Rg) : Bool × Rg := if o.phase = 1 then (true, G) else if o.phase = 2 then ((G.below 2).1 == 1, (G.below 2).2) else (false, G)
def gAt (o : Op) : Nat → Rg → Rg
  | 0, G => G
  | k + 1, G => gAt o k (phStep o G).2
theorem gAt_succ (o : Op) : ∀ (k : Nat) (G : Rg), gAt o (k + 1) G = (phStep o (gAt o k G)).2
  | 0, G => rfl
  | k + 1, G => gAt_succ o k (phStep o G).2
theorem phGo_step (o : Op) (k : Nat) (v : Int) (S : Tr) (G : Rg) : phGo o (k + 1) v S G = phGo o k (v + 1) (S.setPhase v (phStep o G).1) (phStep o G).2 := by
  unfold phStep
  show (if o.phase = 1 then phGo o k (v + 1) (S.setPhase v true) G else if o.phase = 2 then phGo o k (v + 1) (S.setPhase v ((G.below 2).1 == 1)) (G.below 2).2 else phGo o k (v + 1) (S.setPhase v false) G) = _
  split
  · rfl
  · split <;> rfl
theorem setPhase_phase {S : Tr} {v : Int} (h1 : 1 ≤ v) (h2 : v ≤ (S.vars.length : Int)) (is : Bool) (u : Int) (hu : 1 ≤ u) : (S.setPhase v is).phase u = if u = v then is else S.phase u := by
  unfold Tr.phase
  rw [setPhase_at]
  by_cases e : u = v
  · subst e
    rw [if_pos ⟨by omega, rfl, by omega⟩, if_pos rfl]
    have hr : right u S.vars.length = true := right_iff.2 ⟨by omega, by omega⟩
    rw [← Tr.at_right] at hr
    obtain ⟨c, hc⟩ := Option.isSome_iff_exists.1 hr
    rw [hc]
    simp; omega
  · rw [if_neg (fun h => e (by omega)), if_neg e]
theorem phGo_phase (o : Op) : ∀ (k : Nat) (v : Int) (S : Tr) (G : Rg), 1 ≤ v → v + k ≤ (S.vars.length : Int) + 1 → (phGo o k v S G).2 = gAt o k G ∧ ∀ u : Int, 1 ≤ u → (phGo o k v S G).1.phase u = if v ≤ u ∧ u < v + k then (phStep o (gAt o (u - v).toNat G)).1 else S.phase u
  | 0, v, S, G, _, _ => ⟨rfl, fun u hu => by
      rw [if_neg (by omega)]; rfl⟩
  | k + 1, v, S, G, hv, hk => by
    rw [phGo_step]
    obtain ⟨h1, h2⟩ := phGo_phase o k (v + 1) (S.setPhase v (phStep o G).1) (phStep o G).2 (by omega) (by rw [(setPhase_shape S v _).2.2]; omega)
    refine ⟨h1, fun u hu => ?_⟩
    rw [h2 u hu]
    by_cases e : u = v
    · subst e
      rw [if_neg (by omega), if_pos ⟨by omega, by omega⟩, setPhase_phase hv (by omega) _ _ hu, if_pos rfl]
      simp [gAt]
    · by_cases e2 : v + 1 ≤ u ∧ u < v + 1 + k
      · rw [if_pos (by omega), if_pos (by omega)]
        have : (u - v).toNat = (u - (v + 1)).toNat + 1 := by omega
        rw [this]; rfl
      · rw [if_neg (by omega), if_neg (by omega), setPhase_phase hv (by omega) _ _ hu, if_neg e]
/-- Nothing is assigned: what is told are the phases. -/
theorem assign_phase {S : Tr} (hok : S.Ok) (hl : S.l = []) {i : Nat} (hi : i < S.vars.length) : S.assign[i]? = some (S.phase ((i : Int) + 1)) := by
  have hg := List.getElem?_eq_getElem hi
  generalize S.vars[i] = c at hg
  obtain ⟨h1, h2⟩ := value_idx hg
  have h0 : c.value = 0 := by
    by_cases e : c.value = 0
    · exact e
    · obtain ⟨x, hx, _⟩ := hok.on i c hg e
      rw [hl] at hx; cases hx
  unfold Tr.assign
  rw [List.getElem?_map, hg]
  simp only [Option.map_some, Option.some.injEq]
  unfold Cell.is Tr.phase
  rw [h1, h0]
  simp
theorem none_value {S : Tr} (hok : S.Ok) (hl : S.l = []) (x : Int) : S.value x = 0 := by
  rcases value_pm hok x with e | e | e
  · have := (hok.mem_iff x).2 e
    rw [hl] at this; cases this
  · exact e
  · have : S.value (-x) = 1 := by rw [value_neg, e]; rfl
    have := (hok.mem_iff (-x)).2 this
    rw [hl] at this; cases this
theorem impGo_ok : ∀ (bs : List Bool) (k : Nat) (S : Tr), S.Ok → (impGo k bs S).Ok ∧ (impGo k bs S).vars.length = S.vars.length ∧ (impGo k bs S).l = S.l ∧ (impGo k bs S).starts = S.starts
  | [], k, S, h => ⟨h, rfl, rfl, rfl⟩
  | b :: bs, k, S, h => by
    unfold impGo
    split
    · obtain ⟨h1, h2, h3, h4⟩ := impGo_ok bs (k + 1) (S.setPhase ((k : Int) + 1) b) (setPhase_ok h _ _)
      obtain ⟨k1, k2, k3⟩ := setPhase_shape S ((k : Int) + 1) b
      exact ⟨h1, h2.trans k3, h3.trans k1, h4.trans k2⟩
    · exact impGo_ok bs (k + 1) S h
theorem impGo_phase : ∀ (bs : List Bool) (k : Nat) (S : Tr), S.Ok → S.l = [] → k + bs.length ≤ S.vars.length → ∀ u : Int, 1 ≤ u → (impGo k bs S).phase u = if (k : Int) < u ∧ u ≤ (k : Int) + bs.length then (bs[(u - k - 1).toNat]?).getD false else S.phase u
  | [], k, S, _, _, _, u, hu => by
    rw [if_neg (by simp)]; rfl
  | b :: bs, k, S, h, hl, hk, u, hu => by
    rw [List.length_cons] at hk
    obtain ⟨k1, k2, k3⟩ := setPhase_shape S ((k : Int) + 1) b
    have h2 := impGo_phase bs (k + 1) (S.setPhase ((k : Int) + 1) b) (setPhase_ok h _ _) (k1.trans hl) (by rw [k3]; omega) u hu
    unfold impGo
    rw [if_pos (none_value h hl _), h2, List.length_cons]
    by_cases e : u = (k : Int) + 1
    · subst e
      rw [if_neg (by omega), if_pos (by omega), setPhase_phase (by omega) (by omega) _ _ hu, if_pos rfl]
      rw [show ((k : Int) + 1 - k - 1).toNat = 0 by omega]; rfl
    · by_cases e2 : ((k + 1 : Nat) : Int) < u ∧ u ≤ ((k + 1 : Nat) : Int) + bs.length
      · rw [if_pos e2, if_pos (by omega), show (u - k - 1).toNat = (u - ((k + 1 : Nat) : Int) - 1).toNat + 1 by omega]; rfl
      · rw [if_neg e2, if_neg (by omega), setPhase_phase (by omega) (by omega) _ _ hu, if_neg e]
theorem import_nw {n : Nat} {o : Op} {Z : Se} (h : Z.Nw n o) (bs : List Bool) : (Z.import bs).Nw n o ∧ (Z.import bs).A = Z.A ∧ (Z.import bs).stopped = Z.stopped := by
  unfold Se.import
  split
  · obtain ⟨h1, h2, h3, h4⟩ := impGo_ok bs 0 Z.S h.ad.ok
    have ad := h.ad
    exact ⟨⟨⟨h1, h2.trans ad.hn, ad.ln, ad.lits, ad.c0, ad.cnt, ad.pend, ad.tot, ad.head, ad.vis⟩, h.wi, h.q, h.hin, h.u, h.c, h.o, h.vars, h3.trans h.l, h4.trans h.st⟩, rfl, rfl⟩
  · exact ⟨h, rfl, rfl⟩
end Go.Sv
/- Raw formulas: what they are made into. -/
namespace Go.Sv
open Go Go.Proofs
set_option maxRecDepth 100000

abbrev vH (n : Int) : Value := .int .i16 n
/-- Rows of short numbers that lie where they may be read. -/
structure RSrc (ra : Option Addr) (hs : List (Option Addr × Nat)) (rows : List (List Int)) (w : World) : Prop where
  at_ : 0 < rows.length → ∃ b o, ra = aP b o
  slot : ∀ (i : Nat) h xs, hs[i]? = some h → rows[i]? = some xs → ∀ b o, ra = aP b o → Cel w b (o + i) (vS h.1 xs.length h.2)
  rat : ∀ (i : Nat) h xs, hs[i]? = some h → rows[i]? = some xs → 0 < xs.length → ∃ b o, h.1 = aP b o
  cell : ∀ (i : Nat) h xs, hs[i]? = some h → rows[i]? = some xs → ∀ b o, h.1 = aP b o → ∀ (j : Nat) z, xs[j]? = some z → Cel w b (o + j) (vH z)
def lightGo (m : Int) : Int → List (List Int) → Bool
  | _, [] => true
  | n, xs :: rows => if n + (1 + (xs.length : Int)) > m then false else lightGo m (n + (1 + (xs.length : Int))) rows
def light (c : Int) (rows : List (List Int)) : Bool := lightGo (10 * c) 0 rows && decide ((rows.length : Int) ≤ c)
theorem k_Light {L : List HPr} {w : World} (H : Holds L w) (r0 : Int) {ra : Option Addr} {rl rc : Nat} {hs : List (Option Addr × Nat)} {rows : List (List Int)} (hl : rows.length = rl) (hh : hs.length = rows.length) (c : Int) (hc0 : 0 ≤ c) (hc : c ≤ 1000000) (hb : rl ≤ 140737488355328) (hbr : ∀ xs ∈ rows, xs.length ≤ 140737488355328)
    (hsrc : ∀ w', Holds L w' → RSrc ra hs rows w') :
    Calls cx.P F.bradawllaw02_Raw_Light #[.agg #[.int .u8 r0, vS ra rl rc], vI c] w (Ret fun v w' => v = vB (light c rows) ∧ Holds L w') := by
  apply vc_bradawllaw02_Raw_Light
  subst hl
  unfold light
  refine al H fun b1 w1 H => ⟨_, _, _, cel H 0 rfl rfl, fun vs w => ∃ (k : Nat) (n : Int), vs = [vI n, vI k] ∧ k ≤ rows.length ∧ 0 ≤ n ∧ n ≤ 10 * c ∧ lightGo (10 * c) n (rows.drop k) = lightGo (10 * c) 0 rows ∧ Holds (blk b1 [.int .u8 r0, vS ra rows.length rc] T.bradawllaw02_Raw :: L) w,
    fun vs _ => (match vs with | [_, .int _ k] => (rows.length : Int) - k | _ => 0).toNat, ⟨0, 0, rfl, Nat.zero_le _, Int.le_refl _, by omega, rfl, H⟩, ?_⟩
  rintro n i w2 ⟨k, n', hv, hk, hn0, hn1, hgo, H⟩
  simp only [List.cons.injEq, Value.int.injEq, true_and, and_true] at hv
  obtain ⟨rfl, rfl⟩ := hv
  refine gif_d (fun h => ?_) (fun h => ?_)
  · have hlt : k < rows.length := by omega
    obtain ⟨xs, hx⟩ := lt_get hlt
    obtain ⟨hd, hhd⟩ := lt_get (l := hs) (i := k) (by omega)
    have hxb := hbr xs (List.mem_of_getElem? hx)
    have src := hsrc _ H.tail
    obtain ⟨b, o, rfl⟩ := src.at_ (by omega)
    have hdr : rows.drop k = xs :: rows.drop (k + 1) := by rw [List.drop_eq_getElem_cons hlt, (List.getElem?_eq_some_iff.1 hx).2]
    rw [hdr] at hgo
    have hgo : (if n + (1 + (xs.length : Int)) > 10 * c then false else lightGo (10 * c) (n + (1 + (xs.length : Int))) (rows.drop (k + 1))) = lightGo (10 * c) 0 rows := hgo
    refine ⟨⟨by omega, by omega⟩, pm_i ?_⟩
    rw [Int.toNat_natCast]
    refine ⟨_, _, _, src.slot k hd xs hhd hx b o rfl, by unfold InI; omega, by unfold InI; omega, by unfold InI; omega, gif_d (fun h2 => ?_) (fun h2 => ?_)⟩
    · rw [if_pos h2] at hgo
      rw [← hgo]
      exact ⟨rfl, H.tail⟩
    · rw [if_neg h2] at hgo
      exact ⟨by unfold InI; omega, ⟨k + 1, _, rfl, by omega, by omega, by omega, hgo, H⟩, by simp only; omega⟩
  · have e : rows.drop k = [] := List.drop_eq_nil_of_le (by omega)
    rw [e] at hgo
    have hgo : true = lightGo (10 * c) 0 rows := hgo
    refine ⟨_, _, _, cel H 0 rfl rfl, ?_, H.tail⟩
    rw [← hgo]; rfl
theorem lightGo_sum {m : Int} : ∀ {n : Int} {rows : List (List Int)}, n ≤ m → lightGo m n rows = true → n + ((rows.map fun xs => 1 + xs.length).sum : Nat) ≤ m
  | n, [], hn, _ => by simpa using hn
  | n, xs :: rows, hn, h => by
    unfold lightGo at h
    split at h
    · cases h
    · have := lightGo_sum (by omega) h
      simp only [List.map_cons, List.sum_cons]
      omega
/-! ### formulas -/
def mkLit (n : Int) (z : Int) : Int := if bitI .and .i16 z 1 = 1 then -(1 + Int.tmod (shrI .u16 (IntKind.u16.wrap z) 1) n) else 1 + Int.tmod (shrI .u16 (IntKind.u16.wrap z) 1) n
def mkCl (n : Int) (width : Nat) (xs : List Int) : List Int := if n = 0 then [] else (xs.take width).map (mkLit n)
theorem u16_wrap (z : Int) : U16 (IntKind.u16.wrap z) := by
  have e : IntKind.u16.wrap z = z % 65536 := rfl
  rw [e]
  exact ⟨by omega, by omega⟩
theorem shr1_in {z : Int} (h : U16 z) : U16 (shrI .u16 z 1) := by
  have e : shrI .u16 z 1 = z / 2 := by
    unfold shrI
    show Int.fdiv z (2 ^ 1) = _
    exact Int.fdiv_eq_ediv_of_nonneg _ (by decide)
  rw [e]
  exact ⟨by have := h.h0; omega, by have := h.h1; have := h.h0; omega⟩
theorem mkLit_right {n : Nat} (hn : 0 < n) (hn2 : n ≤ 1000) (z : Int) : right (mkLit n z) n = true := by
  have h := shr1_in (u16_wrap z)
  have t := tmod_in h (n : Int) (by omega) (by omega)
  unfold mkLit
  apply right_iff.2
  split <;> omega
end Go.Sv
/- A raw formula is made; does an assignment satisfy one? -/
namespace Go.Sv
open Go Go.Proofs
set_option maxRecDepth 100000

theorem gif_or {c b : Bool} (K : Bool → Prop) (h : K (c || b)) : gif c (K true) (K b) := by cases c <;> exact h
def mkF (n : Int) (width : Nat) (rows : List (List Int)) : List (List Int) := rows.map (mkCl n width)
theorem mkCl_len (n : Int) (width : Nat) (xs : List Int) : (mkCl n width xs).length ≤ width := by
  unfold mkCl
  split
  · exact Nat.zero_le _
  · rw [List.length_map, List.length_take]; omega
theorem k_RFormula {L : List HPr} {w : World} (H : Holds L w) {r0 : Int} (h0 : 0 ≤ r0) (h1 : r0 ≤ 255) {ra : Option Addr} {rl rc : Nat} {hs : List (Option Addr × Nat)} {rows : List (List Int)} (hl : rows.length = rl) (hh : hs.length = rows.length) (vars width : Nat) (hv : vars ≤ 100) (hw : width ≤ 100) (hb : rl ≤ 1000000) (hbr : ∀ xs ∈ rows, xs.length ≤ 140737488355328)
    (hsrc : ∀ w', Holds L w' → RSrc ra hs rows w') :
    Calls cx.P F.bradawllaw02_Raw_Formula #[.agg #[.int .u8 r0, vS ra rl rc], vI (vars : Int), vI (width : Int)] w (Ret fun v w' => ∃ p c, v = .agg #[vI (Int.tmod r0 (vars + 1)), vS p rl c] ∧ Holds (LsR p c (mkF (Int.tmod r0 (vars + 1)) width rows) :: L) w') := by
  apply vc_bradawllaw02_Raw_Formula
  subst hl
  have hn : 0 ≤ Int.tmod r0 (vars + 1) ∧ Int.tmod r0 (vars + 1) < (vars : Int) + 1 := by
    rw [Int.tmod_eq_emod_of_nonneg h0]
    exact ⟨Int.emod_nonneg _ (by omega), Int.emod_lt_of_pos _ (by omega)⟩
  generalize hN : Int.tmod r0 ((vars : Int) + 1) = n at hn ⊢
  refine al H fun b1 w1 H => al H fun b2 w2 H => ⟨_, cel H 1 rfl rfl, by unfold InI; omega, by unfold InI; omega, by omega, al H fun b3 w3 H => ?_⟩
  rw [hN]
  refine st H 0 rfl rfl (Nat.le_of_ble_eq_true rfl) fun w4 H => ?_
  refine ⟨_, _, _, cel H 2 rfl rfl, fun vs w => ∃ (k : Nat) (p : Option Addr) (c : Nat), vs = [vI k] ∧ k ≤ rows.length ∧ Holds (LsR p c (mkF n width (rows.take k)) :: blk b3 [vI n, vS p k c] T.api_Formula :: blk b2 [vI 0, vNS] T.api_Formula :: blk b1 [.int .u8 r0, vS ra rows.length rc] T.bradawllaw02_Raw :: L) w,
    fun vs _ => (match vs with | [.int _ k] => (rows.length : Int) - k | _ => 0).toNat, ⟨0, none, 0, rfl, Nat.zero_le _, holds_nil_ls H⟩, ?_⟩
  rintro i w5 ⟨k, p, c, hv', hk, H⟩
  simp only [List.cons.injEq, Value.int.injEq, true_and, and_true] at hv'
  subst hv'
  have hmk : (mkF n width (rows.take k)).length = k := by unfold mkF; rw [List.length_map, List.length_take]; omega
  refine gif_d (fun h => ?_) (fun h => ?_)
  · have hlt : k < rows.length := by omega
    obtain ⟨xs, hx⟩ := lt_get hlt
    obtain ⟨hd, hhd⟩ := lt_get (l := hs) (i := k) (by omega)
    have hxb := hbr xs (List.mem_of_getElem? hx)
    have src := hsrc _ H.tail.tail.tail.tail
    obtain ⟨b, o, rfl⟩ := src.at_ (by omega)
    have hT : rows.take (k + 1) = rows.take k ++ [xs] := by rw [List.take_add_one, hx]; rfl
    have hF : mkF n width (rows.take (k + 1)) = mkF n width (rows.take k) ++ [mkCl n width xs] := by rw [hT]; unfold mkF; rw [List.map_append]; rfl
    refine ⟨⟨by omega, by omega⟩, pm_i ?_⟩
    rw [Int.toNat_natCast]
    -- the clause that was made is appended
    have fin : ∀ (da : Option Addr) (dc : Nat) (w6 : World), Holds (osl T.int 1 da (mkCl n width xs).length dc ((mkCl n width xs).map vI) :: LsR p c (mkF n width (rows.take k)) :: blk b3 [vI n, vS p k c] T.api_Formula :: blk b2 [vI 0, vNS] T.api_Formula :: blk b1 [.int .u8 r0, vS (aP b o) rows.length rc] T.bradawllaw02_Raw :: L) w6 →
        ∃ x17a x17l x17c, Cel w6 b3 1 (vS x17a x17l x17c) ∧ Al w6 [vS da (mkCl n width xs).length dc] T.s_int fun b11 w15 => Rn cx.P (Builtin.append_ #[T.s_s_int, T.s_s_int] T.s_s_int #[vS x17a x17l x17c, vS (aP b11 0) 1 1]) w15 fun v4 w16 => ∃ r4a r4l r4c, v4 = vS r4a r4l r4c ∧ St w16 b3 1 [vS r4a r4l r4c] fun w17 => InI ((k : Int) + 1) ∧ (∃ (k_1 : Nat) (p : Option Addr) (c : Nat), [vI ((k : Int) + 1)] = [vI (k_1 : Int)] ∧ k_1 ≤ rows.length ∧ Holds (LsR p c (mkF n width (rows.take k_1)) :: blk b3 [vI n, vS p k_1 c] T.api_Formula :: blk b2 [vI 0, vNS] T.api_Formula :: blk b1 [.int .u8 r0, vS (aP b o) rows.length rc] T.bradawllaw02_Raw :: L) w17) ∧ ((rows.length : Int) - ((k : Int) + 1)).toNat < ((rows.length : Int) - (k : Int)).toNat := by
      intro da dc w6 H
      refine ⟨_, _, _, cel H 2 rfl rfl, al H fun b11 w7 H => ?_⟩
      have key := ls_app (tx := T.s_int) (ty := T.s_s_int) (xs := mkCl n width xs) (K := fun v4 w16 => ∃ r4a r4l r4c, v4 = vS r4a r4l r4c ∧ St w16 b3 1 [vS r4a r4l r4c] fun w17 => InI ((k : Int) + 1) ∧ (∃ (k_1 : Nat) (p : Option Addr) (c : Nat), [vI ((k : Int) + 1)] = [vI (k_1 : Int)] ∧ k_1 ≤ rows.length ∧ Holds (LsR p c (mkF n width (rows.take k_1)) :: blk b3 [vI n, vS p k_1 c] T.api_Formula :: blk b2 [vI 0, vNS] T.api_Formula :: blk b1 [.int .u8 r0, vS (aP b o) rows.length rc] T.bradawllaw02_Raw :: L) w17) ∧ ((rows.length : Int) - ((k : Int) + 1)).toNat < ((rows.length : Int) - (k : Int)).toNat) (by rw [hmk]; omega) H ?_
      · rw [hmk] at key; exact key
      · intro p' c' w8 H
        rw [hmk]
        refine ⟨_, _, _, rfl, st H 1 rfl rfl (Nat.le_of_ble_eq_true rfl) fun w9 H => ⟨by unfold InI; omega, ⟨k + 1, p', c', rfl, by omega, ?_⟩, by omega⟩⟩
        rw [hF]
        exact H
    refine ⟨_, _, _, src.slot k hd xs hhd hx b o rfl, fun vs w => ∃ (j : Nat) (da : Option Addr) (dc : Nat), vs = [vS da (mkCl n width (xs.take j)).length dc, vI j] ∧ j ≤ xs.length ∧ (n = 0 → j = 0) ∧ j ≤ width ∧ Holds (osl T.int 1 da (mkCl n width (xs.take j)).length dc ((mkCl n width (xs.take j)).map vI) :: LsR p c (mkF n width (rows.take k)) :: blk b3 [vI n, vS p k c] T.api_Formula :: blk b2 [vI 0, vNS] T.api_Formula :: blk b1 [.int .u8 r0, vS (aP b o) rows.length rc] T.bradawllaw02_Raw :: L) w,
      fun vs _ => (match vs with | [_, .int _ j] => (xs.length : Int) - j | _ => 0).toNat, ⟨0, none, 0, ?_, Nat.zero_le _, fun _ => rfl, Nat.zero_le _, ?_⟩, ?_⟩
    · have : mkCl n width (xs.take 0) = [] := by unfold mkCl; split <;> simp
      rw [this]; rfl
    · have : mkCl n width (xs.take 0) = [] := by unfold mkCl; split <;> simp
      rw [this]; exact osl_nil T.int 1 H
    rintro da dl dc i w6 ⟨j, da', dc', hv', hj, hjn, hjw, H⟩
    simp only [List.cons.injEq, Value.slice.injEq, Value.int.injEq, true_and, and_true] at hv'
    obtain ⟨⟨rfl, rfl, rfl⟩, rfl⟩ := hv'
    have hcj : n ≠ 0 → (mkCl n width (xs.take j)).length = j := by
      intro hn0
      unfold mkCl
      rw [if_neg hn0, List.length_map, List.length_take, List.length_take]; omega
    refine gif_d (fun h2 => ?_) (fun h2 => ?_)
    · have hlt2 : j < xs.length := by omega
      obtain ⟨z, hz⟩ := lt_get hlt2
      have src := hsrc _ H.tail.tail.tail.tail.tail
      obtain ⟨b5, o5, e5⟩ := src.rat k hd xs hhd hx (by omega)
      refine ⟨⟨by omega, by omega⟩, ?_⟩
      rw [e5]
      refine pm_i ?_
      rw [Int.toNat_natCast]
      refine ⟨z, src.cell k hd xs hhd hx b5 o5 e5 j z hz, _, cel H 2 rfl rfl, ?_⟩
      refine gif_or (fun x => vc_bradawllaw02_Raw_Formula_k1 _ _ _ _ _ _ _ _ _ _ _ _ _ _ _ _ _ _ _ _ _ _ _ _ _ _ x _ _ _ _) ?_
      unfold vc_bradawllaw02_Raw_Formula_k1
      refine gif_i (fun c1 => ?_) (fun c1 => ?_)
      · have e : mkCl n width (xs.take j) = mkCl n width xs := by
          unfold mkCl
          by_cases hn0 : n = 0
          · rw [if_pos hn0, if_pos hn0]
          · have hl := hcj hn0
            rw [Bool.or_eq_true, beq_iff_eq, beq_iff_eq] at c1
            have hjw2 : j = width := by rcases c1 with c1 | c1 <;> omega
            rw [if_neg hn0, if_neg hn0, List.take_take, hjw2, Nat.min_self]
        rw [e] at H ⊢
        exact fin da dc w6 H
      · rw [Bool.or_eq_false_iff, beq_eq_false_iff_ne, beq_eq_false_iff_ne] at c1
        obtain ⟨hn0, hjw2⟩ := c1
        have hl := hcj hn0
        have hjlt : j < width := by omega
        have u := shr1_in (u16_wrap z)
        have u0 := u.h0
        have u1 := u.h1
        have t := tmod_in u n (by omega) (by omega)
        have hmk2 : mkCl n width (xs.take (j + 1)) = mkCl n width (xs.take j) ++ [mkLit n z] := by
          unfold mkCl
          rw [if_neg hn0, if_neg hn0, List.take_take, List.take_take, Nat.min_eq_right (by omega), Nat.min_eq_right (by omega), List.take_add_one, hz]
          simp
        refine ⟨by decide, by unfold InI; omega, _, cel H 2 rfl rfl, hn0, by unfold InI; omega, ?_⟩
        have app : ∀ (v : Int) (b9 : Nat) (w11 : World), v = mkLit n z → Holds (blk b9 [vI v] T.int :: osl T.int 1 da (mkCl n width (xs.take j)).length dc ((mkCl n width (xs.take j)).map vI) :: LsR p c (mkF n width (rows.take k)) :: blk b3 [vI n, vS p k c] T.api_Formula :: blk b2 [vI 0, vNS] T.api_Formula :: blk b1 [.int .u8 r0, vS (aP b o) rows.length rc] T.bradawllaw02_Raw :: L) w11 →
            Rn cx.P (Builtin.append_ #[T.s_int, T.s_int] T.s_int #[vS da (mkCl n width (xs.take j)).length dc, vS (aP b9 0) 1 1]) w11 fun v2 w12 => ∃ r2a r2l r2c, v2 = vS r2a r2l r2c ∧ InI ((j : Int) + 1) ∧ (∃ (j_1 : Nat) (da : Option Addr) (dc : Nat), [vS r2a r2l r2c, vI ((j : Int) + 1)] = [vS da (mkCl n width (xs.take j_1)).length dc, vI (j_1 : Int)] ∧ j_1 ≤ xs.length ∧ (n = 0 → j_1 = 0) ∧ j_1 ≤ width ∧ Holds (osl T.int 1 da (mkCl n width (xs.take j_1)).length dc ((mkCl n width (xs.take j_1)).map vI) :: LsR p c (mkF n width (rows.take k)) :: blk b3 [vI n, vS p k c] T.api_Formula :: blk b2 [vI 0, vNS] T.api_Formula :: blk b1 [.int .u8 r0, vS (aP b o) rows.length rc] T.bradawllaw02_Raw :: L) w12) ∧ ((xs.length : Int) - ((j : Int) + 1)).toNat < ((xs.length : Int) - (j : Int)).toNat := by
          intro v b9 w11 hv2 H
          subst hv2
          refine oap slInt H 1 rfl (asrc_blk slInt H 0 rfl rfl rfl) (by omega) (by omega) fun a' c' w12 H => ⟨_, _, _, rfl, by unfold InI; omega, ⟨j + 1, a', c', ?_, by omega, fun e => absurd e hn0, by omega, ?_⟩, by omega⟩
          · rw [hmk2, List.length_append]; rfl
          · rw [hmk2, List.length_append, List.map_append]
            exact H.tail
        refine gif_i (fun c2 => ?_) (fun c2 => ?_)
        · refine ⟨by unfold InI; omega, al H fun b9 w11 H => app _ b9 w11 ?_ H⟩
          unfold mkLit
          rw [if_pos (by simpa using c2)]; omega
        · refine al H fun b9 w11 H => app _ b9 w11 ?_ H
          unfold mkLit
          rw [if_neg (by simpa using c2)]
    · have hge : j = xs.length := by omega
      subst hge
      rw [List.take_length] at H ⊢
      exact fin da dc w6 H
  · have hge : k = rows.length := by omega
    subst hge
    rw [List.take_length] at H
    refine ⟨_, _, _, _, celL_pre H 1 _ [] rfl, stW H 2 rfl rfl rfl fun w6 H => ⟨_, _, _, _, celL_pre H 2 _ [] rfl, _, _, rfl, Holds.ord 4 [0] rfl H⟩⟩
end Go.Sv
/- Does an assignment satisfy a formula? -/
namespace Go.Sv
open Go Go.Proofs
set_option maxRecDepth 100000

/-- Rows of numbers that lie where they may be read. -/
structure GSrc (ra : Option Addr) (hs : List (Option Addr × Nat)) (rows : List (List Int)) (w : World) : Prop where
  at_ : 0 < rows.length → ∃ b o, ra = aP b o
  slot : ∀ (i : Nat) h xs, hs[i]? = some h → rows[i]? = some xs → ∀ b o, ra = aP b o → Cel w b (o + i) (vS h.1 xs.length h.2)
  rat : ∀ (i : Nat) h xs, hs[i]? = some h → rows[i]? = some xs → 0 < xs.length → ∃ b o, h.1 = aP b o
  cell : ∀ (i : Nat) h xs, hs[i]? = some h → rows[i]? = some xs → ∀ b o, h.1 = aP b o → ∀ (j : Nat) z, xs[j]? = some z → Cel w b (o + j) (vI z)
def litB (bs : List Bool) (l : Int) : Bool := if l > 0 then (bs[(l - 1).toNat]?).getD false else if l < 0 then !((bs[(-l - 1).toNat]?).getD false) else false
def clB (bs : List Bool) (c : List Int) : Bool := c.any (litB bs)
def holdsB (bs : List Bool) (cs : List (List Int)) : Bool := cs.all (clB bs)
theorem k_Holds {L : List HPr} {w : World} (H : Holds L w) (n0 : Int) {fa aa : Option Addr} {fl fc ak ac : Nat} {hs : List (Option Addr × Nat)} {cs : List (List Int)} {bs : List Bool} (hl : cs.length = fl) (hh : hs.length = cs.length) (hb : fl ≤ 1000000000) (hbl : bs.length = ak) (hk : ak ≤ 100000) (hcl : ∀ c ∈ cs, c.length ≤ 1000000000) (hr : ∀ c ∈ cs, ∀ x ∈ c, right x ak = true)
    (hsrc : ∀ w', Holds L w' → GSrc fa hs cs w') (hsb : ∀ w', Holds L w' → BSrc aa bs w') :
    Calls cx.P F.bradawllaw02_Holds #[.agg #[vI n0, vS fa fl fc], vS aa ak ac] w (Ret fun v w' => v = vB (holdsB bs cs) ∧ Holds L w') := by
  apply vc_bradawllaw02_Holds
  subst hl
  refine al H fun b1 w1 H => ⟨_, _, _, cel H 0 rfl rfl, fun vs w => ∃ k : Nat, vs = [vI k] ∧ k ≤ cs.length ∧ holdsB bs (cs.take k) = true ∧ Holds (blk b1 [vI n0, vS fa cs.length fc] T.api_Formula :: L) w,
    fun vs _ => (match vs with | [.int _ k] => (cs.length : Int) - k | _ => 0).toNat, ⟨0, rfl, Nat.zero_le _, rfl, H⟩, ?_⟩
  rintro i w2 ⟨k, hv, hk2, hal, H⟩
  simp only [List.cons.injEq, Value.int.injEq, true_and, and_true] at hv
  subst hv
  refine gif_d (fun h => ?_) (fun h => ?_)
  · have hlt : k < cs.length := by omega
    obtain ⟨c, hc⟩ := lt_get hlt
    obtain ⟨hd, hhd⟩ := lt_get (l := hs) (i := k) (by omega)
    have hcb := hcl c (List.mem_of_getElem? hc)
    have hrc := hr c (List.mem_of_getElem? hc)
    have src := hsrc _ H.tail
    obtain ⟨b, o, rfl⟩ := src.at_ (by omega)
    have hT : cs.take (k + 1) = cs.take k ++ [c] := by rw [List.take_add_one, hc]; rfl
    have hB : holdsB bs (cs.take (k + 1)) = clB bs c := by
      rw [hT]; unfold holdsB at hal ⊢
      rw [List.all_append, hal]; simp
    refine ⟨⟨by omega, by omega⟩, pm_i ?_⟩
    rw [Int.toNat_natCast]
    refine ⟨_, _, _, src.slot k hd c hhd hc b o rfl, fun vs w => ∃ j : Nat, vs = [vB (clB bs (c.take j)), vI j] ∧ j ≤ c.length ∧ Holds (blk b1 [vI n0, vS (aP b o) cs.length fc] T.api_Formula :: L) w,
      fun vs _ => (match vs with | [_, .int _ j] => (c.length : Int) - j | _ => 0).toNat, ⟨0, rfl, Nat.zero_le _, H⟩, ?_⟩
    rintro sm i w3 ⟨j, hv, hj, H⟩
    simp only [List.cons.injEq, Value.int.injEq, Value.bool.injEq, true_and, and_true] at hv
    obtain ⟨rfl, rfl⟩ := hv
    refine gif_d (fun h2 => ?_) (fun h2 => ?_)
    · have hlt2 : j < c.length := by omega
      obtain ⟨x, hx⟩ := lt_get hlt2
      have src := hsrc _ H.tail
      have bsrc := hsb _ H.tail
      obtain ⟨b3, o3, e3⟩ := src.rat k hd c hhd hc (by omega)
      have hrx := right_iff.1 (hrc x (List.mem_of_getElem? hx))
      obtain ⟨b4, o4, e4⟩ := bsrc.at_ (by omega)
      have hT2 : clB bs (c.take (j + 1)) = (clB bs (c.take j) || litB bs x) := by
        rw [List.take_add_one, hx]; unfold clB; rw [List.any_append]; simp
      refine ⟨⟨by omega, by omega⟩, ?_⟩
      rw [e3]
      refine pm_i ?_
      rw [Int.toNat_natCast]
      have fin : ∀ (s : Bool), s = clB bs (c.take (j + 1)) → InI ((j : Int) + 1) ∧ (∃ j_1 : Nat, [vB s, vI ((j : Int) + 1)] = [vB (clB bs (c.take j_1)), vI (j_1 : Int)] ∧ j_1 ≤ c.length ∧ Holds (blk b1 [vI n0, vS (aP b o) cs.length fc] T.api_Formula :: L) w3) ∧ ((c.length : Int) - ((j : Int) + 1)).toNat < ((c.length : Int) - (j : Int)).toNat := by
        rintro s rfl
        exact ⟨by unfold InI; omega, ⟨j + 1, rfl, by omega, H⟩, by omega⟩
      have cellB : ∀ i : Nat, i < ak → Cel w3 b4 (o4 + i) (vB ((bs[i]?).getD false)) := fun i hi => bsrc.cell b4 o4 e4 i _ (by rw [List.getElem?_eq_getElem (by omega)]; rfl)
      refine ⟨x, src.cell k hd c hhd hc b3 o3 e3 j x hx, gif_i (fun c1 => fin _ (by rw [hT2, c1]; rfl)) (fun c1 => ?_)⟩
      rw [c1, Bool.false_or] at hT2
      rw [e4]
      refine gif_d (fun c2 => ?_) (fun c2 => ?_)
      · have hlit : litB bs x = (bs[(x - 1).toNat]?).getD false := by unfold litB; rw [if_pos c2]
        refine ⟨by unfold InI; omega, ⟨by omega, by omega⟩, pm_i ⟨_, cellB (x - 1).toNat (by omega), ?_⟩⟩
        rw [← hlit]
        refine gif_i (fun c3 => fin _ (by rw [hT2, c3])) (fun c3 => ?_)
        refine gif_d (fun c4 => by omega) (fun c4 => fin _ (by rw [hT2, c3]))
      · refine gif_d (fun c4 => ?_) (fun c4 => by omega)
        have hlit : litB bs x = !((bs[(-x - 1).toNat]?).getD false) := by unfold litB; rw [if_neg c2, if_pos c4]
        refine ⟨by unfold InI; omega, by unfold InI; omega, ⟨by omega, by omega⟩, pm_i ⟨_, cellB (0 - x - 1).toNat (by omega), fin _ ?_⟩⟩
        rw [hT2, hlit, show (-x - 1).toNat = (0 - x - 1).toNat by omega]
    · have hge : j = c.length := by omega
      subst hge
      rw [List.take_length]
      refine gif_i (fun c1 => ?_) (fun c1 => ?_)
      · have c1' : clB bs c = false := by simpa using c1
        refine ⟨?_, H.tail⟩
        congr 1
        symm
        unfold holdsB
        rw [List.all_eq_false]
        exact ⟨c, List.mem_of_getElem? hc, by rw [c1']; simp⟩
      · have c1' : clB bs c = true := by simpa using c1
        exact ⟨by unfold InI; omega, ⟨k + 1, rfl, by omega, by rw [hB]; exact c1', H⟩, by simp only; omega⟩
  · have hge : k = cs.length := by omega
    subst hge
    rw [List.take_length] at hal
    rw [hal]
    exact ⟨rfl, H.tail⟩
end Go.Sv
/- The statement SearchPhases, off its parts. -/
namespace Go.Sv
open Go Go.Proofs
set_option maxRecDepth 100000

theorem gAt_ok {o : Op} : ∀ (k : Nat) {G : Rg}, G.Ok → (gAt o k G).Ok ∧ (gAt o k G).drawn ≤ G.drawn + k
  | 0, G, h => ⟨h, by simp [gAt]⟩
  | k + 1, G, h => by
    rw [gAt_succ]
    obtain ⟨h1, h2⟩ := gAt_ok (o := o) k h
    unfold phStep
    split
    · exact ⟨h1, by simp only; omega⟩
    · split
      · have := below_drawn (gAt o k G) 2
        exact ⟨below_ok h1 2, by simp only; omega⟩
      · exact ⟨h1, by simp only; omega⟩
theorem rg_new_ok {ws : List Int} (hw : ∀ x ∈ ws, 0 ≤ x) {seed : Int} (hs : 0 ≤ seed) : (⟨ws, rgSeed seed, 0⟩ : Rg).Ok := by
  refine ⟨hw, ?_, Int.le_refl _⟩
  show 0 ≤ rgSeed seed
  unfold rgSeed
  split <;> omega
theorem beq_bool (a b : Bool) : (a == b) = true ↔ a = b := by cases a <;> cases b <;> simp
theorem cel_bools {L : List HPr} {w : World} (H : Holds L w) {b o n c : Nat} {bs : List Bool} (j : Nat) (hj : L[j]? = some (osl T.bool 1 (aP b o) n c (bs.map vB))) {i : Nat} {x : Bool} (hx : bs[i]? = some x) : Cel w b (o + i) (vB x) :=
  oc H j hj (by rw [List.getElem?_map, hx]; rfl)
/-- The second half: phases are asked again, and the run. -/
theorem phases_k2 {L L0 : List HPr} {w : World} {s st tw n : Nat} {Z : Se} {o : Op} {G Gt : Rg} {pa : Option Addr} {pl pc : Nat} {P : List Bool} (H : Holds (SeR s Z :: RgR st G :: RgR tw Gt :: L) w) (hz : Z.Nw n o) (hw : Z.A.words.length = 0) (hst : Z.stopped = false) (ho : 1 ≤ o.restart ∧ 1 ≤ o.first) (hn : n ≤ 100)
    (hP : P.length = n) (hpl : pl = n) (hG : G.drawn = Gt.drawn) (hph : ∀ i, i < n → P[i]? = some (Z.S.phase ((i : Int) + 1))) (hsrc : ∀ w', Holds L w' → BSrc pa P w') (hd : ∀ w', Holds L w' → Holds L0 w') :
    vc_bradawllaw22_SearchPhases_k2 (n : Int) (aP st 0) (aP tw 0) (aP s 0) pa pl pc w (fun v w' => v = vB true ∧ Holds L0 w') := by
  unfold vc_bradawllaw22_SearchPhases_k2
  subst hpl
  refine Calls.ret (k_SPhases H hz.ad.ok.sm) ?_
  rintro _ w1 ⟨qa, qc, rfl, H⟩
  have hvl := hz.ad.hn
  have hA : ∀ i, i < pl → Z.S.assign[i]? = P[i]? := fun i hi => by rw [assign_phase hz.ad.ok hz.l (by omega), hph i hi]
  refine ⟨_, _, _, rfl, fun vs w => ∃ k : Nat, vs = [vI k, vI k] ∧ k ≤ pl ∧ Holds (osl T.bool 1 qa Z.S.vars.length qc (Z.S.assign.map vB) :: SeR s Z :: RgR st G :: RgR tw Gt :: L) w, fun vs _ => (match vs with | [_, .int _ k] => (pl : Int) - k | _ => 0).toNat, ⟨0, rfl, Nat.zero_le _, H⟩, ?_⟩
  rintro m i w2 ⟨k, hv, hk, H⟩
  simp only [List.cons.injEq, Value.int.injEq, true_and, and_true] at hv
  obtain ⟨rfl, rfl⟩ := hv
  refine gif_d (fun hc => ?_) (fun hc => ?_)
  · have hlt : k < pl := by omega
    obtain ⟨x, hx⟩ := lt_get (l := P) (i := k) (by omega)
    refine dr H fun w3 H => ⟨⟨by omega, by omega⟩, opm H 0 rfl (by omega) fun b1 o1 e1 => ?_⟩
    rw [e1] at H
    have hs := hsrc _ H.tail.tail.tail.tail
    obtain ⟨b2, o2, e2⟩ := hs.at_ (by omega)
    rw [Int.toNat_natCast]
    refine ⟨_, cel_bools H 0 rfl (by rw [hA k hlt]; exact hx), ⟨by omega, by omega⟩, ?_⟩
    rw [e2]
    refine pm_i ⟨x, hs.cell b2 o2 e2 k x hx, ?_⟩
    rw [show (x == x) = true by cases x <;> rfl]
    rw [e1]
    exact gif_t rfl ⟨by unfold InI; omega, by unfold InI; omega, ⟨k + 1, rfl, by omega, H⟩, by simp only; omega⟩
  · have hge : k = pl := by omega
    subst hge
    have e : ((k : Int) != (k : Int)) = false := by simp
    rw [e]
    refine gif_f rfl ?_
    have cm := nw_cm hz (by omega) hst ho (a := fun v => Z.S.phase v) (fun v _ _ => rfl) (fun r hr => by
      obtain ⟨c, hc⟩ := has_some hr
      have := (Ar.get_word (Ar.get_at hc).1).2.1
      rw [Cl.words_len] at this
      omega)
    rw [hw] at cm
    refine Calls.ret (k_runC H.tail hn (by omega) cm hz.c.2.2.2.2.2.1) ?_
    rintro _ w3 ⟨rfl, Z2, hz2, H⟩
    refine ⟨_, rfl, ?_⟩
    show vc_bradawllaw22_SearchPhases_k1 _ _ _ _ _ _ false _ _
    unfold vc_bradawllaw22_SearchPhases_k1
    refine gif_f rfl (Calls.ret (k_SModel H (by rw [hz2.ml]; omega)) ?_)
    rintro _ w4 ⟨ma, mc, rfl, H⟩
    refine ⟨_, _, _, rfl, fun vs w => ∃ j : Nat, vs = [vI j] ∧ j ≤ k ∧ Holds (osl T.bool 1 ma Z2.model.length mc (Z2.model.map vB) :: SeR s Z2 :: RgR st G :: RgR tw Gt :: L) w, fun vs _ => (match vs with | [.int _ j] => (k : Int) - j | _ => 0).toNat, ⟨0, rfl, Nat.zero_le _, H⟩, ?_⟩
    rintro i w5 ⟨j, hv, hj, H⟩
    simp only [List.cons.injEq, Value.int.injEq, true_and, and_true] at hv
    subst hv
    have hml := hz2.ml
    refine gif_d (fun hc => ?_) (fun hc => ?_)
    · have hlt : j < k := by omega
      obtain ⟨x, hx⟩ := lt_get (l := P) (i := j) (by omega)
      have hm : Z2.model[j]? = some x := by rw [hz2.m j hlt, ← hph j hlt, hx]
      refine ⟨⟨by omega, by omega⟩, opm H 0 rfl (by omega) fun b1 o1 e1 => ?_⟩
      rw [e1] at H
      have hs := hsrc _ H.tail.tail.tail.tail
      obtain ⟨b2, o2, e2⟩ := hs.at_ (by omega)
      rw [Int.toNat_natCast]
      refine ⟨_, cel_bools H 0 rfl hm, ⟨by omega, by omega⟩, ?_⟩
      rw [e2]
      refine pm_i ⟨x, hs.cell b2 o2 e2 j x hx, ?_⟩
      rw [show (!(x == x)) = false by cases x <;> rfl]
      rw [e1]
      exact gif_f rfl ⟨by unfold InI; omega, ⟨j + 1, rfl, by omega, H⟩, by simp only; omega⟩
    · refine Calls.ret (atr H 2 rfl fun H => k_Drawn H) ?_
      rintro _ w6 ⟨rfl, H⟩
      refine ⟨_, rfl, Calls.ret (atr H 3 rfl fun H => k_Drawn H) ?_⟩
      rintro _ w7 ⟨rfl, H⟩
      refine ⟨_, rfl, gif_t (by rw [hG]; simp) (Calls.ret (atr H 1 rfl fun H => k_SWords H) ?_)⟩
      rintro _ w8 ⟨rfl, H⟩
      refine ⟨_, rfl, gif_t (by rw [hz2.w, hw]; rfl) (Calls.ret (atr H 1 rfl fun H => k_SConflicts H) ?_)⟩
      rintro _ w9 ⟨rfl, H⟩
      exact ⟨_, rfl, by rw [hz2.c.1]; rfl, hd _ H.tail.tail.tail.tail⟩
end Go.Sv
/- The statement SearchPhases: it answers true. -/
namespace Go.Sv
open Go Go.Proofs
set_option maxRecDepth 100000

theorem made_good {l0 l1 l2 l3 l4 l5 l6 l7 l8 l9 l10 l11 : Int} (h0 : U16 l0) (h1 : U16 l1) : 1 ≤ (made l0 l1 l2 l3 l4 l5 l6 l7 l8 l9 l10 l11).restart ∧ 1 ≤ (made l0 l1 l2 l3 l4 l5 l6 l7 l8 l9 l10 l11).first := by
  have t0 := tmod_in h0 200 (by omega) (by omega)
  have t1 := tmod_in h1 200 (by omega) (by omega)
  exact ⟨by show 1 ≤ 1 + Int.tmod l0 200; omega, by show 1 ≤ 1 + Int.tmod l1 200; omega⟩
theorem bsrc_osl {L : List HPr} {w : World} (H : Holds L w) (j : Nat) {a : Option Addr} {l c : Nat} {bs : List Bool} (hl : bs.length = l) (hj : L[j]? = some (osl T.bool 1 a l c (bs.map vB))) : BSrc a bs w :=
  ⟨fun h => osl_ptr H j hj (by omega), fun b o e i x hx => by subst e; exact cel_bools H j hj hx⟩
theorem phases_k3 {L : List HPr} {w : World} {l0 l1 l2 l3 l4 l5 l6 l7 l8 l9 l10 l11 : Int} (h0 : U16 l0) (h1 : U16 l1) (h2 : U16 l2) (h3 : U16 l3) (h4 : U16 l4) (h5 : U16 l5) (h6 : U16 l6) (h7 : U16 l7) (h8 : U16 l8) (h9 : U16 l9) (h11 : U16 l11)
    {b3 : Nat} (H : Holds (blk b3 [vW l0, vW l1, vW l2, vW l3, vW l4, vW l5, vW l6, vW l7, vW l8, vW l9, vW l10, vW l11] T.t12_uint16 :: L) w)
    {wa aa : Option Addr} {wl wc ak ac vars : Nat} {ws : List Int} {bs : List Bool} (x3 : Bool) (hx3 : x3 = false → wl ≤ 60 ∧ ak ≤ 60) (hwl : ws.length = wl) (hwp : ∀ x ∈ ws, 0 ≤ x) (hbl : bs.length = ak)
    (hsw : ∀ w', Holds L w' → ASrc cx 1 T.s_uint64 (vS wa wl wc) wl (ws.map vU) w') (hsb : ∀ w', Holds L w' → BSrc aa bs w') :
    vc_bradawllaw22_SearchPhases_k3 wa wl wc (vars : Int) aa ak ac x3 b3 w (fun v w' => v = vB true ∧ Holds L w') := by
  unfold vc_bradawllaw22_SearchPhases_k3
  refine gif_i (fun hx => ⟨rfl, H.tail⟩) (fun hx => ?_)
  obtain ⟨hwl60, hal60⟩ := hx3 hx
  have hn : Int.tmod (vars : Int) 15 = ((vars % 15 : Nat) : Int) := rfl
  rw [hn]
  have hn15 : vars % 15 < 15 := Nat.mod_lt _ (by omega)
  generalize vars % 15 = n at hn15
  refine ⟨_, _, _, _, _, _, _, _, _, _, _, _, celL_pre H 0 _ [] rfl, Calls.ret (k_Made H h0 h1 h2 h3 h4 h5 h6 h7 h8 h9 h11) ?_⟩
  rintro _ w1 ⟨rfl, H⟩
  have hgood := made_good (l2 := l2) (l3 := l3) (l4 := l4) (l5 := l5) (l6 := l6) (l7 := l7) (l8 := l8) (l9 := l9) (l10 := l10) (l11 := l11) h0 h1
  have hwords : (made l0 l1 l2 l3 l4 l5 l6 l7 l8 l9 l10 l11).words = -1 := rfl
  have hseed : 0 ≤ (made l0 l1 l2 l3 l4 l5 l6 l7 l8 l9 l10 l11).seed := u64_nonneg _
  generalize made l0 l1 l2 l3 l4 l5 l6 l7 l8 l9 l10 l11 = o at *
  refine ⟨_, _, _, _, _, _, _, _, _, _, _, _, _, _, _, _, rfl, al H fun b4 w2 H => stW H 0 rfl rfl rfl fun w3 H => ⟨by decide, dr H fun w4 H => ?_⟩⟩
  have H : Holds (blk b4 o.vs T.opts_Options :: L) w4 := Holds.ord 2 [0] rfl H
  refine ⟨_, cel H 0 rfl rfl, _, cel H 0 rfl rfl, Calls.ret (k_rng_New H hwl (by omega) (fun w' H => hsw w' H.tail) o.seed) ?_⟩
  rintro _ w5 ⟨st, rfl, H⟩
  refine ⟨_, rfl, cel H 1 rfl rfl, Calls.ret (k_rng_New H hwl (by omega) (fun w' H => hsw w' H.tail.tail) o.seed) ?_⟩
  rintro _ w6 ⟨tw, rfl, H⟩
  have hG0 := rg_new_ok hwp hseed
  generalize hG0e : (⟨ws, rgSeed o.seed, 0⟩ : Rg) = G0 at *
  have hG0d : G0.drawn = 0 := by rw [← hG0e]
  refine ⟨_, rfl, _, _, _, _, _, _, _, _, _, _, _, _, _, _, _, _, celL_pre H 2 _ [] rfl, ?_⟩
  have hx2 : ∀ c ∈ ([] : List (List Int)), ∀ x ∈ c, right x n = true := by simp
  refine Calls.ret (k_SNew (n := n) (o := o) (G := G0) (fl := 0) (hs := []) (cs := []) H.swap hG0 (by omega) (by omega) rfl rfl (by simp) hx2 (by decide) (fun _ _ => fsrc_nil)) ?_
  rintro _ w7 ⟨s, rfl, H⟩
  obtain ⟨m1, m2, m3, m4, m5⟩ := new_nw (o := o) (n := n) (by omega) hx2 G0
  have hvl : (Tr.new n).vars.length = n := by simp [Tr.new]
  obtain ⟨p1, p2⟩ := phGo_phase o n 1 (Tr.new n) G0 (by omega) (by omega)
  have hst := m4 (by omega)
  have m5' : (Se.new o n [] G0).A.words.length = 0 := Nat.le_zero.1 m5
  rw [← m3] at p2
  rw [p1] at H
  generalize hZ : Se.new o n [] G0 = Z at *
  have hzl := m1.ad.hn
  have hph : ∀ i, i < n → Z.S.assign[i]? = some (phStep o (gAt o i G0)).1 := by
    intro i hi
    rw [assign_phase m1.ad.ok m1.l (by omega), p2 _ (by omega), if_pos ⟨by omega, by omega⟩, show ((i : Int) + 1 - 1).toNat = i by omega]
  refine ⟨_, rfl, gif_f rfl (Calls.ret (k_SPhases H m1.ad.ok.sm) ?_)⟩
  rintro _ w8 ⟨qa, qc, rfl, H⟩
  have H : Holds (osl T.bool 1 qa Z.S.vars.length qc (Z.S.assign.map vB) :: SeR s Z :: RgR st (gAt o n G0) :: RgR tw G0 :: blk b4 o.vs T.opts_Options :: L) w8 := H
  refine ⟨_, _, _, rfl, gif_f (by rw [hzl]; simp) ?_⟩
  refine ⟨fun vs w => ∃ k : Nat, vs = [vI k] ∧ k ≤ n ∧ Holds (osl T.bool 1 qa Z.S.vars.length qc (Z.S.assign.map vB) :: SeR s Z :: RgR st (gAt o n G0) :: RgR tw (gAt o k G0) :: blk b4 o.vs T.opts_Options :: L) w, fun vs _ => (match vs with | [.int _ k] => (n : Int) - k | _ => 0).toNat, ⟨0, rfl, Nat.zero_le _, H⟩, ?_⟩
  rintro i w9 ⟨k, hv, hk, H⟩
  simp only [List.cons.injEq, Value.int.injEq, true_and, and_true] at hv
  subst hv
  refine gif_d (fun hc => ?_) (fun hc => ?_)
  · have hlt : k < n := by omega
    have hx := hph k hlt
    refine ⟨⟨by omega, by omega⟩, opm H 0 rfl (by omega) fun b1 o1 e1 => ?_⟩
    rw [e1] at H
    rw [Int.toNat_natCast]
    refine ⟨_, cel_bools H 0 rfl hx, _, cel H 4 rfl rfl, ?_⟩
    have hgk := gAt_ok (o := o) k hG0
    have fin : ∀ w1, Holds (osl T.bool 1 qa Z.S.vars.length qc (Z.S.assign.map vB) :: SeR s Z :: RgR st (gAt o n G0) :: RgR tw (gAt o (k + 1) G0) :: blk b4 o.vs T.opts_Options :: L) w1 → InI ((k : Int) + 1) ∧ (∃ k_1 : Nat, [vI ((k : Int) + 1)] = [vI (k_1 : Int)] ∧ k_1 ≤ n ∧ Holds (osl T.bool 1 qa Z.S.vars.length qc (Z.S.assign.map vB) :: SeR s Z :: RgR st (gAt o n G0) :: RgR tw (gAt o k_1 G0) :: blk b4 o.vs T.opts_Options :: L) w1) ∧ ((n : Int) - ((k : Int) + 1)).toNat < ((n : Int) - (k : Int)).toNat :=
      fun w1 H => ⟨by unfold InI; omega, ⟨k + 1, rfl, by omega, H⟩, by omega⟩
    have hstep := gAt_succ o k G0
    rw [← e1] at H
    unfold phStep at hx hstep ⊢
    refine gif_i (fun c1 => ?_) (fun c1 => ?_)
    · have c1' : o.phase = 1 := by simpa using c1
      rw [if_pos c1'] at hx hstep ⊢
      exact gif_f rfl (fin _ (by rw [hstep]; exact H))
    · have c1' : ¬ o.phase = 1 := by simpa using c1
      rw [if_neg c1'] at hx hstep ⊢
      refine ⟨_, cel H 4 rfl rfl, gif_i (fun c2 => ?_) (fun c2 => ?_)⟩
      · have c2' : o.phase = 2 := by simpa using c2
        rw [if_pos c2'] at hx hstep ⊢
        refine Calls.ret (atp (Q := fun x => x = vI ((gAt o k G0).below 2).1) H 3 rfl fun H => k_Below H hgk.1 (by have := hgk.2; omega) 2 (by omega)) ?_
        rintro _ w10 ⟨rfl, H⟩
        refine ⟨_, rfl, gif_f (by simp) (fin _ (by rw [hstep]; exact H))⟩
      · have c2' : ¬ o.phase = 2 := by simpa using c2
        rw [if_neg c2'] at hx hstep ⊢
        exact gif_f rfl (fin _ (by rw [hstep]; exact H))
  · have hge : k = n := by omega
    subst hge
    refine Calls.ret (atr H 2 rfl fun H => k_Drawn H) ?_
    rintro _ w10 ⟨rfl, H⟩
    refine ⟨_, rfl, Calls.ret (atr H 3 rfl fun H => k_Drawn H) ?_⟩
    rintro _ w11 ⟨rfl, H⟩
    refine ⟨_, rfl, gif_f (by simp) ?_⟩
    have H := H.swap
    refine Calls.ret (k_SImport H m1.ad.ok.sm hbl (by omega) (fun w' H => hsb w' H.tail.tail.tail.tail)) ?_
    rintro _ w12 ⟨rfl, H⟩
    have hvars := m1.vars
    rw [hvars]
    have hbe : (((ak : Nat) : Int) == (k : Int)) = decide (bs.length = k) := by
      rw [hbl, Bool.eq_iff_iff, beq_iff_eq, decide_eq_true_iff]; omega
    refine ⟨_, rfl, gif_f (by rw [hbe]; cases decide (bs.length = k) <;> rfl) ?_⟩
    obtain ⟨i1, i2, i3⟩ := import_nw m1 bs
    rw [hbe]
    refine gif_d (fun he => ?_) (fun he => ?_)
    · have H : Holds (SeR s (Z.import bs) :: RgR st (gAt o k G0) :: RgR tw (gAt o k G0) :: osl T.bool 1 qa Z.S.vars.length qc (Z.S.assign.map vB) :: blk b4 o.vs T.opts_Options :: L) w12 := Holds.ord 5 [0, 2, 3, 1, 4] rfl H
      refine phases_k2 (P := bs) (pa := aa) (pl := ak) (pc := ac) H i1 (by rw [i2]; exact m5') (by rw [i3]; exact hst) hgood (by omega) he (by omega) rfl (fun i hi => ?_) (fun w' H => hsb w' H.tail.tail) (fun w' H => H.tail.tail)
      have e1 : (Z.import bs).S = impGo 0 bs Z.S := by unfold Se.import; rw [if_pos (by omega)]
      rw [e1, impGo_phase bs 0 Z.S m1.ad.ok m1.l (by omega) _ (by omega), if_pos ⟨by omega, by omega⟩]
      rw [show ((i : Int) + 1 - (0 : Nat) - 1).toNat = i by omega, List.getElem?_eq_getElem (by omega)]; rfl
    · have e1 : Z.import bs = Z := by unfold Se.import; rw [if_neg (by omega)]
      rw [e1] at H
      have H : Holds (SeR s Z :: RgR st (gAt o k G0) :: RgR tw (gAt o k G0) :: osl T.bool 1 qa Z.S.vars.length qc (Z.S.assign.map vB) :: blk b4 o.vs T.opts_Options :: L) w12 := Holds.ord 5 [0, 2, 3, 1, 4] rfl H
      refine phases_k2 (P := Z.S.assign) (pa := qa) (pl := Z.S.vars.length) (pc := qc) H m1 m5' hst hgood (by omega) (by simp [Tr.assign, hzl]) (by omega) rfl (fun i hi => ?_) (fun w' H => bsrc_osl H 0 (by simp [Tr.assign]) rfl) (fun w' H => H.tail.tail)
      exact assign_phase m1.ad.ok m1.l (by omega)
theorem k_SearchPhases {L : List HPr} {w : World} {l0 l1 l2 l3 l4 l5 l6 l7 l8 l9 l10 l11 : Int} (h0 : U16 l0) (h1 : U16 l1) (h2 : U16 l2) (h3 : U16 l3) (h4 : U16 l4) (h5 : U16 l5) (h6 : U16 l6) (h7 : U16 l7) (h8 : U16 l8) (h9 : U16 l9) (h11 : U16 l11)
    (H : Holds L w) {wa ra aa : Option Addr} {wl wc rl rc ak ac : Nat} {ws : List Int} {bs : List Bool} (hwl : ws.length = wl) (hwp : ∀ x ∈ ws, 0 ≤ x) (hbl : bs.length = ak)
    (hsw : ∀ w', Holds L w' → ASrc cx 1 T.s_uint64 (vS wa wl wc) wl (ws.map vU) w') (hsb : ∀ w', Holds L w' → BSrc aa bs w') :
    Calls cx.P F.bradawllaw22_SearchPhases #[.agg #[vW l0, vW l1, vW l2, vW l3, vW l4, vW l5, vW l6, vW l7, vW l8, vW l9, vW l10, vW l11], vS wa wl wc, .agg #[vS ra rl rc, vS aa ak ac]] w (Ret fun v w' => v = vB true ∧ Holds L w') := by
  apply vc_bradawllaw22_SearchPhases
  refine al H fun b1 w1 H => al H fun b2 w2 H => dr H fun w3 H => ⟨by decide, _, _, _, cel H 0 rfl rfl, by decide, _, _, _, cel H 0 rfl rfl, cel H 0 rfl rfl, Calls.ret (k_fit H) ?_⟩
  rintro _ w4 ⟨rfl, H⟩
  have H : Holds (blk b1 [vW l0, vW l1, vW l2, vW l3, vW l4, vW l5, vW l6, vW l7, vW l8, vW l9, vW l10, vW l11] T.t12_uint16 :: L) w4 := H.tail
  have k3 : ∀ x3 : Bool, (x3 = false → wl ≤ 60 ∧ ak ≤ 60) → vc_bradawllaw22_SearchPhases_k3 wa wl wc (rl : Int) aa ak ac x3 b1 w4 (fun v w' => v = vB true ∧ Holds L w') := fun x3 hx3 => phases_k3 h0 h1 h2 h3 h4 h5 h6 h7 h8 h9 h11 H x3 hx3 hwl hwp hbl hsw hsb
  refine ⟨_, rfl, gif_f rfl (gif_d (fun _ => k3 true (fun h => by cases h)) (fun c1 => gif_d (fun _ => k3 true (fun h => by cases h)) (fun c2 => k3 _ (fun _ => ⟨by omega, by omega⟩))))⟩
end Go.Sv
/- The statement SearchImports, off its parts. -/
namespace Go.Sv
open Go Go.Proofs
set_option maxRecDepth 100000

theorem fsrc_ls {L : List HPr} {w : World} (H : Holds L w) (i j : Nat) {p : Option Addr} {n c : Nat} {hs : List (Option Addr × Nat)} {out : List (List Int)} (hn : out.length = n) (hi : L[i]? = some (osl T.s_int 1 p n c (slots hs out))) (hj : L[j]? = some (star (rowsP T.int 1 (fun x : Int => [vI x]) hs out))) : FSrc p hs out w := by
  refine ⟨fun h => osl_ptr H i hi (by omega), fun k h xs h1 h2 => ⟨fun b o e => ?_, ?_⟩⟩
  · subst e; exact oc H i hi (slots_get h1 h2)
  · have H := star_take k (rowsP_get h1 h2) (H.pick j hj)
    have := asrc_osl slInt H 0 rfl (c' := h.2)
    rw [flat_one] at this
    exact this
theorem one0 {α : Type} {x y : α} {q : Nat} (h : [x][q]? = some y) : q = 0 ∧ y = x := by
  cases q with
  | zero => exact ⟨rfl, by simpa using h.symm⟩
  | succ q => simp at h
theorem gsrc_one {L : List HPr} {w : World} (H : Holds L w) (i j : Nat) {b6 k T1 : Nat} {h : Option Addr × Nat} {hs : List (Option Addr × Nat)} {out : List (List Int)} {xs : List Int} (h1 : hs[k]? = some h) (h2 : out[k]? = some xs) (hi : L[i]? = some (blk b6 [vS h.1 xs.length h.2] T1)) (hj : L[j]? = some (star (rowsP T.int 1 (fun x : Int => [vI x]) hs out))) : GSrc (aP b6 0) [h] [xs] w := by
  have H2 := star_take k (rowsP_get h1 h2) (H.pick j hj)
  rw [flat_one] at H2
  refine ⟨fun _ => ⟨_, _, rfl⟩, fun q g ys g1 g2 b o e => ?_, fun q g ys g1 g2 hp => ?_, fun q g ys g1 g2 b o e r z hz => ?_⟩
  · obtain ⟨rfl, rfl⟩ := one0 g1
    obtain ⟨_, rfl⟩ := one0 g2
    simp at e; obtain ⟨rfl, rfl⟩ := e; exact cel H i hi rfl
  · obtain ⟨rfl, rfl⟩ := one0 g1
    obtain ⟨_, rfl⟩ := one0 g2
    exact osl_ptr H2 0 rfl hp
  · obtain ⟨rfl, rfl⟩ := one0 g1
    obtain ⟨_, rfl⟩ := one0 g2
    rw [e] at H2
    exact oc H2 0 rfl (by rw [List.getElem?_map, hz]; rfl)
def bitB (bits : Int) (i : Nat) : Bool := bitI .and .u16 (shrI .u16 bits (i : Int)) 1 == 1
def curA (bits : Int) (n k : Nat) : List Bool := (List.range n).map fun i => if i < k then bitB bits i else false
theorem curA_get {bits : Int} {n k i : Nat} (hi : i < n) : (curA bits n k)[i]? = some (if i < k then bitB bits i else false) := by
  unfold curA
  rw [List.getElem?_map, List.getElem?_range hi]; rfl
theorem curA_len (bits : Int) (n k : Nat) : (curA bits n k).length = n := by simp [curA]
theorem curA_set {bits : Int} {n k : Nat} (_ : k < n) : (curA bits n k).set k (bitB bits k) = curA bits n (k + 1) := by
  apply List.ext_getElem?
  intro i
  rw [List.getElem?_set]
  by_cases hi : i < n
  · rw [curA_get hi, curA_get hi]
    by_cases e : k = i
    · subst e; rw [if_pos rfl, if_pos (by rw [curA_len]; omega), if_pos (by omega)]
    · rw [if_neg e]
      by_cases h : i < k
      · rw [if_pos h, if_pos (by omega)]
      · rw [if_neg h, if_neg (by omega)]
  · rw [List.getElem?_eq_none (by rw [curA_len]; omega), List.getElem?_eq_none (by rw [curA_len]; omega)]
    split
    · rw [if_neg (by rw [curA_len]; omega)]
    · rfl
def fixV (bs : List Bool) (n i : Nat) : Int := if ((bs[i % n]?).getD false) then 1 + ((i % n : Nat) : Int) else -(1 + ((i % n : Nat) : Int))
def fixC (bs : List Bool) (n i : Nat) (c : List Int) : List Int := if clB bs c then c else c ++ [fixV bs n i]
def curF (bs : List Bool) (n k : Nat) (cs : List (List Int)) : List (List Int) := cs.mapIdx fun i c => if i < k then fixC bs n i c else c
theorem curF_get (bs : List Bool) (n k : Nat) (cs : List (List Int)) (i : Nat) : (curF bs n k cs)[i]? = (cs[i]?).map fun c => if i < k then fixC bs n i c else c := by
  unfold curF
  rw [List.getElem?_mapIdx]
theorem curF_len (bs : List Bool) (n k : Nat) (cs : List (List Int)) : (curF bs n k cs).length = cs.length := by simp [curF]
theorem curF_set {bs : List Bool} {n k : Nat} {cs : List (List Int)} {c : List Int} (hc : cs[k]? = some c) : (curF bs n k cs).set k (fixC bs n k c) = curF bs n (k + 1) cs := by
  apply List.ext_getElem?
  intro i
  have hk := get_lt hc
  rw [List.getElem?_set, curF_get, curF_get]
  by_cases e : k = i
  · subst e; rw [if_pos rfl, if_pos (by rw [curF_len]; omega), hc]; simp
  · rw [if_neg e]
    cases cs[i]? with
    | none => rfl
    | some d =>
      simp only [Option.map_some]
      by_cases h : i < k
      · rw [if_pos h, if_pos (by omega)]
      · rw [if_neg h, if_neg (by omega)]
theorem curF_zero (bs : List Bool) (n : Nat) (cs : List (List Int)) : curF bs n 0 cs = cs := by
  apply List.ext_getElem?
  intro i
  rw [curF_get]
  cases cs[i]? <;> simp
theorem curF_same {bs : List Bool} {n k : Nat} {cs : List (List Int)} {c : List Int} (hc : cs[k]? = some c) (hb : clB bs c = true) : curF bs n (k + 1) cs = curF bs n k cs := by
  rw [← curF_set hc]
  apply set_self
  rw [curF_get, hc]
  simp [fixC, hb]
/-- One clause gets a literal more. -/
theorem imports_k1 {L : List HPr} {w w11 : World} {I2 : List Value → World → Prop} {μ2 : List Value → World → Nat} {x9 : Int} {ra : Option Addr} {rl rc b2 b9 n k : Nat} {p : Option Addr} {pc : Nat} {hs : List (Option Addr × Nat)} {out : List (List Int)} {c : List Int} {hd : Option Addr × Nat} {v : Int} {x15 : Int}
    (hl : hs.length = out.length) (hk : hs[k]? = some hd) (hc : out[k]? = some c) (hcl : c.length ≤ 1000)
    (H : Holds (osl T.s_int 1 p out.length pc (slots hs out) :: star (rowsP T.int 1 (fun x : Int => [vI x]) hs out) :: blk b9 [vI (n : Int), vS p out.length pc] T.api_Formula :: L) w)
    (hfin : ∀ w', Holds (LsR p pc (out.set k (c ++ [v])) :: blk b9 [vI (n : Int), vS p out.length pc] T.api_Formula :: L) w' → InI ((k : Int) + 1) ∧ I2 [vI ((k : Int) + 1)] w' ∧ μ2 [vI ((k : Int) + 1)] w' < μ2 [vI x9] w11) {R : Value → World → Prop} :
    vc_bradawllaw22_SearchImports_k1 I2 μ2 w11 x9 ra rl rc (k : Int) hd.1 c.length hd.2 v p out.length pc x15 (k : Int) b2 b9 w R := by
  unfold vc_bradawllaw22_SearchImports_k1
  have hlt := get_lt hc
  have src : ∀ {L' : List HPr} {w' : World} (j : Nat), Holds L' w' → L'[j]? = some (star (rowsP T.int 1 (fun x : Int => [vI x]) hs out)) → ASrc cx 1 T.s_int (vS hd.1 c.length hd.2) c.length (c.map vI) w' := by
    intro L' w' j H hj
    have H := star_take k (rowsP_get hk hc) (H.pick j hj)
    have := asrc_osl slInt H 0 rfl (c' := hd.2)
    rw [flat_one] at this
    exact this
  -- the store, behind both orders
  have fin : ∀ (a' : Option Addr) (c' : Nat) (w8 : World), Holds (osl T.int 1 a' (c.length + 1) c' (c.map vI ++ [vI v]) :: osl T.s_int 1 p out.length pc (slots hs out) :: star (rowsP T.int 1 (fun x : Int => [vI x]) hs out) :: blk b9 [vI (n : Int), vS p out.length pc] T.api_Formula :: L) w8 →
      ((0 : Int) ≤ (k : Int) ∧ (k : Int) < ((out.length : Nat) : Int)) ∧ pm p fun b11 o11 => St w8 b11 (o11 + ((k : Int).toNat)) [vS a' (c.length + 1) c'] fun w19 => InI ((k : Int) + 1) ∧ I2 [vI ((k : Int) + 1)] w19 ∧ μ2 [vI ((k : Int) + 1)] w19 < μ2 [vI x9] w11 := by
    intro a' c' w8 H
    refine ⟨⟨by omega, by omega⟩, opm H 1 rfl (by omega) fun b o e => ?_⟩
    subst e
    rw [Int.toNat_natCast]
    refine ost H 1 rfl rfl (by rw [slots_len hl]; simp; omega) fun w9 H => hfin w9 ?_
    have hlen : (c ++ [v]).length = c.length + 1 := by simp
    have e1 := slots_set hs out k (a', c') (c ++ [v])
    simp only at e1
    rw [hlen] at e1
    have H : Holds (osl T.int 1 a' (c.length + 1) c' (c.map vI ++ [vI v]) :: star (rowsP T.int 1 (fun x : Int => [vI x]) hs out) :: osl T.s_int 1 (aP b o) out.length pc (setL (slots hs out) k [vS a' (c.length + 1) c']) :: blk b9 [vI (n : Int), vS (aP b o) out.length pc] T.api_Formula :: L) w9 := Holds.ord 4 [0, 2, 1, 3] rfl H
    rw [e1] at H
    have e2 := rowsP_set T.int 1 (fun x : Int => [vI x]) hs out k (a', c') (c ++ [v])
    simp only at e2
    rw [hlen, flat_one, List.map_append] at e2
    have H := star_put k (rowsP_get hk hc) H
    have e3 : List.map vI [v] = [vI v] := rfl
    rw [e3] at e2
    rw [e2] at H
    refine LsR.sh (hs := hs.set k (a', c')) (by simp [hl]) (H.swap.cast ?_)
    simp [lsL]
  refine dr H fun w1 H => ⟨_, _, _, cel H 2 rfl rfl, ?_, ?_⟩
  · refine oap slInt (osl_nil T.int 1 H) 0 rfl (src 2 (osl_nil T.int 1 H) rfl) (by omega) (by omega) fun a1 c1 w2 H => ⟨_, _, _, rfl, cel H 3 rfl rfl, al H fun b10 w3 H => ⟨cel H 4 rfl rfl, ?_⟩⟩
    rw [Nat.zero_add] at H ⊢
    rw [List.nil_append] at H
    refine oap slInt H 1 rfl (asrc_blk slInt H 0 rfl rfl rfl) (by omega) (by omega) fun a2 c2 w4 H => ⟨_, _, _, rfl, cel H 4 rfl rfl, ?_⟩
    exact fin a2 c2 w4 H.tail
  · refine al H fun b12 w2 H => ⟨cel H 3 rfl rfl, ?_⟩
    refine oap slInt (osl_nil T.int 1 H) 0 rfl (src 3 (osl_nil T.int 1 H) rfl) (by omega) (by omega) fun a1 c1 w3 H => ⟨_, _, _, rfl, cel H 4 rfl rfl, ?_⟩
    rw [Nat.zero_add] at H ⊢
    rw [List.nil_append] at H
    refine oap slInt H 0 rfl (asrc_blk slInt H 1 rfl rfl rfl) (by omega) (by omega) fun a2 c2 w4 H => ⟨_, _, _, rfl, cel H 4 rfl rfl, ?_⟩
    exact fin a2 c2 w4 (Holds.ord 5 [0, 2, 3, 4] rfl H)
end Go.Sv
