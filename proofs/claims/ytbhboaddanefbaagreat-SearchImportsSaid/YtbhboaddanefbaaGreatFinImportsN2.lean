/- Parts of a proof: Mt16, Mt17, KTrail, Mt18, KRng, KLen, VcWatch, VcArena, KArena, KWatch, KNorm, Mt20, KCompact, KClause, KForm. -/
import Derived.Test.YtbhboaddanefbaaGreatFinImportsN1
import Derived.MapKept
set_option linter.unusedVariables false
set_option linter.unusedSimpArgs false
/- Maps whose keys are ints, as functions. -/
namespace Go.Sv
open Go

def kvs (es : List MapEntry) : List (Int × Value) := es.map fun e => (match e.key with | .int _ n => n | _ => 0, e.val)
def mget : List (Int × Value) → Int → Option Value
  | [], _ => none
  | (k, v) :: es, x => if x = k then some v else mget es x
def intKeys (es : List MapEntry) : Prop := ∀ e ∈ es, ∃ n, e.key = vI n
/-- A map, as a function. -/
def mpF (b : Nat) (f : Int → Option Value) : HPr := fun m => ∃ es clock, m b = some (.map es clock) ∧ intKeys es.toList ∧ ((kvs es.toList).map Prod.fst).Nodup ∧ ∀ x, mget (kvs es.toList) x = f x
theorem mpF_new {b : Nat} {m : Hp} (h : mpo b #[] 0 m) : mpF b (fun _ => none) m := ⟨#[], 0, h, fun _ h => by simp at h, by simp [kvs], fun _ => rfl⟩
theorem mpF_heap {L : List HPr} {w : World} (H : Holds L w) (i : Nat) {b : Nat} {f : Int → Option Value} (hi : L[i]? = some (mpF b f)) :
    ∃ es clock, w.heap[b]? = some (.map es clock) ∧ intKeys es.toList ∧ ((kvs es.toList).map Prod.fst).Nodup ∧ ∀ x, mget (kvs es.toList) x = f x := by
  obtain ⟨m, hs, es, clock, h1, h2⟩ := H.fact i hi
  exact ⟨es, clock, hs.s b _ h1, h2⟩

/-- What a map's type says. -/
structure MpT (C : Ctx) (t k e : Nat) (z : Value) : Prop where
  ht : C.P.underlying t = some (.map k e)
  hk : C.P.underlying k = some (.int .i64)
  hz : ∃ i : TypeInfo, C.P.info? e = some i ∧ i.zero = some z
theorem MpT.of {C : Ctx} {t k e : Nat} {s s' : Nat} {z' : Value} {i : TI} {kb kb' : Nat} {kz : Value} (h1 : C.ty t = some ⟨.map k e, s, s', z'⟩) (h2 : C.ty k = some ⟨.int .i64, kb, kb', kz⟩) (h3 : C.ty e = some i) : MpT C t k e i.zero := by
  obtain ⟨d, _, hd, hi, _, _, _, _⟩ := C.hty _ _ h1
  obtain ⟨d2, _, hd2, hi2, _, _, _, _⟩ := C.hty _ _ h2
  obtain ⟨_, info, _, _, k1, _, _, k4⟩ := C.hty _ _ h3
  have e1 : d = .map k e := hi
  have e2 : d2 = .int .i64 := hi2
  subst e1; subst e2
  exact ⟨hd, hd2, info, k1, k4⟩

theorem findNow_int : ∀ (es : List MapEntry) (x : Int) (j : Nat), intKeys es →
    (mget (kvs es) x = none → Instr.findNow (.int .i64) (vI x) es j = some none) ∧
    (∀ v, mget (kvs es) x = some v → ∃ p e, es[p]? = some e ∧ e.key = vI x ∧ e.val = v ∧ Instr.findNow (.int .i64) (vI x) es j = some (some (j + p, v)) ∧ (∀ q e', q < p → es[q]? = some e' → e'.key ≠ vI x))
  | [], x, j, _ => ⟨fun _ => rfl, fun v h => by simp [kvs, mget] at h⟩
  | e :: es, x, j, h => by
    obtain ⟨n, hn⟩ := h e (List.mem_cons_self ..)
    have ih := findNow_int es x (j + 1) fun e' he' => h e' (List.mem_cons_of_mem _ he')
    have hk : kvs (e :: es) = (n, e.val) :: kvs es := by simp [kvs, hn]
    have hs : Instr.sameNow (.int .i64) (vI x) e.key = some (x == n) := by rw [hn]; simp [Instr.sameNow]
    rw [hk]
    simp only [mget, Instr.findNow, hs]
    by_cases hx : x = n
    · subst hx
      refine ⟨fun h => by simp at h, fun v hv => ⟨0, e, rfl, hn, by simpa using hv, by simpa using hv, fun q _ hq => absurd hq (Nat.not_lt_zero q)⟩⟩
    · have hb : (x == n) = false := by simpa using hx
      simp only [hx, if_false, hb]
      refine ⟨ih.1, fun v hv => ?_⟩
      obtain ⟨p, e', h1, h2, h3, h4, h5⟩ := ih.2 v hv
      refine ⟨p + 1, e', by simpa using h1, h2, h3, by rw [h4]; congr 3; omega, fun q e2 hq he2 => ?_⟩
      cases q with
      | zero =>
        simp only [List.getElem?_cons_zero, Option.some.injEq] at he2
        subst he2
        rw [hn]; intro hc; simp at hc; exact hx hc.symm
      | succ q => exact h5 q e2 (by omega) (by simpa using he2)

theorem gObj {P : Program} {w : World} {r : Nat} {es : Array MapEntry} {clock : Nat} (hb : w.heap[r]? = some (.map es clock)) : (getObj r).run P w = .ok (.map es clock) w := by simp [getObj, Sem.run, hb]
theorem sObj {P : Program} {w : World} {r : Nat} {es : Array MapEntry} {clock : Nat} (o : Obj) (hb : w.heap[r]? = some (.map es clock)) : (setObj r o).run P w = .ok () { w with heap := w.heap.setIfInBounds r o } := by simp [setObj, Sem.run, hb]
theorem checkKey_int {P : Program} {k : Nat} (hk : P.underlying k = some (.int .i64)) (b : Bool) (n : Nat) (x : Int) (w : World) : (Instr.checkKey b (n + 1) k (vI x)).run P w = .ok () w := by
  simp [Instr.checkKey, run_underlying hk]
theorem findKey_none {P : Program} {k : Nat} (hk : P.underlying k = some (.int .i64)) {es : List MapEntry} {x : Int} (hi : intKeys es) (h : mget (kvs es) x = none) (w : World) : (Instr.findKey k (vI x) es).run P w = .ok none w := by
  simp [Instr.findKey, run_underlying hk, (findNow_int es x 0 hi).1 h]
theorem findKey_some {P : Program} {k : Nat} (hk : P.underlying k = some (.int .i64)) {es : List MapEntry} {x : Int} {v : Value} (hi : intKeys es) (h : mget (kvs es) x = some v) (w : World) :
    ∃ p e, es[p]? = some e ∧ e.key = vI x ∧ e.val = v ∧ (Instr.findKey k (vI x) es).run P w = .ok (some (p, v)) w ∧ (∀ q e', q < p → es[q]? = some e' → e'.key ≠ vI x) := by
  obtain ⟨p, e, h1, h2, h3, h4, h5⟩ := (findNow_int es x 0 hi).2 v h
  rw [Nat.zero_add] at h4
  exact ⟨p, e, h1, h2, h3, by simp [Instr.findKey, run_underlying hk, h4], h5⟩
theorem intKeys_empty {es : Array MapEntry} (h : es.toList = []) : es = #[] := by apply Array.toList_inj.1; simpa using h

theorem mlook {C : Ctx} {t k e : Nat} {z : Value} (S : MpT C t k e z) {L : List HPr} {w : World} (H : Holds L w) (i : Nat) {b : Nat} {f : Int → Option Value} {x : Int} {K : Value → World → Prop} (hi : L[i]? = some (mpF b f))
    (h : K ((f x).getD z) w) : Rn C.P (Instr.lookup t (.map (some b)) (vI x) false) w K := by
  obtain ⟨es, clock, h1, h2, h3, h4⟩ := mpF_heap H i hi
  obtain ⟨inf, hz1, hz2⟩ := S.hz
  refine ⟨_, w, ?_, h⟩
  cases hf : f x with
  | none =>
    have := findKey_none S.hk h2 (by rw [h4, hf]) w (P := C.P)
    simp [Instr.lookup, run_underlying S.ht, gObj h1, checkKey_int S.hk, this, zeroValue, typeInfo, hz1, hz2]
  | some v =>
    obtain ⟨p, e', g1, g2, g3, g4, _⟩ := findKey_some S.hk h2 (by rw [h4, hf]) w (P := C.P)
    simp [Instr.lookup, run_underlying S.ht, gObj h1, checkKey_int S.hk, g4]
theorem mlook2 {C : Ctx} {t k e : Nat} {z : Value} (S : MpT C t k e z) {L : List HPr} {w : World} (H : Holds L w) (i : Nat) {b : Nat} {f : Int → Option Value} {x : Int} {K : Value → World → Prop} (hi : L[i]? = some (mpF b f))
    (h : K (.tuple #[(f x).getD z, .bool (f x).isSome]) w) : Rn C.P (Instr.lookup t (.map (some b)) (vI x) true) w K := by
  obtain ⟨es, clock, h1, h2, h3, h4⟩ := mpF_heap H i hi
  obtain ⟨inf, hz1, hz2⟩ := S.hz
  refine ⟨_, w, ?_, h⟩
  cases hf : f x with
  | none =>
    have := findKey_none S.hk h2 (by rw [h4, hf]) w (P := C.P)
    simp [Instr.lookup, run_underlying S.ht, gObj h1, checkKey_int S.hk, this, zeroValue, typeInfo, hz1, hz2]
  | some v =>
    obtain ⟨p, e', g1, g2, g3, g4, _⟩ := findKey_some S.hk h2 (by rw [h4, hf]) w (P := C.P)
    simp [Instr.lookup, run_underlying S.ht, gObj h1, checkKey_int S.hk, g4]

theorem env_setB {w : World} {r : Nat} {o o1 : Obj} (h : w.heap[r]? = some o1) (p : ∀ off s, ({ w with heap := w.heap.setIfInBounds r o } : World).frozen? ⟨r, off, s⟩ = w.frozen? ⟨r, off, s⟩) : envOf { w with heap := w.heap.setIfInBounds r o } = envOf w := by
  unfold envOf
  congr 1
  funext a
  by_cases hx : a.block = r
  · subst hx; exact p a.off a.spot
  · unfold World.frozen?
    simp only [Array.getElem?_setIfInBounds]
    rw [if_neg (fun e => hx e.symm)]
/-- Objects that nothing of is frozen in. -/
def plainE : Obj → Prop
  | .cells _ _ _ => False
  | _ => True
theorem env_setB' {w : World} {r : Nat} {o o1 : Obj} (h : w.heap[r]? = some o1) (h1 : plainE o1) (h2 : plainE o) : envOf { w with heap := w.heap.setIfInBounds r o } = envOf w := by
  refine env_setB h fun off s => ?_
  unfold World.frozen?
  have hlt : r < w.heap.size := by
    rcases Nat.lt_or_ge r w.heap.size with h' | h'
    · exact h'
    · rw [Array.getElem?_eq_none h'] at h; cases h
  simp only [Array.getElem?_setIfInBounds, if_true, h, hlt]
  cases o with
  | cells => exact h2.elim
  | _ => cases o1 with
    | cells => exact h1.elim
    | _ => rfl
theorem hp_setB {w : World} {r : Nat} {o : Obj} (h : (w.heap[r]?).isSome = true) : ∀ x, hpOf { w with heap := w.heap.setIfInBounds r o } x = if x = r then some o else hpOf w x := by
  intro x
  unfold hpOf
  simp only [Array.getElem?_setIfInBounds]
  have hlt : r < w.heap.size := by
    rcases Nat.lt_or_ge r w.heap.size with h' | h'
    · exact h'
    · rw [Array.getElem?_eq_none h'] at h; cases h
  by_cases hx : x = r
  · subst hx; simp [hlt]
  · have : ¬ r = x := fun e => hx e.symm
    simp [hx, this]
theorem setB {A B : HPr} {L : List HPr} {w : World} (H : Holds L w) (i : Nat) {b : Nat} {o' : Obj} (hi : L[i]? = some A) (hA : ∀ m, A m → ∃ o, m b = some o ∧ plainE o) (ho' : plainE o') (hB : ∀ e, B ⟨fun x => if x = b then some o' else none, e⟩) :
    Holds (L.set i B) { w with heap := w.heap.setIfInBounds b o' } := by
  obtain ⟨m0, hs0, hm0⟩ := H.fact i hi
  obtain ⟨o0, ho0, hp0⟩ := hA m0 hm0
  refine Holds.unpick i hi ((H.pick i hi).turn (env_setB' (hs0.s b _ ho0) hp0 ho') fun m hs hm => ⟨⟨fun x => if x = b then some o' else none, envOf w⟩, rfl, hB _, fun x hx _ => ?_, fun x o hx => ?_, fun x o hx => ?_⟩)
  · obtain ⟨o, ho, _⟩ := hA m hm
    have hw := hs.s b _ ho
    rw [hp_setB (by have hw : w.heap[b]? = _ := hw; rw [hw]; rfl)]
    have : ¬ x = b := fun e => by subst e; rw [ho] at hx; cases hx
    rw [if_neg this]
  · obtain ⟨o1, ho, _⟩ := hA m hm
    have hw := hs.s b _ ho
    rw [hp_setB (by have hw : w.heap[b]? = _ := hw; rw [hw]; rfl)]
    by_cases hxb : x = b
    · simp only [hxb, if_true] at hx ⊢; exact hx
    · simp [hxb] at hx
  · by_cases hxb : x = b
    · subst hxb; obtain ⟨o1, ho, _⟩ := hA m hm; rw [ho]; exact .inl rfl
    · simp [hxb] at hx

theorem mget_push : ∀ (es : List (Int × Value)) (x y : Int) (v : Value), mget es x = none → mget (es ++ [(x, v)]) y = if y = x then some v else mget es y
  | [], x, y, v, _ => rfl
  | (k, u) :: es, x, y, v, h => by
    simp only [mget] at h
    split at h
    · cases h
    · rename_i hxk
      simp only [List.cons_append, mget]
      rw [mget_push es x y v h]
      by_cases hy : y = k
      · subst hy
        have : ¬ y = x := fun e => hxk e.symm
        simp [this]
      · simp [hy]
theorem mget_none : ∀ (es : List (Int × Value)) (x : Int), mget es x = none → x ∉ es.map Prod.fst
  | [], x, _ => by simp
  | (k, u) :: es, x, h => by
    simp only [mget] at h
    split at h
    · cases h
    · rename_i hx
      simp only [List.map_cons, List.mem_cons, not_or]
      exact ⟨hx, mget_none es x h⟩
theorem mget_absent : ∀ (es : List (Int × Value)) (x : Int), x ∉ es.map Prod.fst → mget es x = none
  | [], x, _ => rfl
  | (k, u) :: es, x, h => by
    simp only [List.map_cons, List.mem_cons, not_or] at h
    simp only [mget, h.1, if_false]
    exact mget_absent es x h.2
theorem mget_modify : ∀ (es : List (Int × Value)) (p : Nat) (x y : Int) (u v : Value), es[p]? = some (x, u) → (es.map Prod.fst).Nodup → mget (es.modify p fun _ => (x, v)) y = if y = x then some v else mget es y
  | [], p, x, y, u, v, h, _ => by simp at h
  | (k, z) :: es, 0, x, y, u, v, h, _ => by
    simp only [List.getElem?_cons_zero, Option.some.injEq, Prod.mk.injEq] at h
    obtain ⟨rfl, rfl⟩ := h
    simp only [List.modify_zero_cons, mget]
    split <;> rfl
  | (k, z) :: es, p + 1, x, y, u, v, h, hn => by
    simp only [List.getElem?_cons_succ] at h
    simp only [List.map_cons, List.nodup_cons] at hn
    simp only [List.modify_succ_cons, mget]
    rw [mget_modify es p x y u v h hn.2]
    by_cases hy : y = k
    · subst hy
      have : ¬ y = x := fun e => hn.1 (e ▸ List.mem_map.2 ⟨_, List.mem_of_getElem? h, rfl⟩)
      simp [this]
    · simp [hy]
theorem mget_erase : ∀ (es : List (Int × Value)) (p : Nat) (x y : Int) (u : Value), es[p]? = some (x, u) → (es.map Prod.fst).Nodup → mget (es.eraseIdx p) y = if y = x then none else mget es y
  | [], p, x, y, u, h, _ => by simp at h
  | (k, z) :: es, 0, x, y, u, h, hn => by
    simp only [List.getElem?_cons_zero, Option.some.injEq, Prod.mk.injEq] at h
    obtain ⟨rfl, rfl⟩ := h
    simp only [List.map_cons, List.nodup_cons] at hn
    simp only [List.eraseIdx_cons_zero, mget]
    split
    · rename_i hy; subst hy; exact mget_absent es _ hn.1
    · rfl
  | (k, z) :: es, p + 1, x, y, u, h, hn => by
    simp only [List.getElem?_cons_succ] at h
    simp only [List.map_cons, List.nodup_cons] at hn
    simp only [List.eraseIdx_cons_succ, mget]
    rw [mget_erase es p x y u h hn.2]
    by_cases hy : y = k
    · subst hy
      have : ¬ y = x := fun e => hn.1 (e ▸ List.mem_map.2 ⟨_, List.mem_of_getElem? h, rfl⟩)
      simp [this]
    · simp [hy]

theorem kvs_at {es : List MapEntry} {p : Nat} {e : MapEntry} {x : Int} (h : es[p]? = some e) (hk : e.key = vI x) : (kvs es)[p]? = some (x, e.val) := by simp [kvs, h, hk]
theorem kvs_modify : ∀ (es : List MapEntry) (p : Nat) (e : MapEntry) (x : Int) (v : Value), es[p]? = some e → e.key = vI x → kvs (es.modify p fun e => { e with key := vI x, val := v }) = (kvs es).modify p fun _ => (x, v)
  | [], p, e, x, v, h, _ => by simp at h
  | d :: es, 0, e, x, v, h, hk => by simp [kvs]
  | d :: es, p + 1, e, x, v, h, hk => by
    have := kvs_modify es p e x v (by simpa using h) hk
    simp only [List.modify_succ_cons]
    have e1 : ∀ (d : MapEntry) (l : List MapEntry), kvs (d :: l) = (match d.key with | .int _ n => n | _ => 0, d.val) :: kvs l := fun _ _ => rfl
    rw [e1, e1, this, List.modify_succ_cons]
theorem modify_keys : ∀ (es : List (Int × Value)) (p : Nat) (x : Int) (u v : Value), es[p]? = some (x, u) → (es.modify p fun _ => (x, v)).map Prod.fst = es.map Prod.fst
  | [], p, x, u, v, h => by simp at h
  | (k, z) :: es, 0, x, u, v, h => by
    simp only [List.getElem?_cons_zero, Option.some.injEq, Prod.mk.injEq] at h
    simp [h.1]
  | (k, z) :: es, p + 1, x, u, v, h => by
    have := modify_keys es p x u v (by simpa using h)
    simp [this]
theorem kvs_erase (es : List MapEntry) (p : Nat) : kvs (es.eraseIdx p) = (kvs es).eraseIdx p := by
  unfold kvs
  induction es generalizing p with
  | nil => simp
  | cons e es ih => cases p <;> simp [ih]

theorem mupd {C : Ctx} {t k e : Nat} {z : Value} (S : MpT C t k e z) {L : List HPr} {w : World} (H : Holds L w) (i : Nat) {b : Nat} {f : Int → Option Value} {x : Int} {v : Value} {K : Unit → World → Prop} (hi : L[i]? = some (mpF b f))
    (h : ∀ w1, Holds (L.set i (mpF b fun y => if y = x then some v else f y)) w1 → K () w1) : Rn C.P (Instr.mapUpdate t (.map (some b)) (vI x) v) w K := by
  obtain ⟨es, clock, h1, h2, h3, h4⟩ := mpF_heap H i hi
  cases hf : f x with
  | none =>
    have hno : mget (kvs es.toList) x = none := by rw [h4, hf]
    have := findKey_none S.hk h2 hno w (P := C.P)
    refine ⟨(), _, ?_, h _ (setB H i (o' := .map (es.push { key := vI x, val := v, born := clock }) (clock + 1)) hi (fun m ⟨es, ck, hm, _⟩ => ⟨_, hm, trivial⟩) trivial fun _ => ⟨_, _, if_pos rfl, ?_, ?_, ?_⟩)⟩
    · simp [Instr.mapUpdate, run_underlying S.ht, gObj h1, checkKey_int S.hk, this, sObj _ h1]
    · intro e he
      simp only [Array.toList_push, List.mem_append, List.mem_singleton] at he
      rcases he with he | rfl
      · exact h2 e he
      · exact ⟨x, rfl⟩
    · simp only [Array.toList_push, kvs, List.map_append, List.map_cons, List.map_nil]
      have h3' : (List.map Prod.fst (List.map (fun e : MapEntry => ((match e.key with | .int _ n => n | _ => 0 : Int), e.val)) es.toList)).Nodup := h3
      have hm := mget_none _ _ hno
      rw [List.nodup_append]
      refine ⟨h3', by simp, fun a ha c hc => ?_⟩
      simp only [List.mem_singleton] at hc
      subst hc
      intro e; subst e; exact hm ha
    · intro y
      have e1 : kvs (es.push { key := vI x, val := v, born := clock }).toList = kvs es.toList ++ [(x, v)] := by simp [kvs]
      rw [e1, mget_push _ _ _ _ hno, h4]
  | some u =>
    have hso : mget (kvs es.toList) x = some u := by rw [h4, hf]
    obtain ⟨p, e', g1, g2, g3, g4, _⟩ := findKey_some S.hk h2 hso w (P := C.P)
    have hp : p < es.size := by have := (List.getElem?_eq_some_iff.1 g1).1; simpa using this
    have ge : es[p]? = some e' := by rw [← g1]; simp
    have hkv := kvs_at g1 g2
    refine ⟨(), _, ?_, h _ (setB H i (o' := .map (es.modify p fun e => { e with key := vI x, val := v }) clock) hi (fun m ⟨es, ck, hm, _⟩ => ⟨_, hm, trivial⟩) trivial fun _ => ⟨_, _, if_pos rfl, ?_, ?_, ?_⟩)⟩
    · have hs : Instr.sameBits 10000 (vI x) (vI x) = true := by simp [Instr.sameBits]
      simp [Instr.mapUpdate, run_underlying S.ht, gObj h1, checkKey_int S.hk, g4, Instr.keyThatStays, ge, g2, hs, sObj _ h1]
    · intro e he
      simp only [Array.toList_modify] at he
      obtain ⟨q, hq⟩ := List.mem_iff_getElem?.1 he
      rw [List.getElem?_modify] at hq
      cases hes : es.toList[q]? with
      | none => rw [hes] at hq; simp at hq
      | some d =>
        rw [hes] at hq
        by_cases hpq : p = q
        · subst hpq
          simp at hq
          exact ⟨x, by rw [← hq]⟩
        · simp [hpq] at hq
          rw [← hq]
          exact h2 _ (List.mem_of_getElem? hes)
    · simp only [Array.toList_modify]
      rw [kvs_modify _ _ _ _ _ g1 g2, modify_keys _ _ _ _ _ hkv]
      exact h3
    · intro y
      show mget (kvs (es.modify p _).toList) y = _
      rw [Array.toList_modify, kvs_modify _ _ _ _ _ g1 g2, mget_modify _ _ _ _ _ _ hkv h3, h4]
theorem mdel {C : Ctx} {t k e : Nat} {z : Value} (S : MpT C t k e z) {tk ty : Nat} {L : List HPr} {w : World} (H : Holds L w) (i : Nat) {b : Nat} {f : Int → Option Value} {x : Int} {K : Value → World → Prop} (hi : L[i]? = some (mpF b f))
    (h : ∀ w1, Holds (L.set i (mpF b fun y => if y = x then none else f y)) w1 → K (.tuple #[]) w1) : Rn C.P (Builtin.delete_ #[t, tk] ty #[.map (some b), vI x]) w K := by
  obtain ⟨es, clock, h1, h2, h3, h4⟩ := mpF_heap H i hi
  cases hf : f x with
  | none =>
    have hno : mget (kvs es.toList) x = none := by rw [h4, hf]
    have := findKey_none S.hk h2 hno w (P := C.P)
    refine ⟨_, _, ?_, h _ (setB H i (o' := .map es clock) hi (fun m ⟨es, ck, hm, _⟩ => ⟨_, hm, trivial⟩) trivial fun _ => ⟨_, _, if_pos rfl, h2, h3, ?_⟩)⟩
    · simp [Builtin.delete_, run_underlying S.ht, gObj h1, checkKey_int S.hk, this, sObj _ h1]
    · intro y
      rw [h4]
      by_cases hy : y = x
      · subst hy; simp [hf]
      · simp [hy]
  | some u =>
    have hso : mget (kvs es.toList) x = some u := by rw [h4, hf]
    obtain ⟨p, e', g1, g2, g3, g4, _⟩ := findKey_some S.hk h2 hso w (P := C.P)
    have hp : p < es.size := by have := (List.getElem?_eq_some_iff.1 g1).1; simpa using this
    have hkv := kvs_at g1 g2
    have e1 : (es.eraseIdxIfInBounds p).toList = es.toList.eraseIdx p := by simp
    refine ⟨_, _, ?_, h _ (setB H i (o' := .map (es.eraseIdxIfInBounds p) clock) hi (fun m ⟨es, ck, hm, _⟩ => ⟨_, hm, trivial⟩) trivial fun _ => ⟨_, _, if_pos rfl, ?_, ?_, ?_⟩)⟩
    · simp [Builtin.delete_, run_underlying S.ht, gObj h1, checkKey_int S.hk, g4, sObj _ h1]
    · intro e he
      rw [e1] at he
      exact h2 e (List.mem_of_mem_eraseIdx he)
    · rw [e1, kvs_erase]
      have : List.Sublist (((kvs es.toList).eraseIdx p).map Prod.fst) ((kvs es.toList).map Prod.fst) := (List.eraseIdx_sublist _ _).map _
      exact this.nodup h3
    · intro y
      rw [e1, kvs_erase, mget_erase _ _ _ _ _ hkv h3, h4]
theorem mclr {C : Ctx} {t k e : Nat} {z : Value} (S : MpT C t k e z) {ty : Nat} {L : List HPr} {w : World} (H : Holds L w) (i : Nat) {b : Nat} {f : Int → Option Value} {K : Value → World → Prop} (hi : L[i]? = some (mpF b f))
    (h : ∀ w1, Holds (L.set i (mpF b fun _ => none)) w1 → K (.tuple #[]) w1) : Rn C.P (Builtin.clear_ #[t] ty #[.map (some b)]) w K := by
  obtain ⟨es, clock, h1, h2, h3, h4⟩ := mpF_heap H i hi
  refine ⟨_, _, ?_, h _ (setB H i (o' := .map #[] clock) hi (fun m ⟨es, ck, hm, _⟩ => ⟨_, hm, trivial⟩) trivial fun _ => ⟨#[], clock, by simp, fun _ h => by simp at h, by simp [kvs], fun _ => rfl⟩)⟩
  simp [Builtin.clear_, run_underlying S.ht, gObj h1, sObj _ h1]
end Go.Sv
/- Small helps for contracts: parts that hide what they hold, rows of records. -/
namespace Go.Sv
open Go

theorem gif_f {b : Bool} {X Y : Prop} (h : b = false) (y : Y) : gif b X Y := by subst h; exact y
theorem gif_t {b : Bool} {X Y : Prop} (h : b = true) (x : X) : gif b X Y := by subst h; exact x
theorem ex_open {α : Type} {P : α → HPr} {L : List HPr} {w : World} (H : Holds ((fun m => ∃ x, P x m) :: L) w) : ∃ x, Holds (P x :: L) w := by
  obtain ⟨F, ⟨x, hx⟩, hL⟩ := H
  exact ⟨x, F, hx, hL⟩
theorem part_open {A : HPr} {Ls L : List HPr} {w : World} (hA : ∀ m, A m → SatL Ls m) (H : Holds (A :: L) w) : Holds (Ls ++ L) w := star_open (H.imp hA)
theorem part_shut {A : HPr} {Ls L : List HPr} {w : World} (hA : ∀ m, SatL Ls m → A m) (H : Holds (Ls ++ L) w) : Holds (A :: L) w := (star_shut H).imp hA
theorem SatL_shut {A : HPr} {Ls L : List HPr} (hA : ∀ m, SatL Ls m → A m) {m : Hp} (h : SatL (Ls ++ L) m) : SatL (A :: L) m := by
  obtain ⟨F, h1, h2⟩ := SatL_app.1 h
  exact ⟨F, hA _ h1, h2⟩
theorem part_shut1 {A B : HPr} {Ls L : List HPr} {w : World} (hA : ∀ m, SatL Ls m → A m) (H : Holds (B :: (Ls ++ L)) w) : Holds (B :: A :: L) w := SatL_cons (fun _ h => SatL_shut hA h) H
theorem part_shut2 {A B C : HPr} {Ls L : List HPr} {w : World} (hA : ∀ m, SatL Ls m → A m) (H : Holds (B :: C :: (Ls ++ L)) w) : Holds (B :: C :: A :: L) w := SatL_cons (fun _ h => SatL_cons (fun _ h => SatL_shut hA h) h) H
/-- The i-th part is said in other words. -/
theorem Holds.cast {L L' : List HPr} {w : World} (H : Holds L w) (h : L = L') : Holds L' w := h ▸ H
theorem Holds.app {A B : List HPr} {w : World} (H : Holds (A ++ B) w) : Holds (B ++ A) w := by
  obtain ⟨F, h1, h2⟩ := SatL_app.1 H
  refine SatL_app.2 ⟨fun b => !(F b), h2, ?_⟩
  have : res (hpOf w) (fun b => !(!(F b))) = res (hpOf w) F := res_congr (fun b => by simp) (fun _ _ => rfl)
  rw [this]; exact h1

theorem flat_len {α : Type} {f : α → List Value} {n : Nat} : ∀ (xs : List α), (∀ x ∈ xs, (f x).length = n) → (xs.flatMap f).length = xs.length * n
  | [], _ => by simp
  | x :: xs, h => by
    rw [List.flatMap_cons, List.length_append, h x (List.mem_cons_self ..), flat_len xs fun y hy => h y (List.mem_cons_of_mem _ hy), List.length_cons, Nat.add_mul, Nat.one_mul, Nat.add_comm]
theorem flat_get {α : Type} {f : α → List Value} {n : Nat} : ∀ (xs : List α) (i j : Nat) (x : α), (∀ x ∈ xs, (f x).length = n) → xs[i]? = some x → j < n → (xs.flatMap f)[i * n + j]? = (f x)[j]?
  | [], i, j, x, _, hx, _ => by simp at hx
  | y :: xs, 0, j, x, h, hx, hj => by
    simp only [List.getElem?_cons_zero, Option.some.injEq] at hx
    subst hx
    rw [List.flatMap_cons, List.getElem?_append_left (by rw [h y (List.mem_cons_self ..)]; omega)]
    congr 1; omega
  | y :: xs, i + 1, j, x, h, hx, hj => by
    have hy := h y (List.mem_cons_self ..)
    have e : (i + 1) * n + j = n + (i * n + j) := by rw [Nat.add_mul, Nat.one_mul]; omega
    rw [List.flatMap_cons, e, List.getElem?_append_right (by omega), hy, show n + (i * n + j) - n = i * n + j by omega]
    exact flat_get xs i j x (fun z hz => h z (List.mem_cons_of_mem _ hz)) (by simpa using hx) hj
theorem setL_nil (cs : List Value) : ∀ (vs : List Value) (o : Nat), cs = [] → setL cs o vs = []
  | [], _, h => h
  | v :: vs, o, h => by subst h; simp only [setL, List.set_nil]; exact setL_nil [] vs _ rfl
theorem setL_right : ∀ (vs aas bs : List Value) (o : Nat), setL (aas ++ bs) (aas.length + o) vs = aas ++ setL bs o vs
  | [], _, _, _ => rfl
  | v :: vs, aas, bs, o => by
    simp only [setL]
    rw [List.set_append, if_neg (by omega), show aas.length + o - aas.length = o by omega, Nat.add_assoc]
    exact setL_right vs aas (bs.set o v) (o + 1)
theorem setL_left : ∀ (vs aas bs : List Value) (o : Nat), o + vs.length ≤ aas.length → setL (aas ++ bs) o vs = setL aas o vs ++ bs
  | [], _, _, _, _ => rfl
  | v :: vs, aas, bs, o, h => by
    simp only [List.length_cons] at h
    simp only [setL]
    rw [List.set_append, if_pos (by omega)]
    exact setL_left vs (aas.set o v) bs (o + 1) (by rw [List.length_set]; omega)
theorem flat_set {α : Type} {f : α → List Value} {n : Nat} : ∀ (xs : List α) (i j : Nat) (x x' : α) (us : List Value), (∀ x ∈ xs, (f x).length = n) → xs[i]? = some x → j + us.length ≤ n → setL (f x) j us = f x' → setL (xs.flatMap f) (i * n + j) us = (xs.set i x').flatMap f
  | [], i, j, x, x', us, _, hx, _, _ => by simp at hx
  | y :: xs, 0, j, x, x', us, h, hx, hj, he => by
    simp only [List.getElem?_cons_zero, Option.some.injEq] at hx
    subst hx
    have hy := h y (List.mem_cons_self ..)
    rw [List.flatMap_cons, Nat.zero_mul, Nat.zero_add, setL_left _ _ _ _ (by omega), he]
    simp
  | y :: xs, i + 1, j, x, x', us, h, hx, hj, he => by
    have hy := h y (List.mem_cons_self ..)
    have e : (i + 1) * n + j = (f y).length + (i * n + j) := by rw [Nat.add_mul, Nat.one_mul, hy]; omega
    rw [List.flatMap_cons, e, setL_right, flat_set xs i j x x' us (fun z hz => h z (List.mem_cons_of_mem _ hz)) (by simpa using hx) hj he]
    simp
theorem map_set {α : Type} (f : α → Value) (xs : List α) (i : Nat) (x : α) : setL (xs.map f) i [f x] = (xs.set i x).map f := by simp [setL, List.map_set]
theorem map_get {α : Type} (f : α → Value) {xs : List α} {i : Nat} {x : α} (h : xs[i]? = some x) : (xs.map f)[i]? = some (f x) := by simp [h]
theorem map_oneI (xs : List Int) : (xs.map vI).all isOne = true := by simp [isOne]
theorem map_oneB (xs : List Bool) : (xs.map vB).all isOne = true := by simp [isOne]

/-- A list of one's owns, aas a slice. -/
abbrev islP (T : Nat) (a : Option Addr) (c : Nat) (xs : List Int) : HPr := osl T 1 a xs.length c (xs.map vI)
theorem isl_take {T sz : Nat} {a : Option Addr} {l c : Nat} {vs : List Value} (n : Nat) (hn : n ≤ l) {m : Hp} (h : osl T sz a l c vs m) : osl T sz a n c (vs.take (n * sz)) m := by
  obtain ⟨h1, h2, h3, h4⟩ := h
  refine ⟨?_, by omega, ?_, ?_⟩
  · rw [List.length_take, h1]; exact Nat.min_eq_left (Nat.mul_le_mul_right _ hn)
  · simp only [List.all_eq_true] at h3 ⊢
    intro x hx; exact h3 x (List.mem_of_mem_take hx)
  · rcases h4 with h4 | ⟨b, pre, suf, e1, e2, e3⟩
    · exact .inl h4
    · refine .inr ⟨b, pre, vs.drop (n * sz) ++ suf, e1, ?_, ?_⟩
      · rw [List.length_append, List.length_drop, h1, ← Nat.sub_mul]
        have : (c - n) * sz = (l - n) * sz + (c - l) * sz := by rw [← Nat.add_mul]; congr 1; omega
        omega
      · rw [e3]; congr 2
        rw [List.append_assoc, List.append_assoc, ← List.append_assoc (vs.take _), List.take_append_drop]
theorem isl_drop {T sz : Nat} {b o : Nat} {l c : Nat} {vs : List Value} (n : Nat) (hn : n ≤ l) {m : Hp} (h : osl T sz (aP b o) l c vs m) : osl T sz (aP b (o + n * sz)) (l - n) (c - n) (vs.drop (n * sz)) m := by
  obtain ⟨h1, h2, h3, h4⟩ := h
  have hle : n * sz ≤ vs.length := by rw [h1]; exact Nat.mul_le_mul_right _ hn
  refine ⟨?_, by omega, ?_, ?_⟩
  · rw [List.length_drop, h1, Nat.sub_mul]
  · simp only [List.all_eq_true] at h3 ⊢
    intro x hx; exact h3 x (List.mem_of_mem_drop hx)
  · rcases h4 with ⟨h4, _⟩ | ⟨b', pre, suf, e1, e2, e3⟩
    · cases h4
    · have e1' : b = b' ∧ o = pre.length := by
        simp only [aP, Option.some.injEq, Addr.mk.injEq] at e1; exact ⟨e1.1, e1.2.1⟩
      obtain ⟨rfl, rfl⟩ := e1'
      refine .inr ⟨b, pre ++ vs.take (n * sz), suf, ?_, ?_, ?_⟩
      · rw [List.length_append, List.length_take, Nat.min_eq_left hle]
      · rw [show c - n - (l - n) = c - l by omega]; exact e2
      · rw [e3]; congr 2
        rw [List.append_assoc, List.append_assoc, List.append_assoc, ← List.append_assoc (vs.take _), List.take_append_drop]
theorem isl_cut {T sz : Nat} {b o : Nat} {l c : Nat} {vs : List Value} (n : Nat) (hn : n ≤ l) {m : Hp} (h : osl T sz (aP b o) l c vs m) : osl T sz (slOff (aP b o) c n sz) (l - n) (c - n) (vs.drop (n * sz)) m := by
  by_cases hc : c = n
  · obtain ⟨h1, h2, h3, h4⟩ := h
    have hl : l = n := by omega
    subst hc; subst hl
    have hd : vs.drop (l * sz) = [] := List.drop_eq_nil_of_le (by omega)
    rw [hd]
    unfold slOff
    rw [if_pos rfl]
    rcases h4 with ⟨h4, _⟩ | ⟨b', pre, suf, e1, e2, e3⟩
    · cases h4
    · exact ⟨by simp, by omega, rfl, .inr ⟨b', pre, vs ++ suf, e1, by simp, by rw [e3]; congr 2; simp [List.append_assoc]⟩⟩
  · have := isl_drop n hn h
    unfold slOff
    have e : (aP b o).map (fun x => x.add (n * sz)) = aP b (o + n * sz) := by simp [aP, Addr.add]
    rw [if_neg hc, e]
    exact this
end Go.Sv
/- The trail: what its functions do, said of a plain record. -/
namespace Go.Sv
open Go Go.Proofs
set_option maxRecDepth 100000

theorem slInt : SlT cx T.s_int T.int 1 8 [vI 0] := SlT.mk' rfl rfl rfl rfl rfl
theorem slCell : SlT cx T.s_trail_cell T.trail_cell 5 40 [vI 0, vI 0, vI 0, vI 0, vB false] := SlT.mk' rfl rfl rfl rfl rfl
theorem slBool : SlT cx T.s_bool T.bool 1 1 [vB false] := SlT.mk' rfl rfl rfl rfl rfl

/-! ### literals -/
def right (l : Int) (n : Nat) : Bool := l != 0 && decide (l.natAbs ≤ n)
theorem k_Right {L : List HPr} {w : World} (H : Holds L w) {l : Int} {n : Nat} (hn : n ≤ 100000) : Calls cx.P F.lit_Right #[vI l, vI (n : Int)] w (Ret fun v w' => v = vB (right l n) ∧ Holds L w') := by
  apply vc_lit_Right
  rw [iMax_eq, iMin_eq]
  have e : min (max (n : Int) 0) 100000 = (n : Int) := by omega
  rw [e]
  refine gif_i (fun h => gif_i (fun h2 => ⟨by unfold InI; omega, ?_, H⟩) (fun h2 => ⟨?_, H⟩)) (fun h => ⟨?_, H⟩)
  · simp only [decide_eq_true_eq] at h2
    unfold right; rw [h]; simp only [Bool.true_and, Value.bool.injEq, decide_eq_decide]; omega
  · simp only [decide_eq_false_iff_not] at h2
    unfold right; rw [h]; simp only [Bool.true_and, Value.bool.injEq]
    exact (decide_eq_false (by omega)).symm
  · unfold right; rw [h]; rfl
theorem k_Var {L : List HPr} {w : World} (H : Holds L w) {l : Int} (hl : -9223372036854775807 ≤ l) (hl2 : l ≤ 9223372036854775807) : Calls cx.P F.lit_Var #[vI l] w (Ret fun v w' => v = vI (l.natAbs : Int) ∧ Holds L w') := by
  apply vc_lit_Var
  rw [iMax_eq]
  exact ⟨by unfold InI; omega, by congr 1; omega, H⟩
def litIx (l : Int) : Int := if l < 0 then 2 * (-l - 1) + 1 else 2 * (l - 1)
theorem k_Index {L : List HPr} {w : World} (H : Holds L w) {l : Int} (hl : l.natAbs ≤ 1000000000) : Calls cx.P F.lit_Index #[vI l] w (Ret fun v w' => v = vI (litIx l) ∧ Holds L w') := by
  apply vc_lit_Index
  refine gif_i (fun h => ?_) (fun h => ?_)
  · simp only [decide_eq_true_eq] at h
    exact ⟨by unfold InI; omega, by unfold InI; omega, by unfold InI; omega, by unfold InI; omega, by unfold litIx; rw [if_pos h]; congr 1; omega, H⟩
  · simp only [decide_eq_false_iff_not] at h
    exact ⟨by unfold InI; omega, by unfold InI; omega, by unfold litIx; rw [if_neg h], H⟩

/-! ### the record -/
structure Cell where
  value : Int
  level : Int
  reason : Int
  place : Int
  phase : Bool
def Cell.vs (c : Cell) : List Value := [vI c.value, vI c.level, vI c.reason, vI c.place, vB c.phase]
def Cell.zero : Cell := ⟨0, 0, 0, 0, false⟩
structure Tr where
  vars : List Cell
  l : List Int
  starts : List Int
def trL (t : Nat) (S : Tr) (a1 : Option Addr) (c1 : Nat) (a2 : Option Addr) (c2 : Nat) (a3 : Option Addr) (c3 : Nat) : List HPr :=
  [blk t [vS a1 S.vars.length c1, vS a2 S.l.length c2, vS a3 S.starts.length c3] T.trail_Trail,
   osl T.trail_cell 5 a1 S.vars.length c1 (S.vars.flatMap Cell.vs), osl T.int 1 a2 S.l.length c2 (S.l.map vI), osl T.int 1 a3 S.starts.length c3 (S.starts.map vI)]
def TrR (t : Nat) (S : Tr) : HPr := fun m => ∃ a1 c1 a2 c2 a3 c3, SatL (trL t S a1 c1 a2 c2 a3 c3) m
theorem TrR.op {t : Nat} {S : Tr} {L : List HPr} {w : World} (H : Holds (TrR t S :: L) w) : ∃ a1 c1 a2 c2 a3 c3, Holds (trL t S a1 c1 a2 c2 a3 c3 ++ L) w := by
  obtain ⟨F, ⟨a1, c1, a2, c2, a3, c3, h⟩, hL⟩ := H
  exact ⟨a1, c1, a2, c2, a3, c3, SatL_app.2 ⟨F, h, hL⟩⟩
theorem TrR.sh {t : Nat} {S : Tr} {L : List HPr} {w : World} {a1 : Option Addr} {c1 : Nat} {a2 : Option Addr} {c2 : Nat} {a3 : Option Addr} {c3 : Nat} (H : Holds (trL t S a1 c1 a2 c2 a3 c3 ++ L) w) : Holds (TrR t S :: L) w :=
  part_shut (fun _ h => ⟨a1, c1, a2, c2, a3, c3, h⟩) H

theorem k_trail_New {L : List HPr} {w : World} (H : Holds L w) {n : Nat} (hn : n ≤ 100000) :
    Calls cx.P F.trail_New #[vI (n : Int)] w (Ret fun v w' => ∃ t, v = vP t 0 ∧ Holds (TrR t ⟨List.replicate n Cell.zero, [], []⟩ :: L) w') := by
  apply vc_trail_New
  refine omk slCell H (by omega) (Int.le_refl _) (by omega) (by omega) fun a w1 H => ⟨_, _, _, rfl, al H fun b w2 H => ⟨b, rfl, ?_⟩⟩
  simp only [Int.toNat_natCast] at H ⊢
  have H := osl_nil T.int 1 (osl_nil T.int 1 H)
  have H := H.pick 2 rfl
  have H := H.pick 3 rfl
  have H := H.swap
  refine TrR.sh (a1 := a) (c1 := n) (a2 := none) (c2 := 0) (a3 := none) (c3 := 0) ?_
  refine H.cast ?_
  simp [trL, repL, List.flatMap_replicate, Cell.vs, Cell.zero]

/-! ### what one looks up -/
def Tr.at (S : Tr) (l : Int) : Option Cell := if l = 0 then none else S.vars[l.natAbs - 1]?
theorem Tr.at_right {S : Tr} {l : Int} : (S.at l).isSome = right l S.vars.length := by
  unfold Tr.at right
  by_cases h : l = 0
  · simp [h]
  · simp only [h, if_false]
    have : (l != 0) = true := by simpa using h
    rw [this, Bool.true_and, Bool.eq_iff_iff, Option.isSome_iff_exists]
    simp only [List.getElem?_eq_some_iff, decide_eq_true_eq]
    exact ⟨fun ⟨_, h, _⟩ => by omega, fun h => ⟨_, by omega, rfl⟩⟩
/-- Where a variable's cell lies. -/
def cellP (a : Option Addr) (l : Int) : Option Addr := a.map fun x => ⟨x.block, x.off + (l.natAbs - 1) * 5, x.spot⟩

theorem k_cell {L : List HPr} {w : World} (H : Holds L w) {t : Nat} {S : Tr} {a1 : Option Addr} {c1 : Nat} {x2 x3 : Value} (i j : Nat) (hi : L[i]? = some (blk t [vS a1 S.vars.length c1, x2, x3] T.trail_Trail)) (hj : L[j]? = some (osl T.trail_cell 5 a1 S.vars.length c1 (S.vars.flatMap Cell.vs)))
    (hn : S.vars.length ≤ 100000) (l : Int) : Calls cx.P F.trail_Trail_cell #[vP t 0, vI l] w (Ret fun v w' => v = (.pointer (if (S.at l).isSome then cellP a1 l else none)) ∧ Holds L w') := by
  apply vc_trail_Trail_cell
  refine ⟨_, _, _, cel H i hi rfl, Calls.ret (k_Right H hn) ?_⟩
  rintro _ w1 ⟨rfl, H⟩
  refine ⟨_, rfl, ?_⟩
  rw [Tr.at_right]
  cases hr : right l S.vars.length with
  | false => exact ⟨by simp, H⟩
  | true =>
    have hr' : l ≠ 0 ∧ l.natAbs ≤ S.vars.length := by unfold right at hr; simpa using hr
    refine dr H fun w2 H => ⟨_, _, _, cel H i hi rfl, Calls.ret (k_Var H (by omega) (by omega)) ?_⟩
    rintro _ w3 ⟨rfl, H⟩
    refine ⟨_, rfl, cel H i hi rfl, by unfold InI; omega, ⟨by omega, by omega⟩, opm H j hj (by omega) fun b o e => ⟨?_, H⟩⟩
    subst e
    simp only [if_true, cellP, Option.map_some]
    congr 3; omega
theorem osl_ptr {L : List HPr} {w : World} (H : Holds L w) (i : Nat) {T sz : Nat} {a : Option Addr} {l c : Nat} {vs : List Value} (hi : L[i]? = some (osl T sz a l c vs)) (hl : 0 < l) : ∃ b o, a = aP b o := by
  have := opm (f := fun b o => a = aP b o) H i hi hl fun b o e => e
  obtain ⟨b, o, e, _⟩ := pm_some this
  exact ⟨b, o, e⟩
theorem Cell.vs_len (c : Cell) : c.vs.length = 5 := rfl
theorem at_some {S : Tr} {l : Int} {c : Cell} (h : S.at l = some c) : l ≠ 0 ∧ S.vars[l.natAbs - 1]? = some c ∧ l.natAbs ≤ S.vars.length ∧ 0 < S.vars.length := by
  unfold Tr.at at h
  split at h
  · cases h
  · rename_i h0
    have := (List.getElem?_eq_some_iff.1 h).1
    exact ⟨h0, h, by omega, by omega⟩
theorem cell_get {S : Tr} {l : Int} {c : Cell} (h : S.at l = some c) (j : Nat) (hj : j < 5) : (S.vars.flatMap Cell.vs)[(l.natAbs - 1) * 5 + j]? = c.vs[j]? :=
  flat_get _ _ _ _ (fun x _ => x.vs_len) (at_some h).2.1 hj
theorem cell_cel {L : List HPr} {w : World} (H : Holds L w) {S : Tr} {b o c1 : Nat} (j : Nat) (hj : L[j]? = some (osl T.trail_cell 5 (aP b o) S.vars.length c1 (S.vars.flatMap Cell.vs))) {l : Int} {c : Cell} (h : S.at l = some c) (k : Nat) (hk : k < 5) {v : Value} (hv : c.vs[k]? = some v) : Cel w b (o + (l.natAbs - 1) * 5 + k) v := by
  rw [Nat.add_assoc]; exact oc H j hj (by rw [cell_get h k hk]; exact hv)

theorem k_on {L : List HPr} {w : World} (H : Holds L w) {t : Nat} {S : Tr} {a1 : Option Addr} {c1 : Nat} {x2 x3 : Value} (i j : Nat) (hi : L[i]? = some (blk t [vS a1 S.vars.length c1, x2, x3] T.trail_Trail)) (hj : L[j]? = some (osl T.trail_cell 5 a1 S.vars.length c1 (S.vars.flatMap Cell.vs)))
    (hn : S.vars.length ≤ 100000) (l : Int) : Calls cx.P F.trail_Trail_on #[vP t 0, vI l] w (Ret fun v w' => v = (.pointer (match S.at l with | some c => if c.value = 0 then none else cellP a1 l | none => none)) ∧ Holds L w') := by
  apply vc_trail_Trail_on
  refine Calls.ret (k_cell H i j hi hj hn l) ?_
  rintro _ w1 ⟨rfl, H⟩
  refine ⟨_, rfl, ?_⟩
  cases hc : S.at l with
  | none => exact ⟨rfl, H⟩
  | some c =>
    obtain ⟨b, o, rfl⟩ := osl_ptr H j hj (at_some hc).2.2.2
    refine ⟨_, cell_cel H j hj hc 0 (by omega) rfl, ?_⟩
    refine gif_i (fun h => ⟨?_, H⟩) (fun h => ⟨?_, H⟩)
    · have : c.value = 0 := by simpa using h
      simp [this]
    · have : ¬ c.value = 0 := by simpa using h
      simp [this]

def Tr.value (S : Tr) (l : Int) : Int := match S.at l with
  | some c => if l < 0 then -c.value else c.value
  | none => 0
def Tr.levelOf (S : Tr) (l : Int) : Int := match S.at l with
  | some c => if c.value = 0 then -1 else c.level
  | none => -1
def Tr.reason (S : Tr) (l : Int) : Int := match S.at l with
  | some c => if c.value = 0 then -1 else c.reason
  | none => -1
def Tr.phase (S : Tr) (v : Int) : Bool := match S.at v with
  | some c => decide (0 < v) && c.phase
  | none => false
/-- What of a trail keeps the machine's numbers small. -/
structure Tr.Sm (S : Tr) : Prop where
  n : S.vars.length ≤ 100000
  v : ∀ c ∈ S.vars, c.value = -1 ∨ c.value = 0 ∨ c.value = 1

theorem k_Value {L : List HPr} {w : World} {t : Nat} {S : Tr} (H : Holds (TrR t S :: L) w) (hs : S.Sm) (l : Int) :
    Calls cx.P F.trail_Trail_Value #[vP t 0, vI l] w (Ret fun v w' => v = vI (S.value l) ∧ Holds (TrR t S :: L) w') := by
  apply vc_trail_Trail_Value
  obtain ⟨a1, c1, a2, c2, a3, c3, H⟩ := TrR.op H
  refine Calls.ret (k_on H 0 1 rfl rfl hs.n l) ?_
  rintro _ w1 ⟨rfl, H⟩
  refine ⟨_, rfl, ?_⟩
  unfold Tr.value
  cases hc : S.at l with
  | none => exact ⟨rfl, TrR.sh H⟩
  | some c =>
    have hb := hs.v c (List.mem_of_getElem? (at_some hc).2.1)
    obtain ⟨b, o, rfl⟩ := osl_ptr H 1 rfl (at_some hc).2.2.2
    by_cases h0 : c.value = 0
    · simp only [h0, if_true]
      exact ⟨by split <;> rfl, TrR.sh H⟩
    · simp only [h0, if_false]
      refine gif_f rfl (gif_i (fun h => ?_) (fun h => ?_))
      · have h' : l < 0 := by simpa using h
        exact ⟨_, cell_cel H 1 rfl hc 0 (by omega) rfl, by unfold InI; omega, by rw [if_pos h', Int.zero_sub], TrR.sh H⟩
      · have h' : ¬ l < 0 := by simpa using h
        exact ⟨_, cell_cel H 1 rfl hc 0 (by omega) rfl, by rw [if_neg h'], TrR.sh H⟩
theorem k_LevelOf {L : List HPr} {w : World} {t : Nat} {S : Tr} (H : Holds (TrR t S :: L) w) (hs : S.Sm) (l : Int) :
    Calls cx.P F.trail_Trail_LevelOf #[vP t 0, vI l] w (Ret fun v w' => v = vI (S.levelOf l) ∧ Holds (TrR t S :: L) w') := by
  apply vc_trail_Trail_LevelOf
  obtain ⟨a1, c1, a2, c2, a3, c3, H⟩ := TrR.op H
  refine Calls.ret (k_on H 0 1 rfl rfl hs.n l) ?_
  rintro _ w1 ⟨rfl, H⟩
  refine ⟨_, rfl, ?_⟩
  unfold Tr.levelOf
  cases hc : S.at l with
  | none => exact ⟨rfl, TrR.sh H⟩
  | some c =>
    obtain ⟨b, o, rfl⟩ := osl_ptr H 1 rfl (at_some hc).2.2.2
    by_cases h0 : c.value = 0
    · simp only [h0, if_true]
      exact ⟨trivial, TrR.sh H⟩
    · simp only [h0, if_false]
      exact gif_t rfl ⟨_, cell_cel H 1 rfl hc 1 (by omega) rfl, rfl, TrR.sh H⟩
theorem k_Reason {L : List HPr} {w : World} {t : Nat} {S : Tr} (H : Holds (TrR t S :: L) w) (hs : S.Sm) (l : Int) :
    Calls cx.P F.trail_Trail_Reason #[vP t 0, vI l] w (Ret fun v w' => v = vI (S.reason l) ∧ Holds (TrR t S :: L) w') := by
  apply vc_trail_Trail_Reason
  obtain ⟨a1, c1, a2, c2, a3, c3, H⟩ := TrR.op H
  refine Calls.ret (k_on H 0 1 rfl rfl hs.n l) ?_
  rintro _ w1 ⟨rfl, H⟩
  refine ⟨_, rfl, ?_⟩
  unfold Tr.reason
  cases hc : S.at l with
  | none => exact ⟨rfl, TrR.sh H⟩
  | some c =>
    obtain ⟨b, o, rfl⟩ := osl_ptr H 1 rfl (at_some hc).2.2.2
    by_cases h0 : c.value = 0
    · simp only [h0, if_true]
      exact ⟨trivial, TrR.sh H⟩
    · simp only [h0, if_false]
      exact gif_t rfl ⟨_, cell_cel H 1 rfl hc 2 (by omega) rfl, rfl, TrR.sh H⟩
theorem k_Phase {L : List HPr} {w : World} {t : Nat} {S : Tr} (H : Holds (TrR t S :: L) w) (hs : S.Sm) (v : Int) :
    Calls cx.P F.trail_Trail_Phase #[vP t 0, vI v] w (Ret fun r w' => r = vB (S.phase v) ∧ Holds (TrR t S :: L) w') := by
  apply vc_trail_Trail_Phase
  obtain ⟨a1, c1, a2, c2, a3, c3, H⟩ := TrR.op H
  refine Calls.ret (k_cell H 0 1 rfl rfl hs.n v) ?_
  rintro _ w1 ⟨rfl, H⟩
  refine ⟨_, rfl, ?_⟩
  unfold Tr.phase
  cases hc : S.at v with
  | none => exact ⟨rfl, TrR.sh H⟩
  | some c =>
    obtain ⟨b, o, rfl⟩ := osl_ptr H 1 rfl (at_some hc).2.2.2
    refine gif_t rfl (gif_i (fun h => ?_) (fun h => ?_))
    · have h' : v > 0 := by simpa using h
      exact ⟨_, cell_cel H 1 rfl hc 4 (by omega) rfl, by simp [h'], TrR.sh H⟩
    · have h' : ¬ v > 0 := by simpa using h
      have h'' : decide (0 < v) = false := decide_eq_false h'
      exact ⟨by simp only [h'', Bool.false_and], TrR.sh H⟩
theorem k_Level {L : List HPr} {w : World} {t : Nat} {S : Tr} (H : Holds (TrR t S :: L) w) :
    Calls cx.P F.trail_Trail_Level #[vP t 0] w (Ret fun v w' => v = vI (S.starts.length : Int) ∧ Holds (TrR t S :: L) w') := by
  apply vc_trail_Trail_Level
  obtain ⟨a1, c1, a2, c2, a3, c3, H⟩ := TrR.op H
  exact ⟨_, _, _, cel H 0 rfl rfl, rfl, TrR.sh H⟩
theorem k_TLen {L : List HPr} {w : World} {t : Nat} {S : Tr} (H : Holds (TrR t S :: L) w) :
    Calls cx.P F.trail_Trail_Len #[vP t 0] w (Ret fun v w' => v = vI (S.l.length : Int) ∧ Holds (TrR t S :: L) w') := by
  apply vc_trail_Trail_Len
  obtain ⟨a1, c1, a2, c2, a3, c3, H⟩ := TrR.op H
  exact ⟨_, _, _, cel H 0 rfl rfl, rfl, TrR.sh H⟩
theorem k_Full {L : List HPr} {w : World} {t : Nat} {S : Tr} (H : Holds (TrR t S :: L) w) :
    Calls cx.P F.trail_Trail_Full #[vP t 0] w (Ret fun v w' => v = vB (decide (S.l.length = S.vars.length)) ∧ Holds (TrR t S :: L) w') := by
  apply vc_trail_Trail_Full
  obtain ⟨a1, c1, a2, c2, a3, c3, H⟩ := TrR.op H
  refine dr H fun w1 H => ⟨_, _, _, cel H 0 rfl rfl, _, _, _, cel H 0 rfl rfl, ?_, TrR.sh H⟩
  simp only [Value.bool.injEq]
  rw [Bool.eq_iff_iff, beq_iff_eq, decide_eq_true_eq]; omega
/-- The literal at a place; 0 where there is none. -/
def Tr.lAt (S : Tr) (i : Int) : Int := if i < 0 then 0 else (S.l[i.toNat]?).getD 0
theorem k_TAt {L : List HPr} {w : World} {t : Nat} {S : Tr} (H : Holds (TrR t S :: L) w) (i : Int) :
    Calls cx.P F.trail_Trail_At #[vP t 0, vI i] w (Ret fun v w' => v = vI (S.lAt i) ∧ Holds (TrR t S :: L) w') := by
  apply vc_trail_Trail_At
  obtain ⟨a1, c1, a2, c2, a3, c3, H⟩ := TrR.op H
  unfold Tr.lAt
  refine gif_i (fun h => ?_) (fun h => ⟨_, _, _, cel H 0 rfl rfl, gif_i (fun h2 => ?_) (fun h2 => ?_)⟩)
  · have h' : i < 0 := by simpa using h
    exact ⟨by rw [if_pos h'], TrR.sh H⟩
  · have h' : ¬ i < 0 := by simpa using h
    have h2' : (S.l.length : Int) ≤ i := by simpa using h2
    refine ⟨?_, TrR.sh H⟩
    rw [if_neg h', List.getElem?_eq_none (by omega)]; rfl
  · have h' : ¬ i < 0 := by simpa using h
    have h2' : ¬ (S.l.length : Int) ≤ i := by simpa using h2
    have hlt : i.toNat < S.l.length := by omega
    refine ⟨_, _, _, cel H 0 rfl rfl, ⟨by omega, by omega⟩, opm H 2 rfl (by omega) fun b o e => ?_⟩
    subst e
    refine ⟨_, oc H 2 rfl (map_get vI (List.getElem?_eq_getElem hlt)), ?_, TrR.sh H⟩
    rw [if_neg h', List.getElem?_eq_getElem hlt]; rfl

/-! ### what one writes -/
def Tr.setAt (S : Tr) (l : Int) (c : Cell) : Tr := { S with vars := S.vars.set (l.natAbs - 1) c }
theorem cell_set {L : List HPr} {w : World} (H : Holds L w) {S : Tr} {b o c1 : Nat} (j : Nat) (hj : L[j]? = some (osl T.trail_cell 5 (aP b o) S.vars.length c1 (S.vars.flatMap Cell.vs))) {l : Int} {c c' : Cell} (h : S.at l = some c) (k : Nat) {us : List Value} (ha : us.all isOne = true) (hk : k + us.length ≤ 5) (he : setL c.vs k us = c'.vs) {K : World → Prop}
    (hK : ∀ w1, Holds (L.set j (osl T.trail_cell 5 (aP b o) (S.setAt l c').vars.length c1 ((S.setAt l c').vars.flatMap Cell.vs))) w1 → K w1) : St w b (o + (l.natAbs - 1) * 5 + k) us K := by
  rw [Nat.add_assoc]
  have hlen : (S.vars.flatMap Cell.vs).length = S.vars.length * 5 := flat_len _ fun x _ => x.vs_len
  have ha' := at_some h
  refine ost H j hj ha (by rw [hlen]; omega) fun w1 H => hK w1 ?_
  refine H.cast ?_
  unfold Tr.setAt
  rw [flat_set _ _ _ _ _ _ (fun x _ => x.vs_len) ha'.2.1 hk he, List.length_set]
/-- A phase is set. -/
def Tr.setPhase (S : Tr) (v : Int) (is : Bool) : Tr := match S.at v with
  | some c => if v < 0 then S else S.setAt v { c with phase := is }
  | none => S
theorem k_SetPhase {L : List HPr} {w : World} {t : Nat} {S : Tr} (H : Holds (TrR t S :: L) w) (hs : S.Sm) (v : Int) (is : Bool) :
    Calls cx.P F.trail_Trail_SetPhase #[vP t 0, vI v, vB is] w (Ret fun r w' => (∃ x, r = vB x) ∧ Holds (TrR t (S.setPhase v is) :: L) w') := by
  apply vc_trail_Trail_SetPhase
  obtain ⟨a1, c1, a2, c2, a3, c3, H⟩ := TrR.op H
  refine Calls.ret (k_cell H 0 1 rfl rfl hs.n v) ?_
  rintro _ w1 ⟨rfl, H⟩
  refine ⟨_, rfl, ?_⟩
  unfold Tr.setPhase
  cases hc : S.at v with
  | none => exact ⟨⟨_, rfl⟩, TrR.sh H⟩
  | some c =>
    obtain ⟨b, o, rfl⟩ := osl_ptr H 1 rfl (at_some hc).2.2.2
    refine gif_f rfl (gif_i (fun h => ?_) (fun h => ?_))
    · have h' : v < 0 := by simpa using h
      simp only [h', if_true]
      exact ⟨⟨_, rfl⟩, TrR.sh H⟩
    · have h' : ¬ v < 0 := by simpa using h
      simp only [h', if_false]
      refine cell_set (c' := { c with phase := is }) H 1 rfl hc 4 rfl (by simp) rfl fun w2 H => ⟨⟨_, rfl⟩, ?_⟩
      refine TrR.sh (a1 := aP b o) (c1 := c1) (a2 := a2) (c2 := c2) (a3 := a3) (c3 := c3) (H.cast ?_)
      simp [trL, Tr.setAt]
/-- A literal is put on. -/
def Tr.putC (S : Tr) (l reason : Int) : Tr :=
  { vars := S.vars.set (l.natAbs - 1) ⟨if l < 0 then -1 else 1, S.starts.length, reason, S.l.length, decide (0 < l)⟩, l := S.l ++ [l], starts := S.starts }
def Tr.free (S : Tr) (l : Int) : Bool := match S.at l with
  | some c => c.value == 0
  | none => false
def Tr.put (S : Tr) (l reason : Int) : Tr := if S.free l then S.putC l reason else S
theorem k_Put {L : List HPr} {w : World} {t : Nat} {S : Tr} (H : Holds (TrR t S :: L) w) (hs : S.Sm) (hl : S.l.length ≤ 1000000) (l reason : Int) :
    Calls cx.P F.trail_Trail_Put #[vP t 0, vI l, vI reason] w (Ret fun r w' => r = vB (S.free l) ∧ Holds (TrR t (S.put l reason) :: L) w') := by
  apply vc_trail_Trail_Put
  obtain ⟨a1, c1, a2, c2, a3, c3, H⟩ := TrR.op H
  refine Calls.ret (k_cell H 0 1 rfl rfl hs.n l) ?_
  rintro _ w1 ⟨rfl, H⟩
  refine ⟨_, rfl, ?_⟩
  unfold Tr.put Tr.free
  cases hc : S.at l with
  | none => exact ⟨rfl, TrR.sh H⟩
  | some c =>
    obtain ⟨b, o, rfl⟩ := osl_ptr H 1 rfl (at_some hc).2.2.2
    refine gif_f rfl ⟨_, cell_cel H 1 rfl hc 0 (by omega) rfl, gif_i (fun h => ?_) (fun h => ?_)⟩
    · have h' : (c.value == 0) = false := by simpa using h
      simp only [h']
      exact ⟨trivial, TrR.sh H⟩
    · have h' : (c.value == 0) = true := by simpa using h
      simp only [h', if_true]
      refine ⟨fun vs w2 => vs = [vI (if l < 0 then -1 else 1)] ∧ Holds (trL t S (aP b o) c1 a2 c2 a3 c3 ++ L) w2, gif_i (fun h => ⟨?_, H⟩) (fun h => ⟨?_, H⟩), ?_⟩
      · have h' : l < 0 := by simpa using h
        rw [if_pos h']
      · have h' : ¬ l < 0 := by simpa using h
        rw [if_neg h']
      · rintro value w2 ⟨hv, H⟩
        simp only [List.cons.injEq, Value.int.injEq, true_and, and_true] at hv
        subst hv
        refine dr H fun w3 H => ⟨_, _, _, cel H 0 rfl rfl, _, _, _, cel H 0 rfl rfl, ?_⟩
        refine cell_set (c' := ⟨if l < 0 then -1 else 1, S.starts.length, reason, S.l.length, decide (0 < l)⟩) H 1 rfl hc 0 rfl (by simp) rfl fun w4 H => ?_
        refine ⟨_, _, _, cel H 0 rfl rfl, al H fun b3 w5 H => ?_⟩
        refine oap slInt H 3 rfl (asrc_blk slInt H 0 rfl rfl rfl) (by omega) (by omega) fun a' c' w6 H => ⟨_, _, _, rfl, st H 1 rfl rfl (by simp) fun w7 H => ⟨trivial, ?_⟩⟩
        refine TrR.sh (a1 := aP b o) (c1 := c1) (a2 := a') (c2 := c') (a3 := a3) (c3 := c3) (H.tail.cast ?_)
        simp [trL, Tr.setAt, Tr.putC, setL]
/-- A literal is decided. -/
def Tr.decide (S : Tr) (l : Int) : Tr := if S.free l then ({ S with starts := S.starts ++ [(S.l.length : Int)] } : Tr).putC l (-1) else S
theorem k_Decide {L : List HPr} {w : World} {t : Nat} {S : Tr} (H : Holds (TrR t S :: L) w) (hs : S.Sm) (hl : S.l.length ≤ 1000000) (hd : S.starts.length ≤ 1000000) (l : Int) :
    Calls cx.P F.trail_Trail_Decide #[vP t 0, vI l] w (Ret fun r w' => r = vB (S.free l) ∧ Holds (TrR t (S.decide l) :: L) w') := by
  apply vc_trail_Trail_Decide
  obtain ⟨a1, c1, a2, c2, a3, c3, H⟩ := TrR.op H
  refine Calls.ret (k_cell H 0 1 rfl rfl hs.n l) ?_
  rintro _ w1 ⟨rfl, H⟩
  refine ⟨_, rfl, ?_⟩
  have hf : S.free l = match S.at l with | some c => c.value == 0 | none => false := rfl
  unfold Tr.decide
  rw [hf]
  cases hc : S.at l with
  | none => exact ⟨rfl, TrR.sh H⟩
  | some c =>
    obtain ⟨b, o, rfl⟩ := osl_ptr H 1 rfl (at_some hc).2.2.2
    refine gif_f rfl ⟨_, cell_cel H 1 rfl hc 0 (by omega) rfl, gif_i (fun h => ?_) (fun h => ?_)⟩
    · have h' : (c.value == 0) = false := by simpa using h
      simp only [h']
      exact ⟨trivial, TrR.sh H⟩
    · have h' : (c.value == 0) = true := by simpa using h
      simp only [h', if_true]
      refine dr H fun w2 H => ⟨_, _, _, cel H 0 rfl rfl, _, _, _, cel H 0 rfl rfl, al H fun b2 w3 H => ⟨cel H 1 rfl rfl, ?_⟩⟩
      refine oap slInt H 4 rfl (asrc_blk slInt H 0 rfl rfl rfl) (by omega) (by omega) fun a' c' w4 H => ⟨_, _, _, rfl, st H 1 rfl rfl (by simp) fun w5 H => ?_⟩
      have H : Holds (TrR t { S with starts := S.starts ++ [(S.l.length : Int)] } :: L) w5 := by
        refine TrR.sh (a1 := aP b o) (c1 := c1) (a2 := a2) (c2 := c2) (a3 := a') (c3 := c') (H.tail.cast ?_)
        simp [trL, setL]
      refine Calls.ret (k_Put H ⟨hs.n, hs.v⟩ hl l (-1)) ?_
      rintro _ w6 ⟨rfl, H⟩
      have hf2 : ({ S with starts := S.starts ++ [(S.l.length : Int)] } : Tr).free l = true := by
        show (match S.at l with | some c => c.value == 0 | none => false) = true
        rw [hc]; exact h'
      refine ⟨_, rfl, by rw [hf2], H.cast ?_⟩
      unfold Tr.put
      rw [hf2]; rfl

/-! ### back -/
def Cell.off (c : Cell) : Cell := { c with value := 0 }
def Tr.clr (S : Tr) : List Int → Tr
  | [] => S
  | x :: xs => ({ S with vars := S.vars.modify (x.natAbs - 1) Cell.off } : Tr).clr xs
theorem Tr.clr_len : ∀ (xs : List Int) (S : Tr), (S.clr xs).vars.length = S.vars.length
  | [], _ => rfl
  | x :: xs, S => by unfold Tr.clr; rw [Tr.clr_len xs]; simp
theorem Tr.clr_l : ∀ (xs : List Int) (S : Tr), (S.clr xs).l = S.l
  | [], _ => rfl
  | x :: xs, S => by unfold Tr.clr; rw [Tr.clr_l xs]
theorem Tr.clr_starts : ∀ (xs : List Int) (S : Tr), (S.clr xs).starts = S.starts
  | [], _ => rfl
  | x :: xs, S => by unfold Tr.clr; rw [Tr.clr_starts xs]
theorem Tr.clr_snoc : ∀ (xs : List Int) (S : Tr) (x : Int), S.clr (xs ++ [x]) = { S.clr xs with vars := (S.clr xs).vars.modify (x.natAbs - 1) Cell.off }
  | [], _, _ => rfl
  | y :: xs, S, x => by
    show Tr.clr _ (xs ++ [x]) = _
    rw [Tr.clr_snoc xs]
    rfl
/-- Back to a level: what was taken away, and what is left. -/
def Tr.backOut (S : Tr) (level : Int) : List Int := match S.starts[(max level 0).toNat]? with
  | none => []
  | some s => (S.l.drop s.toNat).reverse
def Tr.back (S : Tr) (level : Int) : Tr := match S.starts[(max level 0).toNat]? with
  | none => S
  | some s => { vars := (S.clr (S.l.drop s.toNat).reverse).vars, l := S.l.take s.toNat, starts := S.starts.take (max level 0).toNat }
theorem drop_rev_snoc {α : Type} (l : List α) (n : Nat) (hn : n < l.length) : (l.drop n).reverse = (l.drop (n + 1)).reverse ++ [l[n]] := by
  rw [← List.getElem_cons_drop hn, List.reverse_cons]
theorem k_TBack {L : List HPr} {w : World} {t : Nat} {S : Tr} (H : Holds (TrR t S :: L) w) (hs : S.Sm) (hl : S.l.length ≤ 1000000) (hr : ∀ x ∈ S.l, right x S.vars.length = true) (hst : ∀ s ∈ S.starts, 0 ≤ s ∧ s ≤ (S.l.length : Int)) (level : Int) :
    Calls cx.P F.trail_Trail_Back #[vP t 0, vI level] w (Ret fun r w' => ∃ a c, r = vS a (S.backOut level).length c ∧ Holds (osl T.int 1 a (S.backOut level).length c ((S.backOut level).map vI) :: TrR t (S.back level) :: L) w') := by
  apply vc_trail_Trail_Back
  rw [iMax_eq]
  obtain ⟨a1, c1, a2, c2, a3, c3, H⟩ := TrR.op H
  refine ⟨_, _, _, cel H 0 rfl rfl, gif_i (fun h => ?_) (fun h => ?_)⟩
  · have h' : (S.starts.length : Int) ≤ max level 0 := by simpa using h
    have e : S.starts[(max level 0).toNat]? = none := List.getElem?_eq_none (by omega)
    unfold Tr.backOut Tr.back
    rw [e]
    exact ⟨none, 0, rfl, osl_nil T.int 1 (TrR.sh H)⟩
  · have h' : ¬ (S.starts.length : Int) ≤ max level 0 := by simpa using h
    generalize hlv : max level 0 = lv at *
    have hlv0 : 0 ≤ lv := by omega
    have hlt : lv.toNat < S.starts.length := by omega
    have e : S.starts[lv.toNat]? = some S.starts[lv.toNat] := List.getElem?_eq_getElem hlt
    generalize hs0 : S.starts[lv.toNat] = s0 at e
    have hs1 := hst s0 (List.mem_of_getElem? e)
    unfold Tr.backOut Tr.back
    rw [hlv, e]
    refine ⟨_, _, _, cel H 0 rfl rfl, by unfold InI; omega, fun vs w => ∃ a c n, n ≤ S.l.length ∧ s0.toNat ≤ n ∧ vs = [vS a (S.l.drop n).reverse.length c, vI ((n : Int) - 1)] ∧ Holds (osl T.int 1 a (S.l.drop n).reverse.length c ((S.l.drop n).reverse.map vI) :: (trL t (S.clr (S.l.drop n).reverse) a1 c1 a2 c2 a3 c3 ++ L)) w, fun vs _ => (match vs with | [_, .int _ n] => (n + 1).toNat | _ => 0), ?_, ?_⟩
    · refine ⟨none, 0, S.l.length, Nat.le_refl _, by omega, by simp, ?_⟩
      have : (S.l.drop S.l.length).reverse = [] := by simp
      rw [this]
      exact osl_nil T.int 1 H
    · rintro oa ol oc' on w1 ⟨a, c, n, hn, hsn, hvs, H⟩
      simp only [List.cons.injEq, Value.slice.injEq, Value.int.injEq, true_and, and_true] at hvs
      obtain ⟨⟨rfl, rfl, rfl⟩, rfl⟩ := hvs
      generalize hC : S.clr (S.l.drop n).reverse = C at H
      have Cl : C.l = S.l := by rw [← hC, Tr.clr_l]
      have Cs : C.starts = S.starts := by rw [← hC, Tr.clr_starts]
      have Cn : C.vars.length = S.vars.length := by rw [← hC, Tr.clr_len]
      refine ⟨_, _, _, cel H 1 rfl rfl, ⟨hlv0, by rw [Cs]; omega⟩, opm H 4 rfl (by rw [Cs]; omega) fun b o e1 => ?_⟩
      subst e1
      refine ⟨s0, oc H 4 rfl (map_get vI (by rw [Cs]; exact e)), gif_i (fun h2 => ?_) (fun h2 => ?_)⟩
      · have h2' : s0 ≤ (n : Int) - 1 := by simpa using h2
        have hn1 : n - 1 < S.l.length := by omega
        obtain ⟨n', rfl⟩ : ∃ n', n = n' + 1 := ⟨n - 1, by omega⟩
        have hx : C.l[n']? = some (S.l[n']'(by omega)) := by rw [Cl]; exact List.getElem?_eq_getElem (by omega)
        generalize hxe : S.l[n']'(by omega) = x at hx
        have hxm : x ∈ S.l := by rw [← hxe]; exact List.getElem_mem _
        have hix : ((n' + 1 : Nat) : Int) - 1 = (n' : Int) := by omega
        rw [hix]
        refine ⟨_, _, _, cel H 1 rfl rfl, ⟨by omega, by rw [Cl]; omega⟩, opm H 3 rfl (by rw [Cl]; omega) fun b2 o2 e2 => ?_⟩
        subst e2
        refine ⟨x, oc H 3 rfl (by rw [Int.toNat_natCast]; exact map_get vI hx), al H fun b3 w2 H => ?_⟩
        refine oap slInt H 1 rfl (asrc_blk slInt H 0 rfl rfl rfl) (by rw [List.length_reverse, List.length_drop]; omega) (by rw [List.length_reverse, List.length_drop]; omega) fun a' c' w3 H => ⟨_, _, _, rfl, ?_⟩
        have H := H.tail
        simp only [List.set_cons_zero] at H
        refine ⟨_, _, _, cel H 1 rfl rfl, ⟨by omega, by rw [Cl]; omega⟩, pm_i ⟨x, oc H 3 rfl (by rw [Int.toNat_natCast]; exact map_get vI hx), ?_⟩⟩
        refine Calls.ret (k_cell H 1 2 rfl rfl (by rw [Cn]; exact hs.n) x) ?_
        rintro _ w4 ⟨rfl, H⟩
        refine ⟨_, rfl, ?_⟩
        have hsome : (C.at x).isSome = true := by rw [Tr.at_right, Cn]; exact hr x hxm
        obtain ⟨cx', hcx⟩ := Option.isSome_iff_exists.1 hsome
        rw [hsome, if_pos rfl]
        obtain ⟨b5, o5, rfl⟩ := osl_ptr H 2 rfl (at_some hcx).2.2.2
        refine cell_set (c' := cx'.off) H 2 rfl hcx 0 rfl (by simp) rfl fun w5 H => ⟨by unfold InI; omega, ⟨a', c', n', by omega, by omega, ?_, ?_⟩, ?_⟩
        · rw [List.length_reverse, List.length_reverse, List.length_drop, List.length_drop]
          congr 2; omega
        · have ed := drop_rev_snoc S.l n' (by omega)
          rw [hxe] at ed
          refine H.cast ?_
          rw [ed, Tr.clr_snoc, hC]
          have em : C.vars.modify (x.natAbs - 1) Cell.off = (C.setAt x cx'.off).vars := by
            have := (at_some hcx).2.1
            unfold Tr.setAt
            apply List.ext_getElem?
            intro k
            rw [List.getElem?_modify, List.getElem?_set]
            by_cases hk : x.natAbs - 1 = k
            · subst hk; obtain ⟨hlt', hget⟩ := List.getElem?_eq_some_iff.1 this; simp [hlt', hget]
            · simp [hk]
          simp [trL, em, Tr.setAt, List.map_append]
        · simp only; omega
      · have h2' : ¬ s0 ≤ (n : Int) - 1 := by simpa using h2
        have hne : n = s0.toNat := by omega
        refine dr H fun w2 H => ⟨_, _, _, cel H 1 rfl rfl, _, _, _, cel H 1 rfl rfl, ⟨hlv0, by rw [Cs]; omega⟩, pm_i ⟨s0, oc H 4 rfl (map_get vI (by rw [Cs]; exact e)), ⟨hs1.1, by have := osl_cap H 3 rfl; rw [Cl] at this; omega⟩, _, _, _, cel H 1 rfl rfl, ⟨hlv0, by have := osl_cap H 4 rfl; rw [Cs] at this; omega⟩, ?_⟩⟩
        refine st H 1 rfl rfl (by simp) fun w3 H => st H 1 rfl rfl (by simp [setL_len]) fun w4 H => ⟨oa, oc', by rw [hne], ?_⟩
        have H := H.set 3 rfl fun m hm => isl_take s0.toNat (by rw [Cl]; omega) hm
        have H := H.set 4 rfl fun m hm => isl_take lv.toNat (by rw [Cs]; omega) hm
        refine part_shut1 (Ls := trL t { vars := (S.clr (S.l.drop s0.toNat).reverse).vars, l := S.l.take s0.toNat, starts := S.starts.take lv.toNat } a1 c1 a2 c2 (aP b o) c3) (fun _ h => ⟨a1, c1, a2, c2, aP b o, c3, h⟩) (H.cast ?_)
        have e5 : min s0.toNat S.l.length = s0.toNat := Nat.min_eq_left (by omega)
        have e6 : min lv.toNat S.starts.length = lv.toNat := Nat.min_eq_left (by omega)
        subst hne
        rw [hC]
        simp [trL, setL, Cl, Cs, e5, e6, List.map_take]

/-! ### the assignment -/
def Cell.is (c : Cell) : Bool := c.value == 1 || c.value == 0 && c.phase
def Tr.assign (S : Tr) : List Bool := S.vars.map Cell.is
def partly (S : Tr) (k : Nat) : List Bool := (S.vars.take k).map Cell.is ++ List.replicate (S.vars.length - k) false
theorem partly_len (S : Tr) (k : Nat) (hk : k ≤ S.vars.length) : (partly S k).length = S.vars.length := by
  unfold partly
  rw [List.length_append, List.length_map, List.length_take, List.length_replicate]; omega
theorem partly_set (S : Tr) (k : Nat) (c : Cell) (hk : S.vars[k]? = some c) : (partly S k).set k c.is = partly S (k + 1) := by
  have hlt := (List.getElem?_eq_some_iff.1 hk).1
  have e1 : S.vars.take (k + 1) = S.vars.take k ++ [c] := by rw [List.take_add_one, hk]; rfl
  have e2 : List.replicate (S.vars.length - k) false = false :: List.replicate (S.vars.length - (k + 1)) false := by
    rw [show S.vars.length - k = (S.vars.length - (k + 1)) + 1 by omega, List.replicate_succ]
  unfold partly
  rw [e1, e2, List.set_append, if_neg (by rw [List.length_map, List.length_take]; omega)]
  rw [List.length_map, List.length_take, show k - min k S.vars.length = 0 by omega]
  simp
theorem k_Assignment {L : List HPr} {w : World} {t : Nat} {S : Tr} (H : Holds (TrR t S :: L) w) (hs : S.Sm) :
    Calls cx.P F.trail_Trail_Assignment #[vP t 0] w (Ret fun r w' => ∃ a c, r = vS a S.vars.length c ∧ Holds (osl T.bool 1 a S.vars.length c (S.assign.map vB) :: TrR t S :: L) w') := by
  apply vc_trail_Trail_Assignment
  obtain ⟨a1, c1, a2, c2, a3, c3, H⟩ := TrR.op H
  have hn := hs.n
  refine ⟨_, _, _, cel H 0 rfl rfl, omk slBool H (by omega) (Int.le_refl _) (by omega) (by omega) fun a w1 H => ⟨_, _, _, rfl, _, _, _, cel H 1 rfl rfl, ?_⟩⟩
  rw [Int.toNat_natCast] at H ⊢
  refine ⟨fun vs w => ∃ k : Nat, vs = [vI k] ∧ k ≤ S.vars.length ∧ Holds (osl T.bool 1 a S.vars.length S.vars.length ((partly S k).map vB) :: (trL t S a1 c1 a2 c2 a3 c3 ++ L)) w, fun vs _ => (match vs with | [.int _ n] => (S.vars.length : Int) - n | _ => 0).toNat, ?_, ?_⟩
  · refine ⟨0, rfl, Nat.zero_le _, H.cast ?_⟩
    have : repL S.vars.length [vB false] = (partly S 0).map vB := by
      unfold partly repL
      simp [List.flatten_replicate_singleton]
    rw [this]
  · rintro x w2 ⟨k, hx, hk, H⟩
    simp only [List.cons.injEq, Value.int.injEq, true_and, and_true] at hx
    subst hx
    refine gif_i (fun h => ?_) (fun h => ?_)
    · have h' : k < S.vars.length := by simpa using h
      have hc : S.vars[k]? = some S.vars[k] := List.getElem?_eq_getElem h'
      generalize S.vars[k] = c at hc
      have hpl := partly_len S k hk
      obtain ⟨b0, o0, rfl⟩ := osl_ptr H 0 rfl (by omega)
      refine ⟨⟨by omega, by omega⟩, opm H 2 rfl (by omega) fun b o e => ?_⟩
      subst e
      rw [Int.toNat_natCast]
      have fin : ∀ w5, Holds (osl T.bool 1 (aP b0 o0) S.vars.length S.vars.length (setL ((partly S k).map vB) k [vB c.is]) :: (trL t S (aP b o) c1 a2 c2 a3 c3 ++ L)) w5 →
          InI ((k : Int) + 1) ∧ (∃ k' : Nat, [vI ((k : Int) + 1)] = [vI k'] ∧ k' ≤ S.vars.length ∧ Holds (osl T.bool 1 (aP b0 o0) S.vars.length S.vars.length ((partly S k').map vB) :: (trL t S (aP b o) c1 a2 c2 a3 c3 ++ L)) w5) ∧ ((S.vars.length : Int) - ((k : Int) + 1)).toNat < ((S.vars.length : Int) - k).toNat := by
        intro w5 H
        refine ⟨by unfold InI; omega, ⟨k + 1, rfl, by omega, H.cast ?_⟩, by omega⟩
        rw [map_set vB, partly_set S k c hc]
      refine ⟨c.value, c.level, c.reason, c.place, c.phase, ocL H 2 rfl (fun j u hj => ?_), al H fun b2 w3 H => st H 0 rfl rfl (by simp) fun w4 H => ⟨_, cel H 0 rfl rfl, gif_i (fun h1 => ?_) (fun h1 => ⟨_, cel H 0 rfl rfl, gif_i (fun h2 => ⟨_, cel H 0 rfl rfl, ?_⟩) (fun h2 => ?_)⟩)⟩⟩
      · rw [flat_get _ _ _ _ (fun x _ => x.vs_len) hc (by have := (List.getElem?_eq_some_iff.1 hj).1; simpa using this)]
        exact hj
      · have e1 : vB true = vB c.is := by unfold Cell.is; rw [h1]; rfl
        rw [e1]
        exact ⟨⟨by omega, by omega⟩, pm_i (ost H 1 rfl rfl (by simp [hpl]; omega) fun w5 H => fin w5 H.tail)⟩
      · have e1 : vB c.phase = vB c.is := by unfold Cell.is; rw [h1, h2]; simp
        rw [e1]
        exact ⟨⟨by omega, by omega⟩, pm_i (ost H 1 rfl rfl (by simp [hpl]; omega) fun w5 H => fin w5 H.tail)⟩
      · have e1 : vB false = vB c.is := by unfold Cell.is; rw [h1, h2]; simp
        rw [e1]
        exact ⟨⟨by omega, by omega⟩, pm_i (ost H 1 rfl rfl (by simp [hpl]; omega) fun w5 H => fin w5 H.tail)⟩
    · have h' : ¬ k < S.vars.length := by simpa using h
      have : k = S.vars.length := by omega
      subst this
      refine ⟨a, _, rfl, part_shut1 (Ls := trL t S a1 c1 a2 c2 a3 c3) (fun _ h => ⟨a1, c1, a2, c2, a3, c3, h⟩) (H.cast ?_)⟩
      simp [partly, Tr.assign]
end Go.Sv
/- Rows of parts, with holes; rows of slices. -/
namespace Go.Sv
open Go

def emp : HPr := fun _ => True
theorem SatL_all {m : Hp} {L : List HPr} (h : SatL L m) : SatL [star L] m := by
  refine ⟨fun _ => true, ?_, trivial⟩
  have : res m (fun _ => true) = m := Hp.eq (fun _ => rfl) rfl
  rw [this]; exact h
theorem SatL_take_out : ∀ {Rs : List HPr} (i : Nat) {A : HPr} {m : Hp}, Rs[i]? = some A → SatL Rs m → SatL (A :: Rs.set i emp) m
  | [], i, A, m, h, _ => by simp at h
  | B :: Rs, 0, A, m, h, hs => by
    simp at h; subst h
    obtain ⟨F, hA, hR⟩ := hs
    refine ⟨F, hA, fun _ => false, trivial, ?_⟩
    have : res (res m fun b => !(F b)) (fun b => !false) = res m fun b => !(F b) := res_all _
    show SatL Rs (res (res m fun b => !(F b)) fun b => !false)
    rw [this]; exact hR
  | B :: Rs, i + 1, A, m, h, hs => by
    have h' : Rs[i]? = some A := by simpa using h
    exact SatL_swap (SatL_cons (fun m hm => SatL_take_out i h' hm) hs)
theorem SatL_put_in : ∀ {Rs : List HPr} (i : Nat) {A B : HPr} {m : Hp}, Rs[i]? = some A → SatL (B :: Rs) m → SatL (Rs.set i B) m
  | [], i, A, B, m, h, _ => by simp at h
  | C :: Rs, 0, A, B, m, h, hs => by
    have := SatL_tail (SatL_swap hs)
    exact this
  | C :: Rs, i + 1, A, B, m, h, hs => by
    have h' : Rs[i]? = some A := by simpa using h
    exact SatL_cons (fun m hm => SatL_put_in i h' hm) (SatL_swap hs)
theorem star_take {Rs L : List HPr} {w : World} (i : Nat) {A : HPr} (h : Rs[i]? = some A) (H : Holds (star Rs :: L) w) : Holds (A :: star (Rs.set i emp) :: L) w := by
  have h1 : Holds (star (A :: Rs.set i emp) :: L) w := H.imp fun m hm => SatL_take_out i h hm
  have h2 : Holds ((A :: Rs.set i emp) ++ L) w := star_open h1
  exact SatL_cons (fun m hm => by
    obtain ⟨F, k1, k2⟩ := SatL_app.1 hm
    exact ⟨F, k1, k2⟩) h2
theorem star_put {Rs L : List HPr} {w : World} (i : Nat) {A B : HPr} (h : Rs[i]? = some A) (H : Holds (B :: star Rs :: L) w) : Holds (star (Rs.set i B) :: L) w := by
  have h2 : Holds ((B :: Rs) ++ L) w := SatL_cons (fun m hm => by
    obtain ⟨F, k1, k2⟩ := hm
    exact SatL_app.2 ⟨F, k1, k2⟩) H
  exact (star_shut h2).imp fun m hm => SatL_put_in i h hm

/-- A row of slices: the handles, and what each holds. -/
def slots {α : Type} (hs : List (Option Addr × Nat)) (ls : List (List α)) : List Value := List.zipWith (fun h l => vS h.1 l.length h.2) hs ls
def rowsP {α : Type} (T sz : Nat) (f : α → List Value) (hs : List (Option Addr × Nat)) (ls : List (List α)) : List HPr := List.zipWith (fun h l => osl T sz h.1 l.length h.2 (l.flatMap f)) hs ls
theorem slots_len {α : Type} {hs : List (Option Addr × Nat)} {ls : List (List α)} (h : hs.length = ls.length) : (slots hs ls).length = ls.length := by simp [slots, h]
theorem slots_one {α : Type} (hs : List (Option Addr × Nat)) (ls : List (List α)) : (slots hs ls).all isOne = true := by
  unfold slots
  simp only [List.all_eq_true]
  intro x hx
  obtain ⟨i, hi⟩ := List.mem_iff_getElem?.1 hx
  rw [List.getElem?_zipWith] at hi
  cases h1 : hs[i]? <;> cases h2 : ls[i]? <;> simp [h1, h2] at hi
  rw [← hi]; rfl
theorem slots_get {α : Type} {hs : List (Option Addr × Nat)} {ls : List (List α)} {i : Nat} {h : Option Addr × Nat} {l : List α} (h1 : hs[i]? = some h) (h2 : ls[i]? = some l) : (slots hs ls)[i]? = some (vS h.1 l.length h.2) := by
  unfold slots; rw [List.getElem?_zipWith, h1, h2]
theorem rowsP_get {α : Type} {T sz : Nat} {f : α → List Value} {hs : List (Option Addr × Nat)} {ls : List (List α)} {i : Nat} {h : Option Addr × Nat} {l : List α} (h1 : hs[i]? = some h) (h2 : ls[i]? = some l) : (rowsP T sz f hs ls)[i]? = some (osl T sz h.1 l.length h.2 (l.flatMap f)) := by
  unfold rowsP; rw [List.getElem?_zipWith, h1, h2]
theorem zip_set {α β γ : Type} (g : α → β → γ) : ∀ (aas : List α) (bs : List β) (i : Nat) (a : α) (b : β), (List.zipWith g aas bs).set i (g a b) = List.zipWith g (aas.set i a) (bs.set i b)
  | [], bs, i, a, b => by simp
  | x :: aas, [], i, a, b => by simp
  | x :: aas, y :: bs, 0, a, b => rfl
  | x :: aas, y :: bs, i + 1, a, b => by simp [zip_set g aas bs i a b]
theorem slots_set {α : Type} (hs : List (Option Addr × Nat)) (ls : List (List α)) (i : Nat) (h : Option Addr × Nat) (l : List α) : setL (slots hs ls) i [vS h.1 l.length h.2] = slots (hs.set i h) (ls.set i l) := by
  unfold slots setL setL
  exact zip_set _ _ _ _ _ _
theorem rowsP_set {α : Type} (T sz : Nat) (f : α → List Value) (hs : List (Option Addr × Nat)) (ls : List (List α)) (i : Nat) (h : Option Addr × Nat) (l : List α) : (rowsP T sz f hs ls).set i (osl T sz h.1 l.length h.2 (l.flatMap f)) = rowsP T sz f (hs.set i h) (ls.set i l) := by
  unfold rowsP
  exact zip_set _ _ _ _ _ _
theorem rowsP_len {α : Type} {T sz : Nat} {f : α → List Value} {hs : List (Option Addr × Nat)} {ls : List (List α)} (h : hs.length = ls.length) : (rowsP T sz f hs ls).length = ls.length := by simp [rowsP, h]
theorem lt_get {α : Type} {l : List α} {i : Nat} (h : i < l.length) : ∃ x, l[i]? = some x := ⟨_, List.getElem?_eq_getElem h⟩
theorem get_lt {α : Type} {l : List α} {i : Nat} {x : α} (h : l[i]? = some x) : i < l.length := (List.getElem?_eq_some_iff.1 h).1
end Go.Sv
/- The stream of words. -/
namespace Go.Sv
open Go Go.Proofs
set_option maxRecDepth 100000

abbrev vU (n : Int) : Value := .int .u64 n
theorem slU : SlT cx T.s_uint64 T.uint64 1 8 [vU 0] := SlT.mk' rfl rfl rfl rfl rfl
structure Rg where
  words : List Int
  x : Int
  drawn : Int
def rgL (s : Nat) (G : Rg) (a : Option Addr) (c : Nat) : List HPr :=
  [blk s [vS a G.words.length c, vU G.x, vI G.drawn] T.rng_Stream, osl T.uint64 1 a G.words.length c (G.words.map vU)]
def RgR (s : Nat) (G : Rg) : HPr := fun m => ∃ a c, SatL (rgL s G a c) m
theorem RgR.op {s : Nat} {G : Rg} {L : List HPr} {w : World} (H : Holds (RgR s G :: L) w) : ∃ a c, Holds (rgL s G a c ++ L) w := by
  obtain ⟨F, ⟨a, c, h⟩, hL⟩ := H
  exact ⟨a, c, SatL_app.2 ⟨F, h, hL⟩⟩
theorem RgR.sh {s : Nat} {G : Rg} {L : List HPr} {w : World} {a : Option Addr} {c : Nat} (H : Holds (rgL s G a c ++ L) w) : Holds (RgR s G :: L) w :=
  part_shut (fun _ h => ⟨a, c, h⟩) H
def rgSeed (seed : Int) : Int := if seed = 0 then 88172645463325252 else seed
theorem k_rng_New {L : List HPr} {w : World} (H : Holds L w) {wa : Option Addr} {wl wc : Nat} {ws : List Int} (hl : ws.length = wl) (hb : wl ≤ 1000000) (hsrc : ∀ w', Holds L w' → ASrc cx 1 T.s_uint64 (vS wa wl wc) wl (ws.map vU) w') (seed : Int) :
    Calls cx.P F.rng_New #[vS wa wl wc, vU seed] w (Ret fun v w' => ∃ s, v = vP s 0 ∧ Holds (RgR s ⟨ws, rgSeed seed, 0⟩ :: L) w') := by
  apply vc_rng_New
  subst hl
  unfold rgSeed
  refine gif_i (fun h => ?_) (fun h => ?_)
  · have h' : seed = 0 := by simpa using h
    rw [if_pos h']
    refine oap slU (osl_nil T.uint64 1 H) 0 rfl (hsrc _ H) (by omega) (by omega) fun a' c' w1 H => ⟨_, _, _, rfl, al H fun s w2 H => ⟨s, rfl, ?_⟩⟩
    exact RgR.sh (a := a') (c := c') (H.cast (by simp [rgL]))
  · have h' : ¬ seed = 0 := by simpa using h
    rw [if_neg h']
    refine oap slU (osl_nil T.uint64 1 H) 0 rfl (hsrc _ H) (by omega) (by omega) fun a' c' w1 H => ⟨_, _, _, rfl, al H fun s w2 H => ⟨s, rfl, ?_⟩⟩
    exact RgR.sh (a := a') (c := c') (H.cast (by simp [rgL]))
def rgStep (x : Int) : Int :=
  let y := bitI .xor .u64 x (shlI .u64 x 13)
  let z := bitI .xor .u64 y (shrI .u64 y 7)
  bitI .xor .u64 z (shlI .u64 z 17)
theorem k_Step {L : List HPr} {w : World} (H : Holds L w) (x : Int) : Calls cx.P F.rng_Step #[vU x] w (Ret fun v w' => v = vU (rgStep x) ∧ Holds L w') := by
  apply vc_rng_Step
  exact ⟨by omega, by omega, by omega, rfl, H⟩
def Rg.next (G : Rg) : Int × Rg :=
  if G.drawn + 1 ≤ G.words.length then ((G.words[G.drawn.toNat]?).getD 0, { G with drawn := G.drawn + 1 })
  else (rgStep G.x, { G with drawn := G.drawn + 1, x := rgStep G.x })
theorem k_Next {L : List HPr} {w : World} {s : Nat} {G : Rg} (H : Holds (RgR s G :: L) w) (h0 : 0 ≤ G.drawn) (h1 : G.drawn ≤ 4611686018427387904) :
    Calls cx.P F.rng_Stream_Next #[vP s 0] w (Ret fun v w' => v = vU G.next.1 ∧ Holds (RgR s G.next.2 :: L) w') := by
  apply vc_rng_Stream_Next
  obtain ⟨a, c, H⟩ := RgR.op H
  refine ⟨G.drawn, cel H 0 rfl rfl, by unfold InI; omega, st H 0 rfl rfl (by simp) fun w1 H => dr H fun w2 H => ⟨G.drawn + 1, cel H 0 rfl rfl, _, _, _, cel H 0 rfl rfl, gif_i (fun h => ?_) (fun h => ?_)⟩⟩
  · have h' : G.drawn + 1 ≤ G.words.length := of_decide_eq_true h
    unfold Rg.next
    rw [if_pos h']
    obtain ⟨b, o, rfl⟩ := osl_ptr H 1 rfl (by omega)
    obtain ⟨x, hx⟩ := lt_get (l := G.words) (i := G.drawn.toNat) (by omega)
    refine dr H fun w3 H => ⟨_, _, _, cel H 0 rfl rfl, _, cel H 0 rfl rfl, by unfold InI; omega, ⟨by omega, by omega⟩, pm_i ⟨x, oc H 1 rfl ?_, ?_, RgR.sh (a := aP b o) (c := c) (H.cast (by simp [rgL, setL]))⟩⟩
    · rw [show (G.drawn + 1 - 1).toNat = G.drawn.toNat by omega]
      exact map_get vU hx
    · rw [hx]; rfl
  · have h' : ¬ G.drawn + 1 ≤ G.words.length := of_decide_eq_false h
    unfold Rg.next
    rw [if_neg h']
    refine ⟨_, cel H 0 rfl rfl, Calls.ret (k_Step H G.x) ?_⟩
    rintro _ w3 ⟨rfl, H⟩
    refine ⟨_, rfl, st H 0 rfl rfl (by simp [setL_len]) fun w4 H => ⟨_, cel H 0 rfl rfl, rfl, RgR.sh (a := a) (c := c) (H.cast (by simp [rgL, setL]))⟩⟩
structure Rg.Ok (G : Rg) : Prop where
  w : ∀ x ∈ G.words, 0 ≤ x
  x : 0 ≤ G.x
  d : 0 ≤ G.drawn
theorem u64_nonneg (n : Int) : 0 ≤ IntKind.u64.wrap n := by
  have e : (2 : Int) ^ (64 : Nat) = 18446744073709551616 := by decide
  simp only [IntKind.wrap, IntKind.signed, IntKind.bits, e]
  simp; omega
theorem rgStep_nonneg (x : Int) : 0 ≤ rgStep x := u64_nonneg _
theorem Rg.next_ok {G : Rg} (h : G.Ok) : G.next.2.Ok ∧ 0 ≤ G.next.1 ∧ G.next.2.drawn = G.drawn + 1 := by
  unfold Rg.next
  have hd := h.d
  split
  · refine ⟨⟨h.w, h.x, by simp only; omega⟩, ?_, rfl⟩
    cases hx : G.words[G.drawn.toNat]? with
    | none => simp
    | some x => exact h.w x (List.mem_of_getElem? hx)
  · exact ⟨⟨h.w, rgStep_nonneg _, by simp only; omega⟩, rgStep_nonneg _, rfl⟩
/-- A number below another. -/
def Rg.below (G : Rg) (n : Int) : Int × Rg := if n < 1 then (0, G) else (Int.tmod G.next.1 n, G.next.2)
theorem k_Below {L : List HPr} {w : World} {s : Nat} {G : Rg} (H : Holds (RgR s G :: L) w) (hok : G.Ok) (h1 : G.drawn ≤ 4611686018427387904) (n : Int) (hn : n ≤ 9223372036854775807) :
    Calls cx.P F.rng_Stream_Below #[vP s 0, vI n] w (Ret fun v w' => v = vI (G.below n).1 ∧ Holds (RgR s (G.below n).2 :: L) w') := by
  apply vc_rng_Stream_Below
  unfold Rg.below
  refine gif_i (fun h => ?_) (fun h => ?_)
  · have h' : n < 1 := of_decide_eq_true h
    rw [if_pos h']; exact ⟨rfl, H⟩
  · have h' : ¬ n < 1 := of_decide_eq_false h
    rw [if_neg h']
    refine Calls.ret (k_Next H hok.d h1) ?_
    rintro _ w1 ⟨rfl, H⟩
    have hw : IntKind.u64.wrap n = n := by
      have e : (2 : Int) ^ (64 : Nat) = 18446744073709551616 := by decide
      simp only [IntKind.wrap, IntKind.signed, IntKind.bits, e]
      simp; omega
    rw [hw]
    have hnn := (Rg.next_ok hok).2.1
    have hlt := Int.tmod_lt_of_pos G.next.1 (show 0 < n by omega)
    have hge : 0 ≤ Int.tmod G.next.1 n := Int.tmod_nonneg _ hnn
    exact ⟨_, rfl, by omega, by unfold InI; omega, rfl, H⟩
theorem k_Drawn {L : List HPr} {w : World} {s : Nat} {G : Rg} (H : Holds (RgR s G :: L) w) : Calls cx.P F.rng_Stream_Drawn #[vP s 0] w (Ret fun v w' => v = vI G.drawn ∧ Holds (RgR s G :: L) w') := by
  apply vc_rng_Stream_Drawn
  obtain ⟨a, c, H⟩ := RgR.op H
  exact ⟨_, cel H 0 rfl rfl, rfl, RgR.sh H⟩
end Go.Sv
namespace Go.Sv
open Go Go.Proofs
set_option maxRecDepth 100000
theorem u8_range (n : Int) : 0 ≤ IntKind.u8.wrap n ∧ IntKind.u8.wrap n < 256 := by
  have e : (2 : Int) ^ (8 : Nat) = 256 := by decide
  simp only [IntKind.wrap, IntKind.signed, IntKind.bits, e]
  simp; omega
theorem byteAt_range (s : ByteArray) (n : Int) : 0 ≤ byteAt s n ∧ byteAt s n < 256 := by
  unfold byteAt
  generalize (s[n.toNat]?).getD 0 = b
  have := b.toNat_lt
  omega
theorem byteAt_in (s : ByteArray) (n k : Int) (h0 : 0 ≤ k) (h1 : k ≤ 1000) : InI (byteAt s n + k) := by have := byteAt_range s n; unfold InI; omega
theorem byteAt_in' (s : ByteArray) (n k : Int) (h0 : 0 ≤ k) (h1 : k ≤ 1000) : InI (k + byteAt s n) := by have := byteAt_range s n; unfold InI; omega
theorem byteAt_in0 (s : ByteArray) (n : Int) : InI (byteAt s n) := by have := byteAt_range s n; unfold InI; omega
theorem k_Len64_any {L : List HPr} {w : World} (H : Holds L w) (x : Int) : Calls cx.P F.math_bits_Len64 #[vU x] w (Ret fun v w' => ∃ r, v = vI r ∧ Holds L w') := by
  apply vc_math_bits_Len64
  repeat' first
    | exact ⟨_, rfl, H⟩
    | refine gif_i (fun _ => ?_) (fun _ => ?_)
    | exact (u8_range _).1
    | exact (u8_range _).2
    | omega
    | exact byteAt_in0 _ _
    | exact byteAt_in _ _ _ (by omega) (by omega)
    | exact byteAt_in' _ _ _ (by omega) (by omega)
    | (unfold InI; omega)
    | refine ⟨?_, ?_⟩
theorem k_Len_any {L : List HPr} {w : World} (H : Holds L w) (x : Int) : Calls cx.P F.math_bits_Len #[vU x] w (Ret fun v w' => ∃ r, v = vI r ∧ Holds L w') := by
  apply vc_math_bits_Len
  refine Calls.ret (k_Len64_any H x) ?_
  rintro _ w1 ⟨r, rfl, H⟩
  exact ⟨r, rfl, r, rfl, H⟩
end Go.Sv
/- What each function comes to, read off its code by reckoning. -/
namespace Go.Sv
open Go Go.Proofs
set_option maxRecDepth 100000
theorem vc_watch_New (a : Nat) (t : Nat) (vars : Int) (w : World) (R : Value → World → Prop)
    (hvc : InI (2 * vars) ∧ Rn cx.P (Instr.makeSlice T.s_s_watch_watch (vI (2 * vars)) (vI (2 * vars))) w fun v1 w1 => ∃ r1a r1l r1c, v1 = vS r1a r1l r1c ∧ Al w1 [vP a 0, vP t 0, vS r1a r1l r1c, vNS, vI 0, vI 0] T.watch_Watcher fun b1 w2 => R (vP b1 0) w2) :
    Calls cx.P F.watch_New #[vP a 0, vP t 0, vI vars] w (Ret R) :=
  calls_of_gFn (C := cx) (an := ⟨[], []⟩) (f := F.watch_New) (fn := Tryz.f39) (args := [vP a 0, vP t 0, vI vars]) Tryz.func39 hvc (by kernel_rfl)

theorem vc_watch_Watcher_Visits (wx : Nat) (w : World) (R : Value → World → Prop)
    (hvc : ∃ x1, Cel w wx 5 (vI x1) ∧ R (vI x1) w) :
    Calls cx.P F.watch_Watcher_Visits #[vP wx 0] w (Ret R) :=
  calls_of_gFn (C := cx) (an := ⟨[], []⟩) (f := F.watch_Watcher_Visits) (fn := Tryz.f59) (args := [vP wx 0]) Tryz.func59 hvc (by kernel_rfl)

theorem vc_watch_Watcher_rank (wx : Nat) (l : Int) (w : World) (R : Value → World → Prop)
    (hvc : ∃ x1, Cel w wx 1 (.pointer x1) ∧ Calls cx.P F.trail_Trail_Value #[.pointer x1, vI l] w (Ret fun v1 w1 => ∃ r1, v1 = vI r1 ∧ gif (decide (r1 < (0 : Int))) (∃ x2, Cel w1 wx 1 (.pointer x2) ∧ Calls cx.P F.trail_Trail_LevelOf #[.pointer x2, vI l] w1 (Ret fun v2 w2 => ∃ r2, v2 = vI r2 ∧ R (vI r2) w2)) (∃ x3, Cel w1 wx 1 (.pointer x3) ∧ Calls cx.P F.trail_Trail_Level #[.pointer x3] w1 (Ret fun v3 w3 => ∃ r3, v3 = vI r3 ∧ InI (r3 + 1) ∧ R (vI (r3 + 1)) w3)))) :
    Calls cx.P F.watch_Watcher_rank #[vP wx 0, vI l] w (Ret R) :=
  calls_of_gFn (C := cx) (an := ⟨[], []⟩) (f := F.watch_Watcher_rank) (fn := Tryz.f140) (args := [vP wx 0, vI l]) Tryz.func140 hvc (by kernel_rfl)

theorem vc_watch_Watcher_bring (wx : Nat) (ref : Int) (to : Int) (w : World) (R : Value → World → Prop)
    (hvc : InI (to + 1) ∧ ∃ (I1 : List Value → World → Prop) (μ1 : List Value → World → Nat), I1 [vI to, vI (to + 1)] w ∧ (∀ best1, ∀ i1, ∀ w1, I1 [vI best1, vI i1] w1 → ∃ x1, Cel w1 wx 0 (.pointer x1) ∧ Calls cx.P F.arena_Arena_Len #[.pointer x1, vI ref] w1 (Ret fun v1 w2 => ∃ r1, v1 = vI r1 ∧ gif (decide (i1 < (r1 : Int))) (Dr w2 fun w3 => ∃ x2, Cel w3 wx 0 (.pointer x2) ∧ ∃ x3, Cel w3 wx 0 (.pointer x3) ∧ Calls cx.P F.arena_Arena_Lit #[.pointer x2, vI ref, vI i1] w3 (Ret fun v2 w4 => ∃ r2, v2 = vI r2 ∧ Cel w4 wx 0 (.pointer x3) ∧ Calls cx.P F.watch_Watcher_rank #[vP wx 0, vI r2] w4 (Ret fun v3 w5 => ∃ r3, v3 = vI r3 ∧ Cel w5 wx 0 (.pointer x3) ∧ Calls cx.P F.arena_Arena_Lit #[.pointer x3, vI ref, vI best1] w5 (Ret fun v4 w6 => ∃ r4, v4 = vI r4 ∧ Calls cx.P F.watch_Watcher_rank #[vP wx 0, vI r4] w6 (Ret fun v5 w7 => ∃ r5, v5 = vI r5 ∧ gif (decide (r3 > (r5 : Int))) (InI (i1 + 1) ∧ I1 [vI i1, vI (i1 + 1)] w7 ∧ μ1 [vI i1, vI (i1 + 1)] w7 < μ1 [vI best1, vI i1] w1) (InI (i1 + 1) ∧ I1 [vI best1, vI (i1 + 1)] w7 ∧ μ1 [vI best1, vI (i1 + 1)] w7 < μ1 [vI best1, vI i1] w1)))))) (∃ x4, Cel w2 wx 0 (.pointer x4) ∧ Calls cx.P F.arena_Arena_Swap #[.pointer x4, vI ref, vI to, vI best1] w2 (Ret fun v6 w8 => ∃ r6, v6 = vB r6 ∧ R (.tuple #[]) w8))))) :
    Calls cx.P F.watch_Watcher_bring #[vP wx 0, vI ref, vI to] w (Ret R) :=
  calls_of_gFn (C := cx) (an := ⟨[(2, [(6, 3), (7, 3)], [0, 1, 2])], []⟩) (f := F.watch_Watcher_bring) (fn := Tryz.f96) (args := [vP wx 0, vI ref, vI to]) Tryz.func96 hvc (by kernel_rfl)

theorem vc_watch_Watcher_add (wx : Nat) (l : Int) (xp0 : Int) (xp1 : Int) (xp2 : Bool) (w : World) (R : Value → World → Prop)
    (hvc : Al w [vI xp0, vI xp1, vB xp2] T.watch_watch fun b1 w1 => Calls cx.P F.lit_Index #[vI l] w1 (Ret fun v1 w2 => ∃ r1, v1 = vI r1 ∧ Dr w2 fun w3 => ∃ x1a x1l x1c, Cel w3 wx 2 (vS x1a x1l x1c) ∧ ∃ x2a x2l x2c, Cel w3 wx 2 (vS x2a x2l x2c) ∧ ((0 : Int) ≤ r1 ∧ r1 < ((x2l : Nat) : Int)) ∧ pm x2a fun b2 o2 => ∃ x3a x3l x3c, Cel w3 b2 (o2 + ((r1).toNat)) (vS x3a x3l x3c) ∧ ∃ x4 x5 x6, CelL w3 b1 0 [vI x4, vI x5, vB x6] ∧ Al w3 [vI x4, vI x5, vB x6] T.watch_watch fun b3 w4 => Cel w4 wx 2 (vS x1a x1l x1c) ∧ Cel w4 wx 2 (vS x2a x2l x2c) ∧ Cel w4 b2 (o2 + ((r1).toNat)) (vS x3a x3l x3c) ∧ Rn cx.P (Builtin.append_ #[T.s_watch_watch, T.s_watch_watch] T.s_watch_watch #[vS x3a x3l x3c, vS (aP b3 0) 1 1]) w4 fun v2 w5 => ∃ r2a r2l r2c, v2 = vS r2a r2l r2c ∧ Cel w5 wx 2 (vS x1a x1l x1c) ∧ ((0 : Int) ≤ r1 ∧ r1 < ((x1l : Nat) : Int)) ∧ pm x1a fun b4 o4 => St w5 b4 (o4 + ((r1).toNat)) [vS r2a r2l r2c] fun w6 => R (.tuple #[]) w6)) :
    Calls cx.P F.watch_Watcher_add #[vP wx 0, vI l, .agg #[vI xp0, vI xp1, vB xp2]] w (Ret R) :=
  calls_of_gFn (C := cx) (an := ⟨[], []⟩) (f := F.watch_Watcher_add) (fn := Tryz.f98) (args := [vP wx 0, vI l, .agg #[vI xp0, vI xp1, vB xp2]]) Tryz.func98 hvc (by kernel_rfl)

theorem vc_watch_Watcher_Attach (wx : Nat) (ref : Int) (w : World) (R : Value → World → Prop)
    (hvc : ∃ x1, Cel w wx 0 (.pointer x1) ∧ Calls cx.P F.arena_Arena_Has #[.pointer x1, vI ref] w (Ret fun v1 w1 => ∃ r1, v1 = vB r1 ∧ gif (!r1) (R (vB false) w1) (∃ x2a x2l x2c, Cel w1 wx 3 (vS x2a x2l x2c) ∧ Al w1 [vI ref] T.int fun b1 w2 => Rn cx.P (Builtin.append_ #[T.s_int, T.s_int] T.s_int #[vS x2a x2l x2c, vS (aP b1 0) 1 1]) w2 fun v2 w3 => ∃ r2a r2l r2c, v2 = vS r2a r2l r2c ∧ St w3 wx 3 [vS r2a r2l r2c] fun w4 => ∃ x3, Cel w4 wx 0 (.pointer x3) ∧ Calls cx.P F.arena_Arena_Len #[.pointer x3, vI ref] w4 (Ret fun v3 w5 => ∃ r3, v3 = vI r3 ∧ gif (decide (r3 ≥ (2 : Int))) (Calls cx.P F.watch_Watcher_bring #[vP wx 0, vI ref, vI 0] w5 (Ret fun v4 w6 => v4 = .tuple #[] ∧ Calls cx.P F.watch_Watcher_bring #[vP wx 0, vI ref, vI 1] w6 (Ret fun v5 w7 => v5 = .tuple #[] ∧ Dr w7 fun w8 => ∃ x4, Cel w8 wx 0 (.pointer x4) ∧ ∃ x5, Cel w8 wx 0 (.pointer x5) ∧ Calls cx.P F.arena_Arena_Lit #[.pointer x4, vI ref, vI 0] w8 (Ret fun v6 w9 => ∃ r4, v6 = vI r4 ∧ Cel w9 wx 0 (.pointer x5) ∧ Calls cx.P F.arena_Arena_Lit #[.pointer x5, vI ref, vI 1] w9 (Ret fun v7 w10 => ∃ r5, v7 = vI r5 ∧ Calls cx.P F.watch_Watcher_add #[vP wx 0, vI r4, .agg #[vI ref, vI r5, vB (r3 == (2 : Int))]] w10 (Ret fun v8 w11 => v8 = .tuple #[] ∧ Calls cx.P F.watch_Watcher_add #[vP wx 0, vI r5, .agg #[vI ref, vI r4, vB (r3 == (2 : Int))]] w11 (Ret fun v9 w12 => v9 = .tuple #[] ∧ R (vB true) w12))))))) (R (vB true) w5))))) :
    Calls cx.P F.watch_Watcher_Attach #[vP wx 0, vI ref] w (Ret R) :=
  calls_of_gFn (C := cx) (an := ⟨[], []⟩) (f := F.watch_Watcher_Attach) (fn := Tryz.f64) (args := [vP wx 0, vI ref]) Tryz.func64 hvc (by kernel_rfl)

theorem vc_watch_Watcher_look (wx : Nat) (ref : Int) (w : World) (R : Value → World → Prop)
    (hvc : ∃ x1, Cel w wx 0 (.pointer x1) ∧ Calls cx.P F.arena_Arena_Len #[.pointer x1, vI ref] w (Ret fun v1 w1 => ∃ r1, v1 = vI r1 ∧ ∃ (I1 : List Value → World → Prop) (μ1 : List Value → World → Nat), I1 [vI 0, vI 0] w1 ∧ (∀ free1, ∀ x2, ∀ w2, I1 [vI free1, vI x2] w2 → gif (decide (x2 < (r1 : Int))) (∃ x3, Cel w2 wx 0 (.pointer x3) ∧ Calls cx.P F.arena_Arena_Lit #[.pointer x3, vI ref, vI x2] w2 (Ret fun v2 w3 => ∃ r2, v2 = vI r2 ∧ ∃ x4, Cel w3 wx 1 (.pointer x4) ∧ Calls cx.P F.trail_Trail_Value #[.pointer x4, vI r2] w3 (Ret fun v3 w4 => ∃ r3, v3 = vI r3 ∧ gif (decide (r3 > (0 : Int))) (R (vB true) w4) (gif (r3 == (0 : Int)) (gif (free1 != (0 : Int)) (R (vB true) w4) (gif (r3 == (0 : Int)) (InI (x2 + 1) ∧ I1 [vI r2, vI (x2 + 1)] w4 ∧ μ1 [vI r2, vI (x2 + 1)] w4 < μ1 [vI free1, vI x2] w2) (InI (x2 + 1) ∧ I1 [vI free1, vI (x2 + 1)] w4 ∧ μ1 [vI free1, vI (x2 + 1)] w4 < μ1 [vI free1, vI x2] w2))) (gif (r3 == (0 : Int)) (InI (x2 + 1) ∧ I1 [vI r2, vI (x2 + 1)] w4 ∧ μ1 [vI r2, vI (x2 + 1)] w4 < μ1 [vI free1, vI x2] w2) (InI (x2 + 1) ∧ I1 [vI free1, vI (x2 + 1)] w4 ∧ μ1 [vI free1, vI (x2 + 1)] w4 < μ1 [vI free1, vI x2] w2)))))) (gif (free1 != (0 : Int)) (∃ x5, Cel w2 wx 1 (.pointer x5) ∧ Calls cx.P F.trail_Trail_Put #[.pointer x5, vI free1, vI ref] w2 (Ret fun v4 w5 => ∃ r4, v4 = vB r4 ∧ R (vB r4) w5)) (R (vB false) w2))))) :
    Calls cx.P F.watch_Watcher_look #[vP wx 0, vI ref] w (Ret R) :=
  calls_of_gFn (C := cx) (an := ⟨[(3, [(5, 3), (15, 3)], [0, 1, 14])], []⟩) (f := F.watch_Watcher_look) (fn := Tryz.f67) (args := [vP wx 0, vI ref]) Tryz.func67 hvc (by kernel_rfl)

theorem vc_watch_Watcher_unit (wx : Nat) (l : Int) (ref : Int) (w : World) (R : Value → World → Prop)
    (hvc : ∃ x1, Cel w wx 1 (.pointer x1) ∧ Calls cx.P F.trail_Trail_Value #[.pointer x1, vI l] w (Ret fun v1 w1 => ∃ r1, v1 = vI r1 ∧ gif (r1 == (0 : Int)) (∃ x2, Cel w1 wx 1 (.pointer x2) ∧ Calls cx.P F.trail_Trail_Put #[.pointer x2, vI l, vI ref] w1 (Ret fun v2 w2 => ∃ r2, v2 = vB r2 ∧ ∃ x3, Cel w2 wx 1 (.pointer x3) ∧ Calls cx.P F.trail_Trail_Value #[.pointer x3, vI l] w2 (Ret fun v3 w3 => ∃ r3, v3 = vI r3 ∧ gif (decide (r3 < (0 : Int))) (R (vI 2) w3) (R (vI 0) w3)))) (∃ x4, Cel w1 wx 1 (.pointer x4) ∧ Calls cx.P F.trail_Trail_Value #[.pointer x4, vI l] w1 (Ret fun v4 w4 => ∃ r4, v4 = vI r4 ∧ gif (decide (r4 < (0 : Int))) (R (vI 2) w4) (R (vI 0) w4))))) :
    Calls cx.P F.watch_Watcher_unit #[vP wx 0, vI l, vI ref] w (Ret R) :=
  calls_of_gFn (C := cx) (an := ⟨[], []⟩) (f := F.watch_Watcher_unit) (fn := Tryz.f142) (args := [vP wx 0, vI l, vI ref]) Tryz.func142 hvc (by kernel_rfl)

theorem vc_watch_Watcher_visit (wx : Nat) (xp xpo : Nat) (f : Int) (w : World) (R : Value → World → Prop)
    (hvc : ∃ x1, Cel w wx 5 (vI x1) ∧ InI (x1 + 1) ∧ St w wx 5 [vI (x1 + 1)] fun w1 => Dr w1 fun w2 => ∃ x2, Cel w2 wx 0 (.pointer x2) ∧ ∃ x3, Cel w2 xp xpo (vI x3) ∧ Calls cx.P F.arena_Arena_Has #[.pointer x2, vI x3] w2 (Ret fun v1 w3 => ∃ r1, v1 = vB r1 ∧ gif (!r1) (R (vI 1) w3) (Dr w3 fun w4 => ∃ x4, Cel w4 wx 1 (.pointer x4) ∧ ∃ x5, Cel w4 xp (xpo + 1) (vI x5) ∧ Calls cx.P F.trail_Trail_Value #[.pointer x4, vI x5] w4 (Ret fun v2 w5 => ∃ r2, v2 = vI r2 ∧ gif (decide (r2 > (0 : Int))) (R (vI 0) w5) (∃ x6, Cel w5 xp (xpo + 2) (vB x6) ∧ gif x6 (Dr w5 fun w6 => ∃ x7, Cel w6 xp (xpo + 1) (vI x7) ∧ ∃ x8, Cel w6 xp xpo (vI x8) ∧ Calls cx.P F.watch_Watcher_unit #[vP wx 0, vI x7, vI x8] w6 (Ret fun v3 w7 => ∃ r3, v3 = vI r3 ∧ R (vI r3) w7)) (Dr w5 fun w8 => ∃ x9, Cel w8 wx 0 (.pointer x9) ∧ ∃ x10, Cel w8 xp xpo (vI x10) ∧ Calls cx.P F.arena_Arena_Lit #[.pointer x9, vI x10, vI 0] w8 (Ret fun v4 w9 => ∃ r4, v4 = vI r4 ∧ gif (r4 == (f : Int)) (Dr w9 fun w10 => ∃ x11, Cel w10 wx 0 (.pointer x11) ∧ ∃ x12, Cel w10 xp xpo (vI x12) ∧ Calls cx.P F.arena_Arena_Swap #[.pointer x11, vI x12, vI 0, vI 1] w10 (Ret fun v5 w11 => ∃ r5, v5 = vB r5 ∧ Dr w11 fun w12 => ∃ x13, Cel w12 wx 0 (.pointer x13) ∧ ∃ x14, Cel w12 xp xpo (vI x14) ∧ Calls cx.P F.arena_Arena_Lit #[.pointer x13, vI x14, vI 0] w12 (Ret fun v6 w13 => ∃ r6, v6 = vI r6 ∧ ∃ x15, Cel w13 wx 1 (.pointer x15) ∧ Calls cx.P F.trail_Trail_Value #[.pointer x15, vI r6] w13 (Ret fun v7 w14 => ∃ r7, v7 = vI r7 ∧ gif (decide (r7 > (0 : Int))) (St w14 xp (xpo + 1) [vI r6] fun w15 => R (vI 0) w15) (∃ (I1 : List Value → World → Prop) (μ1 : List Value → World → Nat), I1 [vI 2] w14 ∧ (∀ i1, ∀ w16, I1 [vI i1] w16 → Dr w16 fun w17 => ∃ x16, Cel w17 wx 0 (.pointer x16) ∧ ∃ x17, Cel w17 xp xpo (vI x17) ∧ Calls cx.P F.arena_Arena_Len #[.pointer x16, vI x17] w17 (Ret fun v8 w18 => ∃ r8, v8 = vI r8 ∧ gif (decide (i1 < (r8 : Int))) (Dr w18 fun w19 => ∃ x18, Cel w19 wx 0 (.pointer x18) ∧ ∃ x19, Cel w19 xp xpo (vI x19) ∧ Calls cx.P F.arena_Arena_Lit #[.pointer x18, vI x19, vI i1] w19 (Ret fun v9 w20 => ∃ r9, v9 = vI r9 ∧ ∃ x20, Cel w20 wx 1 (.pointer x20) ∧ Calls cx.P F.trail_Trail_Value #[.pointer x20, vI r9] w20 (Ret fun v10 w21 => ∃ r10, v10 = vI r10 ∧ gif (decide (r10 ≥ (0 : Int))) (Dr w21 fun w22 => ∃ x21, Cel w22 wx 0 (.pointer x21) ∧ ∃ x22, Cel w22 xp xpo (vI x22) ∧ Calls cx.P F.arena_Arena_Swap #[.pointer x21, vI x22, vI 1, vI i1] w22 (Ret fun v11 w23 => ∃ r11, v11 = vB r11 ∧ ∃ x23, Cel w23 xp xpo (vI x23) ∧ Calls cx.P F.watch_Watcher_add #[vP wx 0, vI r9, .agg #[vI x23, vI r6, vB false]] w23 (Ret fun v12 w24 => v12 = .tuple #[] ∧ R (vI 1) w24))) (InI (i1 + 1) ∧ I1 [vI (i1 + 1)] w21 ∧ μ1 [vI (i1 + 1)] w21 < μ1 [vI i1] w16)))) (∃ x24, Cel w18 xp xpo (vI x24) ∧ Calls cx.P F.watch_Watcher_unit #[vP wx 0, vI r6, vI x24] w18 (Ret fun v13 w25 => ∃ r12, v13 = vI r12 ∧ R (vI r12) w25))))))))) (Dr w9 fun w26 => ∃ x25, Cel w26 wx 0 (.pointer x25) ∧ ∃ x26, Cel w26 xp xpo (vI x26) ∧ Calls cx.P F.arena_Arena_Lit #[.pointer x25, vI x26, vI 0] w26 (Ret fun v14 w27 => ∃ r13, v14 = vI r13 ∧ ∃ x27, Cel w27 wx 1 (.pointer x27) ∧ Calls cx.P F.trail_Trail_Value #[.pointer x27, vI r13] w27 (Ret fun v15 w28 => ∃ r14, v15 = vI r14 ∧ gif (decide (r14 > (0 : Int))) (St w28 xp (xpo + 1) [vI r13] fun w29 => R (vI 0) w29) (∃ (I2 : List Value → World → Prop) (μ2 : List Value → World → Nat), I2 [vI 2] w28 ∧ (∀ i2, ∀ w30, I2 [vI i2] w30 → Dr w30 fun w31 => ∃ x28, Cel w31 wx 0 (.pointer x28) ∧ ∃ x29, Cel w31 xp xpo (vI x29) ∧ Calls cx.P F.arena_Arena_Len #[.pointer x28, vI x29] w31 (Ret fun v16 w32 => ∃ r15, v16 = vI r15 ∧ gif (decide (i2 < (r15 : Int))) (Dr w32 fun w33 => ∃ x30, Cel w33 wx 0 (.pointer x30) ∧ ∃ x31, Cel w33 xp xpo (vI x31) ∧ Calls cx.P F.arena_Arena_Lit #[.pointer x30, vI x31, vI i2] w33 (Ret fun v17 w34 => ∃ r16, v17 = vI r16 ∧ ∃ x32, Cel w34 wx 1 (.pointer x32) ∧ Calls cx.P F.trail_Trail_Value #[.pointer x32, vI r16] w34 (Ret fun v18 w35 => ∃ r17, v18 = vI r17 ∧ gif (decide (r17 ≥ (0 : Int))) (Dr w35 fun w36 => ∃ x33, Cel w36 wx 0 (.pointer x33) ∧ ∃ x34, Cel w36 xp xpo (vI x34) ∧ Calls cx.P F.arena_Arena_Swap #[.pointer x33, vI x34, vI 1, vI i2] w36 (Ret fun v19 w37 => ∃ r18, v19 = vB r18 ∧ ∃ x35, Cel w37 xp xpo (vI x35) ∧ Calls cx.P F.watch_Watcher_add #[vP wx 0, vI r16, .agg #[vI x35, vI r13, vB false]] w37 (Ret fun v20 w38 => v20 = .tuple #[] ∧ R (vI 1) w38))) (InI (i2 + 1) ∧ I2 [vI (i2 + 1)] w35 ∧ μ2 [vI (i2 + 1)] w35 < μ2 [vI i2] w30)))) (∃ x36, Cel w32 xp xpo (vI x36) ∧ Calls cx.P F.watch_Watcher_unit #[vP wx 0, vI r13, vI x36] w32 (Ret fun v21 w39 => ∃ r19, v21 = vI r19 ∧ R (vI r19) w39))))))))))))))) :
    Calls cx.P F.watch_Watcher_visit #[vP wx 0, vP xp xpo, vI f] w (Ret R) :=
  calls_of_gFn (C := cx) (an := ⟨[(15, [(8, 3)], [0, 1, 7])], []⟩) (f := F.watch_Watcher_visit) (fn := Tryz.f101) (args := [vP wx 0, vP xp xpo, vI f]) Tryz.func101 hvc (by kernel_rfl)

theorem vc_watch_Watcher_fell (wx : Nat) (f : Int) (w : World) (R : Value → World → Prop)
    (hvc : Calls cx.P F.lit_Index #[vI f] w (Ret fun v1 w1 => ∃ r1, v1 = vI r1 ∧ ∃ x1a x1l x1c, Cel w1 wx 2 (vS x1a x1l x1c) ∧ ((0 : Int) ≤ r1 ∧ r1 < ((x1l : Nat) : Int)) ∧ pm x1a fun b1 o1 => ∃ x2a x2l x2c, Cel w1 b1 (o1 + ((r1).toNat)) (vS x2a x2l x2c) ∧ ∃ (I1 : List Value → World → Prop) (μ1 : List Value → World → Nat), I1 [vI 0, vI 0] w1 ∧ (∀ n1, ∀ x3, ∀ w2, I1 [vI n1, vI x3] w2 → gif (decide (x3 < (((x2l : Nat) : Int) : Int))) (((0 : Int) ≤ x3 ∧ x3 < ((x2l : Nat) : Int)) ∧ pm x2a fun b2 o2 => Calls cx.P F.watch_Watcher_visit #[vP wx 0, vP b2 (o2 + ((x3).toNat) * 3), vI f] w2 (Ret fun v2 w3 => ∃ r2, v2 = vI r2 ∧ gif (r2 == (0 : Int)) (((0 : Int) ≤ x3 ∧ x3 < ((x2l : Nat) : Int)) ∧ pm x2a fun b3 o3 => ∃ x4 x5 x6, CelL w3 b3 (o3 + ((x3).toNat) * 3) [vI x4, vI x5, vB x6] ∧ ((0 : Int) ≤ n1 ∧ n1 < ((x2l : Nat) : Int)) ∧ pm x2a fun b4 o4 => St w3 b4 (o4 + ((n1).toNat) * 3) [vI x4, vI x5, vB x6] fun w4 => InI (n1 + 1) ∧ InI (x3 + 1) ∧ I1 [vI (n1 + 1), vI (x3 + 1)] w4 ∧ μ1 [vI (n1 + 1), vI (x3 + 1)] w4 < μ1 [vI n1, vI x3] w2) (gif (r2 == (2 : Int)) (Dr w3 fun w5 => ((0 : Int) ≤ n1 ∧ n1 ≤ ((x2l : Nat) : Int)) ∧ ((0 : Int) ≤ x3 ∧ x3 ≤ ((x2l : Nat) : Int)) ∧ Rn cx.P (Builtin.copy_ #[T.s_watch_watch, T.s_watch_watch] T.int #[vS (slOff x2a x2c ((n1).toNat) 3) (x2l - ((n1).toNat)) (x2c - ((n1).toNat)), vS (slOff x2a x2c ((x3).toNat) 3) (x2l - ((x3).toNat)) (x2c - ((x3).toNat))]) w5 fun v3 w6 => ∃ r3, v3 = vI r3 ∧ InI (n1 + r3) ∧ Dr w6 fun w7 => ∃ x7a x7l x7c, Cel w7 wx 2 (vS x7a x7l x7c) ∧ ((0 : Int) ≤ n1 + r3 ∧ n1 + r3 ≤ ((x2c : Nat) : Int)) ∧ ((0 : Int) ≤ r1 ∧ r1 < ((x7l : Nat) : Int)) ∧ pm x7a fun b5 o5 => St w7 b5 (o5 + ((r1).toNat)) [vS x2a ((n1 + r3).toNat) x2c] fun w8 => InI (((x2l : Nat) : Int) - x3) ∧ InI ((n1 + r3) - (((x2l : Nat) : Int) - x3)) ∧ ((0 : Int) ≤ (n1 + r3) - (((x2l : Nat) : Int) - x3) ∧ (n1 + r3) - (((x2l : Nat) : Int) - x3) < ((x2l : Nat) : Int)) ∧ pm x2a fun b6 o6 => ∃ x8, Cel w8 b6 (o6 + (((n1 + r3) - (((x2l : Nat) : Int) - x3)).toNat) * 3) (vI x8) ∧ R (.tuple #[vI x8, vB false]) w8) (InI (x3 + 1) ∧ I1 [vI n1, vI (x3 + 1)] w3 ∧ μ1 [vI n1, vI (x3 + 1)] w3 < μ1 [vI n1, vI x3] w2)))) (Dr w2 fun w9 => ∃ x9a x9l x9c, Cel w9 wx 2 (vS x9a x9l x9c) ∧ ((0 : Int) ≤ n1 ∧ n1 ≤ ((x2c : Nat) : Int)) ∧ ((0 : Int) ≤ r1 ∧ r1 < ((x9l : Nat) : Int)) ∧ pm x9a fun b7 o7 => St w9 b7 (o7 + ((r1).toNat)) [vS x2a ((n1).toNat) x2c] fun w10 => R (.tuple #[vI 0, vB true]) w10)))) :
    Calls cx.P F.watch_Watcher_fell #[vP wx 0, vI f] w (Ret R) :=
  calls_of_gFn (C := cx) (an := ⟨[(5, [(8, 3), (21, 3)], [0, 1, 6, 7, 20])], []⟩) (f := F.watch_Watcher_fell) (fn := Tryz.f69) (args := [vP wx 0, vI f]) Tryz.func69 hvc (by kernel_rfl)

theorem vc_watch_Watcher_Propagate (wx : Nat) (w : World) (R : Value → World → Prop)
    (hvc : ∃ (I1 : List Value → World → Prop) (μ1 : List Value → World → Nat), I1 [] w ∧ (∀ w1, I1 [] w1 → ∃ x1a x1l x1c, Cel w1 wx 3 (vS x1a x1l x1c) ∧ gif (decide (((x1l : Nat) : Int) > (0 : Int))) (∃ x2a x2l x2c, Cel w1 wx 3 (vS x2a x2l x2c) ∧ ((0 : Int) ≤ 0 ∧ 0 < ((x2l : Nat) : Int)) ∧ pm x2a fun b1 o1 => ∃ x3, Cel w1 b1 o1 (vI x3) ∧ ∃ x4, Cel w1 wx 5 (vI x4) ∧ InI (x4 + 1) ∧ St w1 wx 5 [vI (x4 + 1)] fun w2 => ∃ x5, Cel w2 wx 0 (.pointer x5) ∧ Calls cx.P F.arena_Arena_Has #[.pointer x5, vI x3] w2 (Ret fun v1 w3 => ∃ r1, v1 = vB r1 ∧ gif r1 (Calls cx.P F.watch_Watcher_look #[vP wx 0, vI x3] w3 (Ret fun v2 w4 => ∃ r2, v2 = vB r2 ∧ gif (!r2) (R (.tuple #[vI x3, vB false]) w4) (∃ x6a x6l x6c, Cel w4 wx 3 (vS x6a x6l x6c) ∧ ((0 : Int) ≤ 1 ∧ 1 ≤ ((x6l : Nat) : Int)) ∧ St w4 wx 3 [vS (slOff x6a x6c 1 1) (x6l - 1) (x6c - 1)] fun w5 => I1 [] w5 ∧ μ1 [] w5 < μ1 [] w1))) (∃ x7a x7l x7c, Cel w3 wx 3 (vS x7a x7l x7c) ∧ ((0 : Int) ≤ 1 ∧ 1 ≤ ((x7l : Nat) : Int)) ∧ St w3 wx 3 [vS (slOff x7a x7c 1 1) (x7l - 1) (x7c - 1)] fun w6 => I1 [] w6 ∧ μ1 [] w6 < μ1 [] w1))) (∃ (I2 : List Value → World → Prop) (μ2 : List Value → World → Nat), I2 [] w1 ∧ (∀ w7, I2 [] w7 → Dr w7 fun w8 => ∃ x8, Cel w8 wx 4 (vI x8) ∧ ∃ x9, Cel w8 wx 1 (.pointer x9) ∧ Calls cx.P F.trail_Trail_Len #[.pointer x9] w8 (Ret fun v3 w9 => ∃ r3, v3 = vI r3 ∧ Cel w9 wx 4 (vI x8) ∧ gif (decide (x8 < (r3 : Int))) (Dr w9 fun w10 => ∃ x10, Cel w10 wx 1 (.pointer x10) ∧ ∃ x11, Cel w10 wx 4 (vI x11) ∧ Calls cx.P F.trail_Trail_At #[.pointer x10, vI x11] w10 (Ret fun v4 w11 => ∃ r4, v4 = vI r4 ∧ InI (0 - r4) ∧ Calls cx.P F.watch_Watcher_fell #[vP wx 0, vI (0 - r4)] w11 (Ret fun v5 w12 => ∃ r5 r6, v5 = .tuple #[vI r5, vB r6] ∧ gif (!r6) (R (.tuple #[vI r5, vB false]) w12) (∃ x12, Cel w12 wx 4 (vI x12) ∧ InI (x12 + 1) ∧ St w12 wx 4 [vI (x12 + 1)] fun w13 => I2 [] w13 ∧ μ2 [] w13 < μ2 [] w7)))) (R (.tuple #[vI 0, vB true]) w9)))))) :
    Calls cx.P F.watch_Watcher_Propagate #[vP wx 0] w (Ret R) :=
  calls_of_gFn (C := cx) (an := ⟨[(1, [], [0]), (7, [], [0])], []⟩) (f := F.watch_Watcher_Propagate) (fn := Tryz.f44) (args := [vP wx 0]) Tryz.func44 hvc (by kernel_rfl)

theorem vc_watch_Watcher_Back (wx : Nat) (level : Int) (w : World) (R : Value → World → Prop)
    (hvc : ∃ x1, Cel w wx 1 (.pointer x1) ∧ Calls cx.P F.trail_Trail_Back #[.pointer x1, vI level] w (Ret fun v1 w1 => ∃ r1a r1l r1c, v1 = vS r1a r1l r1c ∧ Dr w1 fun w2 => ∃ x2, Cel w2 wx 4 (vI x2) ∧ ∃ x3, Cel w2 wx 1 (.pointer x3) ∧ Calls cx.P F.trail_Trail_Len #[.pointer x3] w2 (Ret fun v2 w3 => ∃ r2, v2 = vI r2 ∧ Cel w3 wx 4 (vI x2) ∧ St w3 wx 4 [vI (iMin x2 r2)] fun w4 => R (vS r1a r1l r1c) w4))) :
    Calls cx.P F.watch_Watcher_Back #[vP wx 0, vI level] w (Ret R) :=
  calls_of_gFn (C := cx) (an := ⟨[], []⟩) (f := F.watch_Watcher_Back) (fn := Tryz.f114) (args := [vP wx 0, vI level]) Tryz.func114 hvc (by kernel_rfl)

end Go.Sv
/- What each function comes to, read off its code by reckoning. -/
namespace Go.Sv
open Go Go.Proofs
set_option maxRecDepth 100000
theorem vc_arena_New (limit : Int) (w : World) (R : Value → World → Prop)
    (hvc : AlM w fun b1 w1 => Al w1 [vNS, vI limit, vI 0, .map (some b1)] T.arena_Arena fun b2 w2 => R (vP b2 0) w2) :
    Calls cx.P F.arena_New #[vI limit] w (Ret R) :=
  calls_of_gFn (C := cx) (an := ⟨[], []⟩) (f := F.arena_New) (fn := Tryz.f35) (args := [vI limit]) Tryz.func35 hvc (by kernel_rfl)

theorem vc_arena_fit (n : Int) (w : World) (R : Value → World → Prop)
    (hvc : R (vI (iMin (iMax n 0) 2147483647)) w) :
    Calls cx.P F.arena_fit #[vI n] w (Ret R) :=
  calls_of_gFn (C := cx) (an := ⟨[], []⟩) (f := F.arena_fit) (fn := Tryz.f94) (args := [vI n]) Tryz.func94 hvc (by kernel_rfl)

theorem vc_arena_Arena_Add (a : Nat) (ca : Option Addr) (cl cc : Nat) (isLearned : Bool) (g : Int) (w : World) (R : Value → World → Prop)
    (hvc : ∃ x1a x1l x1c, Cel w a 0 (vS x1a x1l x1c) ∧ ∃ x2, Cel w a 1 (vI x2) ∧ gif (decide (x2 > (0 : Int))) (InI (((x1l : Nat) : Int) + 3) ∧ InI ((((x1l : Nat) : Int) + 3) + ((cl : Nat) : Int)) ∧ ∃ x3, Cel w a 1 (vI x3) ∧ gif (decide ((((x1l : Nat) : Int) + 3) + ((cl : Nat) : Int) > (x3 : Int))) (R (.tuple #[vI 0, vB false]) w) (gif isLearned (Dr w fun w1 => ∃ x4a x4l x4c, Cel w1 a 0 (vS x4a x4l x4c) ∧ Calls cx.P F.arena_fit #[vI g] w1 (Ret fun v1 w2 => ∃ r1, v1 = vI r1 ∧ Cel w2 a 0 (vS x4a x4l x4c) ∧ Al w2 [vI (bitI .or .i64 ((cl : Nat) : Int) 1099511627776), vI r1, vI 0] T.int fun b1 w3 => Cel w3 a 0 (vS x4a x4l x4c) ∧ Rn cx.P (Builtin.append_ #[T.s_int, T.s_int] T.s_int #[vS x4a x4l x4c, vS (aP b1 0) 3 3]) w3 fun v2 w4 => ∃ r2a r2l r2c, v2 = vS r2a r2l r2c ∧ Rn cx.P (Builtin.append_ #[T.s_int, T.s_int] T.s_int #[vS r2a r2l r2c, vS ca cl cc]) w4 fun v3 w5 => ∃ r3a r3l r3c, v3 = vS r3a r3l r3c ∧ St w5 a 0 [vS r3a r3l r3c] fun w6 => ∃ x5, Cel w6 a 2 (vI x5) ∧ InI (x5 + 1) ∧ St w6 a 2 [vI (x5 + 1)] fun w7 => ∃ x6, Cel w7 a 3 (.map x6) ∧ Rn cx.P (Instr.mapUpdate T.m_int_bool (.map x6) (vI ((x1l : Nat) : Int)) (vB true)) w7 fun _ w8 => R (.tuple #[vI ((x1l : Nat) : Int), vB true]) w8)) (Dr w fun w9 => ∃ x7a x7l x7c, Cel w9 a 0 (vS x7a x7l x7c) ∧ Calls cx.P F.arena_fit #[vI g] w9 (Ret fun v4 w10 => ∃ r4, v4 = vI r4 ∧ Cel w10 a 0 (vS x7a x7l x7c) ∧ Al w10 [vI ((cl : Nat) : Int), vI r4, vI 0] T.int fun b2 w11 => Cel w11 a 0 (vS x7a x7l x7c) ∧ Rn cx.P (Builtin.append_ #[T.s_int, T.s_int] T.s_int #[vS x7a x7l x7c, vS (aP b2 0) 3 3]) w11 fun v5 w12 => ∃ r5a r5l r5c, v5 = vS r5a r5l r5c ∧ Rn cx.P (Builtin.append_ #[T.s_int, T.s_int] T.s_int #[vS r5a r5l r5c, vS ca cl cc]) w12 fun v6 w13 => ∃ r6a r6l r6c, v6 = vS r6a r6l r6c ∧ St w13 a 0 [vS r6a r6l r6c] fun w14 => ∃ x8, Cel w14 a 2 (vI x8) ∧ InI (x8 + 1) ∧ St w14 a 2 [vI (x8 + 1)] fun w15 => ∃ x9, Cel w15 a 3 (.map x9) ∧ Rn cx.P (Instr.mapUpdate T.m_int_bool (.map x9) (vI ((x1l : Nat) : Int)) (vB true)) w15 fun _ w16 => R (.tuple #[vI ((x1l : Nat) : Int), vB true]) w16)))) (gif isLearned (Dr w fun w17 => ∃ x10a x10l x10c, Cel w17 a 0 (vS x10a x10l x10c) ∧ Calls cx.P F.arena_fit #[vI g] w17 (Ret fun v7 w18 => ∃ r7, v7 = vI r7 ∧ Cel w18 a 0 (vS x10a x10l x10c) ∧ Al w18 [vI (bitI .or .i64 ((cl : Nat) : Int) 1099511627776), vI r7, vI 0] T.int fun b3 w19 => Cel w19 a 0 (vS x10a x10l x10c) ∧ Rn cx.P (Builtin.append_ #[T.s_int, T.s_int] T.s_int #[vS x10a x10l x10c, vS (aP b3 0) 3 3]) w19 fun v8 w20 => ∃ r8a r8l r8c, v8 = vS r8a r8l r8c ∧ Rn cx.P (Builtin.append_ #[T.s_int, T.s_int] T.s_int #[vS r8a r8l r8c, vS ca cl cc]) w20 fun v9 w21 => ∃ r9a r9l r9c, v9 = vS r9a r9l r9c ∧ St w21 a 0 [vS r9a r9l r9c] fun w22 => ∃ x11, Cel w22 a 2 (vI x11) ∧ InI (x11 + 1) ∧ St w22 a 2 [vI (x11 + 1)] fun w23 => ∃ x12, Cel w23 a 3 (.map x12) ∧ Rn cx.P (Instr.mapUpdate T.m_int_bool (.map x12) (vI ((x1l : Nat) : Int)) (vB true)) w23 fun _ w24 => R (.tuple #[vI ((x1l : Nat) : Int), vB true]) w24)) (Dr w fun w25 => ∃ x13a x13l x13c, Cel w25 a 0 (vS x13a x13l x13c) ∧ Calls cx.P F.arena_fit #[vI g] w25 (Ret fun v10 w26 => ∃ r10, v10 = vI r10 ∧ Cel w26 a 0 (vS x13a x13l x13c) ∧ Al w26 [vI ((cl : Nat) : Int), vI r10, vI 0] T.int fun b4 w27 => Cel w27 a 0 (vS x13a x13l x13c) ∧ Rn cx.P (Builtin.append_ #[T.s_int, T.s_int] T.s_int #[vS x13a x13l x13c, vS (aP b4 0) 3 3]) w27 fun v11 w28 => ∃ r11a r11l r11c, v11 = vS r11a r11l r11c ∧ Rn cx.P (Builtin.append_ #[T.s_int, T.s_int] T.s_int #[vS r11a r11l r11c, vS ca cl cc]) w28 fun v12 w29 => ∃ r12a r12l r12c, v12 = vS r12a r12l r12c ∧ St w29 a 0 [vS r12a r12l r12c] fun w30 => ∃ x14, Cel w30 a 2 (vI x14) ∧ InI (x14 + 1) ∧ St w30 a 2 [vI (x14 + 1)] fun w31 => ∃ x15, Cel w31 a 3 (.map x15) ∧ Rn cx.P (Instr.mapUpdate T.m_int_bool (.map x15) (vI ((x1l : Nat) : Int)) (vB true)) w31 fun _ w32 => R (.tuple #[vI ((x1l : Nat) : Int), vB true]) w32)))) :
    Calls cx.P F.arena_Arena_Add #[vP a 0, vS ca cl cc, vB isLearned, vI g] w (Ret R) :=
  calls_of_gFn (C := cx) (an := ⟨[], []⟩) (f := F.arena_Arena_Add) (fn := Tryz.f63) (args := [vP a 0, vS ca cl cc, vB isLearned, vI g]) Tryz.func63 hvc (by kernel_rfl)

theorem vc_arena_Arena_Has (a : Nat) (ref : Int) (w : World) (R : Value → World → Prop)
    (hvc : ∃ x1, Cel w a 3 (.map x1) ∧ Rn cx.P (Instr.lookup T.m_int_bool (.map x1) (vI ref) false) w fun v1 w1 => ∃ r1, v1 = vB r1 ∧ R (vB r1) w1) :
    Calls cx.P F.arena_Arena_Has #[vP a 0, vI ref] w (Ret R) :=
  calls_of_gFn (C := cx) (an := ⟨[], []⟩) (f := F.arena_Arena_Has) (fn := Tryz.f66) (args := [vP a 0, vI ref]) Tryz.func66 hvc (by kernel_rfl)

theorem vc_arena_Arena_Len (a : Nat) (ref : Int) (w : World) (R : Value → World → Prop)
    (hvc : Calls cx.P F.arena_Arena_Has #[vP a 0, vI ref] w (Ret fun v1 w1 => ∃ r1, v1 = vB r1 ∧ gif (!r1) (R (vI 0) w1) (∃ x1a x1l x1c, Cel w1 a 0 (vS x1a x1l x1c) ∧ InI (ref + 0) ∧ ((0 : Int) ≤ ref + 0 ∧ ref + 0 < ((x1l : Nat) : Int)) ∧ pm x1a fun b1 o1 => ∃ x2, Cel w1 b1 (o1 + ((ref + 0).toNat)) (vI x2) ∧ R (vI (bitI .and .i64 x2 1099511627775)) w1))) :
    Calls cx.P F.arena_Arena_Len #[vP a 0, vI ref] w (Ret R) :=
  calls_of_gFn (C := cx) (an := ⟨[], []⟩) (f := F.arena_Arena_Len) (fn := Tryz.f95) (args := [vP a 0, vI ref]) Tryz.func95 hvc (by kernel_rfl)

theorem vc_arena_Arena_Lits (a : Nat) (ref : Int) (w : World) (R : Value → World → Prop)
    (hvc : Calls cx.P F.arena_Arena_Len #[vP a 0, vI ref] w (Ret fun v1 w1 => ∃ r1, v1 = vI r1 ∧ gif (r1 == (0 : Int)) (R vNS w1) (InI (ref + 3) ∧ ∃ x1a x1l x1c, Cel w1 a 0 (vS x1a x1l x1c) ∧ InI ((ref + 3) + r1) ∧ InI ((ref + 3) + r1) ∧ ((0 : Int) ≤ ref + 3 ∧ ref + 3 ≤ (ref + 3) + r1 ∧ (ref + 3) + r1 ≤ (ref + 3) + r1 ∧ (ref + 3) + r1 ≤ ((x1c : Nat) : Int)) ∧ Rn cx.P (Builtin.append_ #[T.s_int, T.s_int] T.s_int #[vNS, vS (slOff x1a (((ref + 3) + r1).toNat) ((ref + 3).toNat) 1) ((((ref + 3) + r1).toNat) - ((ref + 3).toNat)) ((((ref + 3) + r1).toNat) - ((ref + 3).toNat))]) w1 fun v2 w2 => ∃ r2a r2l r2c, v2 = vS r2a r2l r2c ∧ R (vS r2a r2l r2c) w2))) :
    Calls cx.P F.arena_Arena_Lits #[vP a 0, vI ref] w (Ret R) :=
  calls_of_gFn (C := cx) (an := ⟨[], []⟩) (f := F.arena_Arena_Lits) (fn := Tryz.f107) (args := [vP a 0, vI ref]) Tryz.func107 hvc (by kernel_rfl)

theorem vc_arena_Arena_Lit (a : Nat) (ref : Int) (i : Int) (w : World) (R : Value → World → Prop)
    (hvc : gif (decide (i < (0 : Int))) (R (vI 0) w) (Calls cx.P F.arena_Arena_Len #[vP a 0, vI ref] w (Ret fun v1 w1 => ∃ r1, v1 = vI r1 ∧ gif (decide (i ≥ (r1 : Int))) (R (vI 0) w1) (∃ x1a x1l x1c, Cel w1 a 0 (vS x1a x1l x1c) ∧ InI (ref + 3) ∧ InI ((ref + 3) + i) ∧ ((0 : Int) ≤ (ref + 3) + i ∧ (ref + 3) + i < ((x1l : Nat) : Int)) ∧ pm x1a fun b1 o1 => ∃ x2, Cel w1 b1 (o1 + (((ref + 3) + i).toNat)) (vI x2) ∧ R (vI x2) w1)))) :
    Calls cx.P F.arena_Arena_Lit #[vP a 0, vI ref, vI i] w (Ret R) :=
  calls_of_gFn (C := cx) (an := ⟨[], []⟩) (f := F.arena_Arena_Lit) (fn := Tryz.f97) (args := [vP a 0, vI ref, vI i]) Tryz.func97 hvc (by kernel_rfl)

theorem vc_arena_Arena_Swap (a : Nat) (ref : Int) (i : Int) (k : Int) (w : World) (R : Value → World → Prop)
    (hvc : Calls cx.P F.arena_Arena_Lit #[vP a 0, vI ref, vI i] w (Ret fun v1 w1 => ∃ r1, v1 = vI r1 ∧ gif (r1 == (0 : Int)) (R (vB false) w1) (Calls cx.P F.arena_Arena_Lit #[vP a 0, vI ref, vI k] w1 (Ret fun v2 w2 => ∃ r2, v2 = vI r2 ∧ gif (r2 == (0 : Int)) (R (vB false) w2) (∃ x1a x1l x1c, Cel w2 a 0 (vS x1a x1l x1c) ∧ InI (ref + 3) ∧ ((0 : Int) ≤ ref + 3 ∧ ref + 3 ≤ ((x1l : Nat) : Int)) ∧ Dr w2 fun w3 => ((0 : Int) ≤ k ∧ k < ((x1l - ((ref + 3).toNat) : Nat) : Int)) ∧ pm (slOff x1a x1c ((ref + 3).toNat) 1) fun b1 o1 => ∃ x2, Cel w3 b1 (o1 + ((k).toNat)) (vI x2) ∧ ((0 : Int) ≤ i ∧ i < ((x1l - ((ref + 3).toNat) : Nat) : Int)) ∧ pm (slOff x1a x1c ((ref + 3).toNat) 1) fun b2 o2 => ∃ x3, Cel w3 b2 (o2 + ((i).toNat)) (vI x3) ∧ ((0 : Int) ≤ i ∧ i < ((x1l - ((ref + 3).toNat) : Nat) : Int)) ∧ pm (slOff x1a x1c ((ref + 3).toNat) 1) fun b3 o3 => St w3 b3 (o3 + ((i).toNat)) [vI x2] fun w4 => ((0 : Int) ≤ k ∧ k < ((x1l - ((ref + 3).toNat) : Nat) : Int)) ∧ pm (slOff x1a x1c ((ref + 3).toNat) 1) fun b4 o4 => St w4 b4 (o4 + ((k).toNat)) [vI x3] fun w5 => R (vB true) w5))))) :
    Calls cx.P F.arena_Arena_Swap #[vP a 0, vI ref, vI i, vI k] w (Ret R) :=
  calls_of_gFn (C := cx) (an := ⟨[], []⟩) (f := F.arena_Arena_Swap) (fn := Tryz.f141) (args := [vP a 0, vI ref, vI i, vI k]) Tryz.func141 hvc (by kernel_rfl)

theorem vc_arena_Arena_Learned (a : Nat) (ref : Int) (w : World) (R : Value → World → Prop)
    (hvc : Calls cx.P F.arena_Arena_Has #[vP a 0, vI ref] w (Ret fun v1 w1 => ∃ r1, v1 = vB r1 ∧ gif r1 (∃ x1a x1l x1c, Cel w1 a 0 (vS x1a x1l x1c) ∧ InI (ref + 0) ∧ ((0 : Int) ≤ ref + 0 ∧ ref + 0 < ((x1l : Nat) : Int)) ∧ pm x1a fun b1 o1 => ∃ x2, Cel w1 b1 (o1 + ((ref + 0).toNat)) (vI x2) ∧ R (vB ((bitI .and .i64 x2 1099511627776) != (0 : Int))) w1) (R (vB false) w1))) :
    Calls cx.P F.arena_Arena_Learned #[vP a 0, vI ref] w (Ret R) :=
  calls_of_gFn (C := cx) (an := ⟨[], []⟩) (f := F.arena_Arena_Learned) (fn := Tryz.f106) (args := [vP a 0, vI ref]) Tryz.func106 hvc (by kernel_rfl)

theorem vc_arena_Arena_get (a : Nat) (ref : Int) (which : Int) (w : World) (R : Value → World → Prop)
    (hvc : Calls cx.P F.arena_Arena_Has #[vP a 0, vI ref] w (Ret fun v1 w1 => ∃ r1, v1 = vB r1 ∧ gif (!r1) (R (vI 0) w1) (∃ x1a x1l x1c, Cel w1 a 0 (vS x1a x1l x1c) ∧ InI (ref + which) ∧ ((0 : Int) ≤ ref + which ∧ ref + which < ((x1l : Nat) : Int)) ∧ pm x1a fun b1 o1 => ∃ x2, Cel w1 b1 (o1 + ((ref + which).toNat)) (vI x2) ∧ R (vI x2) w1))) :
    Calls cx.P F.arena_Arena_get #[vP a 0, vI ref, vI which] w (Ret R) :=
  calls_of_gFn (C := cx) (an := ⟨[], []⟩) (f := F.arena_Arena_get) (fn := Tryz.f184) (args := [vP a 0, vI ref, vI which]) Tryz.func184 hvc (by kernel_rfl)

theorem vc_arena_Arena_set (a : Nat) (ref : Int) (which : Int) (n : Int) (w : World) (R : Value → World → Prop)
    (hvc : Calls cx.P F.arena_Arena_Has #[vP a 0, vI ref] w (Ret fun v1 w1 => ∃ r1, v1 = vB r1 ∧ gif (!r1) (R (vB false) w1) (Dr w1 fun w2 => ∃ x1a x1l x1c, Cel w2 a 0 (vS x1a x1l x1c) ∧ InI (ref + which) ∧ Calls cx.P F.arena_fit #[vI n] w2 (Ret fun v2 w3 => ∃ r2, v2 = vI r2 ∧ Cel w3 a 0 (vS x1a x1l x1c) ∧ ((0 : Int) ≤ ref + which ∧ ref + which < ((x1l : Nat) : Int)) ∧ pm x1a fun b1 o1 => St w3 b1 (o1 + ((ref + which).toNat)) [vI r2] fun w4 => R (vB true) w4)))) :
    Calls cx.P F.arena_Arena_set #[vP a 0, vI ref, vI which, vI n] w (Ret R) :=
  calls_of_gFn (C := cx) (an := ⟨[], []⟩) (f := F.arena_Arena_set) (fn := Tryz.f191) (args := [vP a 0, vI ref, vI which, vI n]) Tryz.func191 hvc (by kernel_rfl)

theorem vc_arena_Arena_Glue (a : Nat) (ref : Int) (w : World) (R : Value → World → Prop)
    (hvc : Calls cx.P F.arena_Arena_get #[vP a 0, vI ref, vI 1] w (Ret fun v1 w1 => ∃ r1, v1 = vI r1 ∧ R (vI r1) w1)) :
    Calls cx.P F.arena_Arena_Glue #[vP a 0, vI ref] w (Ret R) :=
  calls_of_gFn (C := cx) (an := ⟨[], []⟩) (f := F.arena_Arena_Glue) (fn := Tryz.f150) (args := [vP a 0, vI ref]) Tryz.func150 hvc (by kernel_rfl)

theorem vc_arena_Arena_SetGlue (a : Nat) (ref : Int) (n : Int) (w : World) (R : Value → World → Prop)
    (hvc : Calls cx.P F.arena_Arena_set #[vP a 0, vI ref, vI 1, vI n] w (Ret fun v1 w1 => ∃ r1, v1 = vB r1 ∧ R (vB r1) w1)) :
    Calls cx.P F.arena_Arena_SetGlue #[vP a 0, vI ref, vI n] w (Ret R) :=
  calls_of_gFn (C := cx) (an := ⟨[], []⟩) (f := F.arena_Arena_SetGlue) (fn := Tryz.f162) (args := [vP a 0, vI ref, vI n]) Tryz.func162 hvc (by kernel_rfl)

theorem vc_arena_Arena_Uses (a : Nat) (ref : Int) (w : World) (R : Value → World → Prop)
    (hvc : Calls cx.P F.arena_Arena_get #[vP a 0, vI ref, vI 2] w (Ret fun v1 w1 => ∃ r1, v1 = vI r1 ∧ R (vI r1) w1)) :
    Calls cx.P F.arena_Arena_Uses #[vP a 0, vI ref] w (Ret R) :=
  calls_of_gFn (C := cx) (an := ⟨[], []⟩) (f := F.arena_Arena_Uses) (fn := Tryz.f183) (args := [vP a 0, vI ref]) Tryz.func183 hvc (by kernel_rfl)

theorem vc_arena_Arena_SetUses (a : Nat) (ref : Int) (n : Int) (w : World) (R : Value → World → Prop)
    (hvc : Calls cx.P F.arena_Arena_set #[vP a 0, vI ref, vI 2, vI n] w (Ret fun v1 w1 => ∃ r1, v1 = vB r1 ∧ R (vB r1) w1)) :
    Calls cx.P F.arena_Arena_SetUses #[vP a 0, vI ref, vI n] w (Ret R) :=
  calls_of_gFn (C := cx) (an := ⟨[], []⟩) (f := F.arena_Arena_SetUses) (fn := Tryz.f161) (args := [vP a 0, vI ref, vI n]) Tryz.func161 hvc (by kernel_rfl)

theorem vc_arena_Arena_Drop (a : Nat) (ref : Int) (w : World) (R : Value → World → Prop)
    (hvc : Calls cx.P F.arena_Arena_Has #[vP a 0, vI ref] w (Ret fun v1 w1 => ∃ r1, v1 = vB r1 ∧ gif (!r1) (R (vB false) w1) (∃ x1, Cel w1 a 3 (.map x1) ∧ Rn cx.P (Builtin.delete_ #[T.m_int_bool, T.int] T.unit #[.map x1, vI ref]) w1 fun v2 w2 => ∃ x2a x2l x2c, Cel w2 a 0 (vS x2a x2l x2c) ∧ InI (ref + 0) ∧ ((0 : Int) ≤ ref + 0 ∧ ref + 0 < ((x2l : Nat) : Int)) ∧ pm x2a fun b1 o1 => ∃ x3, Cel w2 b1 (o1 + ((ref + 0).toNat)) (vI x3) ∧ ((0 : Int) ≤ ref + 0 ∧ ref + 0 < ((x2l : Nat) : Int)) ∧ pm x2a fun b2 o2 => St w2 b2 (o2 + ((ref + 0).toNat)) [vI (bitI .or .i64 x3 2199023255552)] fun w3 => ∃ x4, Cel w3 a 2 (vI x4) ∧ InI (x4 - 1) ∧ St w3 a 2 [vI (x4 - 1)] fun w4 => R (vB true) w4))) :
    Calls cx.P F.arena_Arena_Drop #[vP a 0, vI ref] w (Ret R) :=
  calls_of_gFn (C := cx) (an := ⟨[], []⟩) (f := F.arena_Arena_Drop) (fn := Tryz.f151) (args := [vP a 0, vI ref]) Tryz.func151 hvc (by kernel_rfl)

theorem vc_arena_Arena_Words (a : Nat) (w : World) (R : Value → World → Prop)
    (hvc : ∃ x1a x1l x1c, Cel w a 0 (vS x1a x1l x1c) ∧ R (vI ((x1l : Nat) : Int)) w) :
    Calls cx.P F.arena_Arena_Words #[vP a 0] w (Ret R) :=
  calls_of_gFn (C := cx) (an := ⟨[], []⟩) (f := F.arena_Arena_Words) (fn := Tryz.f51) (args := [vP a 0]) Tryz.func51 hvc (by kernel_rfl)

end Go.Sv
/- The arena: what its functions do, said of a list of records. -/
namespace Go.Sv
open Go Go.Proofs
set_option maxRecDepth 100000

/-! ### bits -/
theorem toNat_i64 {n : Nat} (h : n < 4611686018427387904) : (BitVec.ofInt 64 (n : Int)).toNat = n := by
  rw [BitVec.ofInt_natCast, BitVec.toNat_ofNat, Nat.mod_eq_of_lt (by omega)]
theorem bitw_and {n k : Nat} (h1 : n < 4611686018427387904) (hk : k < 4611686018427387904) : bitI .and .i64 (n : Int) (k : Int) = ((n &&& k : Nat) : Int) := by
  have h2 : n &&& k ≤ n := Nat.and_le_left
  show IntKind.i64.wrap ((BitVec.ofInt 64 (n : Int) &&& BitVec.ofInt 64 (k : Int)).toNat : Int) = _
  rw [BitVec.toNat_and, toNat_i64 h1, toNat_i64 hk, wrap_in (by unfold InI; omega)]
theorem bitw_or {n k : Nat} (h1 : n < 4611686018427387904) (hk : k < 4611686018427387904) (h2 : n ||| k < 4611686018427387904) : bitI .or .i64 (n : Int) (k : Int) = ((n ||| k : Nat) : Int) := by
  show IntKind.i64.wrap ((BitVec.ofInt 64 (n : Int) ||| BitVec.ofInt 64 (k : Int)).toNat : Int) = _
  rw [BitVec.toNat_or, toNat_i64 h1, toNat_i64 hk, wrap_in (by unfold InI; omega)]

theorem and_pow (n i : Nat) : n &&& 2 ^ i = (n.testBit i).toNat * 2 ^ i := by
  apply Nat.eq_of_testBit_eq
  intro j
  rw [Nat.testBit_and, Nat.testBit_two_pow]
  by_cases hj : i = j
  · subst hj
    cases n.testBit i <;> simp
  · cases n.testBit i <;> simp [hj]

/-! ### the record -/
structure Cl where
  lits : List Int
  learned : Bool
  glue : Int
  uses : Int
  gone : Bool
def Cl.headN (c : Cl) : Nat := c.lits.length + (if c.learned then 1099511627776 else 0) + (if c.gone then 2199023255552 else 0)
def Cl.words (c : Cl) : List Int := (c.headN : Int) :: c.glue :: c.uses :: c.lits
theorem Cl.words_len (c : Cl) : c.words.length = c.lits.length + 3 := rfl
theorem head_len {c : Cl} (h : c.lits.length < 1099511627776) : bitI .and .i64 (c.headN : Int) 1099511627775 = (c.lits.length : Int) := by
  have hh : c.headN < 4611686018427387904 := by unfold Cl.headN; split <;> split <;> omega
  have := bitw_and hh (k := 1099511627775) (by omega)
  rw [show (1099511627775 : Int) = ((1099511627775 : Nat) : Int) from rfl, this, show (1099511627775 : Nat) = 2 ^ 40 - 1 from rfl, Nat.and_two_pow_sub_one_eq_mod]
  congr 1
  unfold Cl.headN
  rw [show (2 : Nat) ^ 40 = 1099511627776 from rfl]
  split <;> split <;> omega
theorem head_learned {c : Cl} (h : c.lits.length < 1099511627776) : (bitI .and .i64 (c.headN : Int) 1099511627776 != (0 : Int)) = c.learned := by
  have hh : c.headN < 4611686018427387904 := by unfold Cl.headN; split <;> split <;> omega
  have := bitw_and hh (k := 1099511627776) (by omega)
  rw [show (1099511627776 : Int) = ((1099511627776 : Nat) : Int) from rfl, this, show (1099511627776 : Nat) = 2 ^ 40 from rfl, and_pow]
  have e : c.headN.testBit 40 = c.learned := by
    rw [Nat.testBit_eq_decide_div_mod_eq, show (2 : Nat) ^ 40 = 1099511627776 from rfl]
    unfold Cl.headN
    cases c.learned <;> cases c.gone <;> simp <;> omega
  rw [e]
  cases c.learned <;> rfl
theorem head_gone {c : Cl} (h : c.lits.length < 1099511627776) : (bitI .and .i64 (c.headN : Int) 2199023255552 == (0 : Int)) = !c.gone := by
  have hh : c.headN < 4611686018427387904 := by unfold Cl.headN; split <;> split <;> omega
  have := bitw_and hh (k := 2199023255552) (by omega)
  rw [show (2199023255552 : Int) = ((2199023255552 : Nat) : Int) from rfl, this, show (2199023255552 : Nat) = 2 ^ 41 from rfl, and_pow]
  have e : c.headN.testBit 41 = c.gone := by
    rw [Nat.testBit_eq_decide_div_mod_eq, show (2 : Nat) ^ 41 = 2199023255552 from rfl]
    unfold Cl.headN
    cases c.learned <;> cases c.gone <;> simp <;> omega
  rw [e]
  cases c.gone <;> rfl
theorem or_learned {n : Nat} (h : n < 1099511627776) : bitI .or .i64 (n : Int) 1099511627776 = ((n + 1099511627776 : Nat) : Int) := by
  have e : n ||| 1099511627776 = n + 1099511627776 := by
    have := Nat.two_pow_add_eq_or_of_lt (i := 40) (b := n) (by omega) 1
    rw [Nat.or_comm]
    simp at this
    omega
  have := bitw_or (n := n) (k := 1099511627776) (by omega) (by omega) (by omega)
  rw [e] at this
  exact this
theorem or_gone {c : Cl} (h : c.lits.length < 1099511627776) (hg : c.gone = false) : bitI .or .i64 (c.headN : Int) 2199023255552 = (({ c with gone := true } : Cl).headN : Int) := by
  have hn : c.headN < 2199023255552 := by unfold Cl.headN; rw [hg]; split <;> simp <;> omega
  have e : c.headN ||| 2199023255552 = c.headN + 2199023255552 := by
    have := Nat.two_pow_add_eq_or_of_lt (i := 41) (b := c.headN) (by omega) 1
    rw [Nat.or_comm]
    simp at this
    omega
  have := bitw_or (n := c.headN) (k := 2199023255552) (by omega) (by omega) (by omega)
  rw [e] at this
  rw [show (2199023255552 : Int) = ((2199023255552 : Nat) : Int) from rfl, this]
  congr 1
  unfold Cl.headN
  rw [hg]; simp

structure Ar where
  recs : List Cl
  limit : Int
  count : Int
def Ar.words (A : Ar) : List Int := A.recs.flatMap Cl.words
def recAt : List Cl → Int → Option Cl
  | [], _ => none
  | c :: cs, r => if r = 0 then some c else recAt cs (r - c.words.length)
def recUpd (f : Cl → Cl) : List Cl → Int → List Cl
  | [], _ => []
  | c :: cs, r => if r = 0 then f c :: cs else c :: recUpd f cs (r - c.words.length)
theorem recAt_split : ∀ {cs : List Cl} {r : Int} {c : Cl}, recAt cs r = some c → ∃ pre post, cs = pre ++ c :: post ∧ r = ((pre.flatMap Cl.words).length : Int) ∧ ∀ f, recUpd f cs r = pre ++ f c :: post
  | [], r, c, h => by simp [recAt] at h
  | d :: cs, r, c, h => by
    simp only [recAt] at h
    by_cases hr : r = 0
    · subst hr
      simp only [if_true, Option.some.injEq] at h
      subst h
      exact ⟨[], cs, rfl, rfl, fun f => by simp [recUpd]⟩
    · rw [if_neg hr] at h
      obtain ⟨pre, post, h1, h2, h3⟩ := recAt_split h
      refine ⟨d :: pre, post, by rw [h1]; rfl, ?_, fun f => ?_⟩
      · rw [List.flatMap_cons, List.length_append]; omega
      · simp only [recUpd, if_neg hr, h3 f]; rfl
/-- A live clause. -/
def Ar.get (A : Ar) (r : Int) : Option Cl := match recAt A.recs r with
  | some c => if c.gone then none else some c
  | none => none
def Ar.has (A : Ar) (r : Int) : Bool := (A.get r).isSome
def Ar.upd (A : Ar) (r : Int) (f : Cl → Cl) : Ar := { A with recs := recUpd f A.recs r }
def Ar.lits (A : Ar) (r : Int) : List Int := match A.get r with
  | some c => c.lits
  | none => []
structure Ar.Sm (A : Ar) : Prop where
  n : A.words.length ≤ 1000000000
theorem Ar.get_at {A : Ar} {r : Int} {c : Cl} (h : A.get r = some c) : recAt A.recs r = some c ∧ c.gone = false := by
  unfold Ar.get at h
  cases hc : recAt A.recs r with
  | none => rw [hc] at h; cases h
  | some d =>
    rw [hc] at h
    simp only at h
    split at h
    · cases h
    · rename_i hg
      simp only [Option.some.injEq] at h
      subst h
      exact ⟨rfl, by simpa using hg⟩
theorem Ar.get_word {A : Ar} {r : Int} {c : Cl} (h : recAt A.recs r = some c) : 0 ≤ r ∧ r.toNat + c.words.length ≤ A.words.length ∧ (∀ k, k < c.words.length → A.words[r.toNat + k]? = c.words[k]?) := by
  obtain ⟨pre, post, h1, h2, _⟩ := recAt_split h
  have e : A.words = pre.flatMap Cl.words ++ (c.words ++ post.flatMap Cl.words) := by unfold Ar.words; rw [h1]; simp
  subst h2
  rw [Int.toNat_natCast, e]
  refine ⟨by omega, by rw [List.length_append, List.length_append]; omega, fun k hk => ?_⟩
  rw [List.getElem?_append_right (by omega), show (pre.flatMap Cl.words).length + k - (pre.flatMap Cl.words).length = k by omega, List.getElem?_append_left hk]
theorem Ar.upd_word {A : Ar} {r : Int} {c : Cl} (h : recAt A.recs r = some c) (f : Cl → Cl) (k : Nat) (us : List Int) (hk : k + us.length ≤ c.words.length) (he : setL (c.words.map vI) k (us.map vI) = (f c).words.map vI) :
    setL (A.words.map vI) (r.toNat + k) (us.map vI) = (A.upd r f).words.map vI := by
  obtain ⟨pre, post, h1, h2, h3⟩ := recAt_split h
  have e : A.words = pre.flatMap Cl.words ++ c.words ++ post.flatMap Cl.words := by unfold Ar.words; rw [h1]; simp
  have e2 : (A.upd r f).words = pre.flatMap Cl.words ++ (f c).words ++ post.flatMap Cl.words := by unfold Ar.words Ar.upd; rw [h3]; simp
  subst h2
  rw [Int.toNat_natCast, e, e2, List.map_append, List.map_append, List.map_append, List.map_append, ← he]
  have := setL_off (us.map vI) ((pre.flatMap Cl.words).map vI) (c.words.map vI) ((post.flatMap Cl.words).map vI) k (by simpa using hk)
  rw [List.length_map] at this
  exact this

def arL (a : Nat) (A : Ar) (aw : Option Addr) (cw mb : Nat) : List HPr :=
  [blk a [vS aw A.words.length cw, vI A.limit, vI A.count, .map (some mb)] T.arena_Arena, osl T.int 1 aw A.words.length cw (A.words.map vI), mpF mb fun x => if A.has x then some (vB true) else none]
def ArR (a : Nat) (A : Ar) : HPr := fun m => ∃ aw cw mb, SatL (arL a A aw cw mb) m
theorem ArR.op {a : Nat} {A : Ar} {L : List HPr} {w : World} (H : Holds (ArR a A :: L) w) : ∃ aw cw mb, Holds (arL a A aw cw mb ++ L) w := by
  obtain ⟨F, ⟨aw, cw, mb, h⟩, hL⟩ := H
  exact ⟨aw, cw, mb, SatL_app.2 ⟨F, h, hL⟩⟩
theorem ArR.sh {a : Nat} {A : Ar} {aw : Option Addr} {cw mb : Nat} {L : List HPr} {w : World} (H : Holds (arL a A aw cw mb ++ L) w) : Holds (ArR a A :: L) w :=
  part_shut (fun _ h => ⟨aw, cw, mb, h⟩) H
theorem mpIB : MpT cx T.m_int_bool T.int T.bool (vB false) := MpT.of rfl rfl (i := ⟨.bool, 1, 1, vB false⟩) rfl

theorem k_arena_New {L : List HPr} {w : World} (H : Holds L w) (n : Int) :
    Calls cx.P F.arena_New #[vI n] w (Ret fun v w' => ∃ a, v = vP a 0 ∧ Holds (ArR a ⟨[], n, 0⟩ :: L) w') := by
  apply vc_arena_New
  refine alM H fun mb w1 H => al H fun a w2 H => ⟨a, rfl, ?_⟩
  have H := osl_nil T.int 1 H
  have H := H.swap
  refine ArR.sh (aw := none) (cw := 0) (mb := mb) ?_
  exact H.set 2 rfl fun m hm => mpF_new hm
theorem k_Has {L : List HPr} {w : World} {a : Nat} {A : Ar} (H : Holds (ArR a A :: L) w) (r : Int) :
    Calls cx.P F.arena_Arena_Has #[vP a 0, vI r] w (Ret fun v w' => v = vB (A.has r) ∧ Holds (ArR a A :: L) w') := by
  apply vc_arena_Arena_Has
  obtain ⟨aw, cw, mb, H⟩ := ArR.op H
  refine ⟨_, cel H 0 rfl rfl, mlook mpIB H 2 rfl ⟨_, ?_, rfl, ArR.sh H⟩⟩
  cases A.has r <;> rfl
theorem k_ALen {L : List HPr} {w : World} {a : Nat} {A : Ar} (H : Holds (ArR a A :: L) w) (hs : A.Sm) (r : Int) :
    Calls cx.P F.arena_Arena_Len #[vP a 0, vI r] w (Ret fun v w' => v = vI ((A.lits r).length : Int) ∧ Holds (ArR a A :: L) w') := by
  apply vc_arena_Arena_Len
  refine Calls.ret (k_Has H r) ?_
  rintro _ w1 ⟨rfl, H⟩
  refine ⟨_, rfl, ?_⟩
  unfold Ar.has Ar.lits
  cases hc : A.get r with
  | none => exact ⟨rfl, H⟩
  | some c =>
    obtain ⟨aw, cw, mb, H⟩ := ArR.op H
    obtain ⟨h1, h2, h3⟩ := Ar.get_word (Ar.get_at hc).1
    have hn := hs.n
    rw [Cl.words_len] at h2 h3
    refine gif_f rfl ⟨_, _, _, cel H 0 rfl rfl, by unfold InI; omega, ⟨by omega, by omega⟩, opm H 1 rfl (by omega) fun b o e => ?_⟩
    subst e
    have := h3 0 (by omega)
    refine ⟨c.headN, oc H 1 rfl (k := (r + 0).toNat) ?_, ?_, ArR.sh H⟩
    · rw [show (r + 0).toNat = r.toNat + 0 by omega]; exact map_get vI this
    · rw [head_len (by omega)]

theorem k_ALit {L : List HPr} {w : World} {a : Nat} {A : Ar} (H : Holds (ArR a A :: L) w) (hs : A.Sm) (r i : Int) :
    Calls cx.P F.arena_Arena_Lit #[vP a 0, vI r, vI i] w (Ret fun v w' => v = vI (if i < 0 then 0 else ((A.lits r)[i.toNat]?).getD 0) ∧ Holds (ArR a A :: L) w') := by
  apply vc_arena_Arena_Lit
  refine gif_i (fun h => ?_) (fun h => ?_)
  · have h' : i < 0 := by simpa using h
    exact ⟨by rw [if_pos h'], H⟩
  · have h' : ¬ i < 0 := by simpa using h
    rw [if_neg h']
    refine Calls.ret (k_ALen H hs r) ?_
    rintro _ w1 ⟨rfl, H⟩
    refine ⟨_, rfl, gif_i (fun h2 => ?_) (fun h2 => ?_)⟩
    · have h2' : ((A.lits r).length : Int) ≤ i := by simpa using h2
      exact ⟨by rw [List.getElem?_eq_none (by omega)]; rfl, H⟩
    · have h2' : ¬ ((A.lits r).length : Int) ≤ i := by simpa using h2
      unfold Ar.lits at h2' ⊢
      cases hc : A.get r with
      | none => rw [hc] at h2'; simp at h2'; omega
      | some c =>
        rw [hc] at h2'
        simp only at h2'
        obtain ⟨aw, cw, mb, H⟩ := ArR.op H
        obtain ⟨h3, h4, h5⟩ := Ar.get_word (Ar.get_at hc).1
        have hn := hs.n
        rw [Cl.words_len] at h4 h5
        have hlt : i.toNat < c.lits.length := by omega
        refine ⟨_, _, _, cel H 0 rfl rfl, by unfold InI; omega, by unfold InI; omega, ⟨by omega, by omega⟩, opm H 1 rfl (by omega) fun b o e => ?_⟩
        subst e
        have := h5 (3 + i.toNat) (by omega)
        refine ⟨c.lits[i.toNat], oc H 1 rfl (k := ((r + 3) + i).toNat) ?_, ?_, ArR.sh H⟩
        · rw [show ((r + 3) + i).toNat = r.toNat + (3 + i.toNat) by omega]
          refine map_get vI (this.trans ?_)
          rw [show 3 + i.toNat = i.toNat + 3 by omega]
          unfold Cl.words
          rw [List.getElem?_cons_succ, List.getElem?_cons_succ, List.getElem?_cons_succ]
          exact List.getElem?_eq_getElem hlt
        · simp only; rw [List.getElem?_eq_getElem hlt]; rfl
/-- The i-th literal; 0 where there is none. -/
def Ar.lit (A : Ar) (r i : Int) : Int := if i < 0 then 0 else ((A.lits r)[i.toNat]?).getD 0
theorem Ar.lit_get {A : Ar} {r i : Int} (h : A.lit r i ≠ 0) : ∃ c, A.get r = some c ∧ 0 ≤ i ∧ i.toNat < c.lits.length ∧ c.lits[i.toNat]? = some (A.lit r i) := by
  unfold Ar.lit at h ⊢
  split at h
  · exact absurd rfl h
  · rename_i hi
    unfold Ar.lits at h ⊢
    cases hc : A.get r with
    | none => rw [hc] at h; simp at h
    | some c =>
      rw [hc] at h
      simp only at h
      cases hl : c.lits[i.toNat]? with
      | none => rw [hl] at h; simp at h
      | some x =>
        have := (List.getElem?_eq_some_iff.1 hl).1
        refine ⟨c, rfl, by omega, this, ?_⟩
        simp only [hi, if_false, hl, Option.getD_some]
def Cl.swap (c : Cl) (i k : Int) : Cl := { c with lits := (c.lits.set i.toNat ((c.lits[k.toNat]?).getD 0)).set k.toNat ((c.lits[i.toNat]?).getD 0) }
def Ar.swap (A : Ar) (r i k : Int) : Ar := if A.lit r i = 0 ∨ A.lit r k = 0 then A else A.upd r fun c => c.swap i k
theorem recUpd_len (f : Cl → Cl) (hf : ∀ c, (f c).words.length = c.words.length) : ∀ (cs : List Cl) (r : Int), ((recUpd f cs r).flatMap Cl.words).length = (cs.flatMap Cl.words).length
  | [], _ => rfl
  | c :: cs, r => by
    unfold recUpd
    split
    · simp only [List.flatMap_cons, List.length_append, hf]
    · simp only [List.flatMap_cons, List.length_append, recUpd_len f hf cs]
theorem recAt_upd (f : Cl → Cl) (hf : ∀ c, (f c).words.length = c.words.length) : ∀ (cs : List Cl) (r x : Int), recAt (recUpd f cs r) x = if x = r then (recAt cs x).map f else recAt cs x
  | [], r, x => by simp [recUpd, recAt]
  | c :: cs, r, x => by
    unfold recUpd
    by_cases hr : r = 0
    · subst hr
      simp only [if_true, recAt, hf]
      by_cases hx : x = 0
      · simp [hx]
      · simp [hx]
    · simp only [hr, if_false, recAt]
      rw [recAt_upd f hf cs]
      by_cases hx : x = 0
      · have : ¬ 0 = r := fun e => hr e.symm
        simp [hx, this]
      · by_cases hxr : x = r
        · simp [hx, hxr, hr]
        · have : ¬ x - (c.words.length : Int) = r - c.words.length := by omega
          simp [hx, hxr, this]
theorem Ar.upd_has {A : Ar} {f : Cl → Cl} (hf : ∀ c, (f c).words.length = c.words.length) (hg : ∀ c, (f c).gone = c.gone) (r x : Int) : (A.upd r f).has x = A.has x := by
  unfold Ar.has Ar.get Ar.upd
  simp only
  rw [recAt_upd f hf]
  by_cases hx : x = r
  · subst hx
    cases recAt A.recs x with
    | none => simp
    | some c => simp only [if_true, Option.map_some, hg]; cases c.gone <;> rfl
  · simp [hx]
theorem Ar.upd_len {A : Ar} {f : Cl → Cl} (hf : ∀ c, (f c).words.length = c.words.length) (r : Int) : (A.upd r f).words.length = A.words.length := recUpd_len f hf _ _
theorem Cl.swap_len (i k : Int) (c : Cl) : (c.swap i k).words.length = c.words.length := by simp [Cl.swap, Cl.words]
theorem slOff_aP (b o m l : Nat) : slOff (aP b o) m l 1 = if m = l then aP b o else aP b (o + l) := by
  unfold slOff
  split
  · rfl
  · simp [aP, Addr.add]
theorem k_Swap {L : List HPr} {w : World} {a : Nat} {A : Ar} (H : Holds (ArR a A :: L) w) (hs : A.Sm) (r i k : Int) :
    Calls cx.P F.arena_Arena_Swap #[vP a 0, vI r, vI i, vI k] w (Ret fun v w' => (∃ x, v = vB x) ∧ Holds (ArR a (A.swap r i k) :: L) w') := by
  apply vc_arena_Arena_Swap
  refine Calls.ret (k_ALit H hs r i) ?_
  rintro _ w1 ⟨rfl, H⟩
  refine ⟨A.lit r i, rfl, gif_i (fun h => ?_) (fun h => ?_)⟩
  · have h' : A.lit r i = 0 := by simpa using h
    exact ⟨⟨_, rfl⟩, H.cast (by unfold Ar.swap; rw [if_pos (.inl h')])⟩
  have hi : A.lit r i ≠ 0 := by simpa using h
  refine Calls.ret (k_ALit H hs r k) ?_
  rintro _ w2 ⟨rfl, H⟩
  refine ⟨A.lit r k, rfl, gif_i (fun h => ?_) (fun h => ?_)⟩
  · have h' : A.lit r k = 0 := by simpa using h
    exact ⟨⟨_, rfl⟩, H.cast (by unfold Ar.swap; rw [if_pos (.inr h')])⟩
  have hk : A.lit r k ≠ 0 := by simpa using h
  obtain ⟨c, hc, hi0, hi1, hi2⟩ := Ar.lit_get hi
  obtain ⟨c', hc', hk0, hk1, hk2⟩ := Ar.lit_get hk
  have e : c' = c := by rw [hc] at hc'; exact (Option.some.inj hc').symm
  subst e
  obtain ⟨aw, cw, mb, H⟩ := ArR.op H
  obtain ⟨h3, h4, h5⟩ := Ar.get_word (Ar.get_at hc).1
  have hn := hs.n
  rw [Cl.words_len] at h4 h5
  obtain ⟨b, o, rfl⟩ := osl_ptr H 1 rfl (by omega)
  have hcap := osl_cap H 1 rfl
  have eo : slOff (aP b o) cw (r + 3).toNat 1 = aP b (o + (r + 3).toNat) := by rw [slOff_aP, if_neg (by omega)]
  have word : ∀ (j : Int), 0 ≤ j → j.toNat < c'.lits.length → (A.words.map vI)[(r + 3).toNat + j.toNat]? = (c'.lits[j.toNat]?).map vI := by
    intro j hj hj2
    have := h5 (j.toNat + 3) (by omega)
    rw [show (r + 3).toNat + j.toNat = r.toNat + (j.toNat + 3) by omega, List.getElem?_map, this]
    unfold Cl.words
    rw [List.getElem?_cons_succ, List.getElem?_cons_succ, List.getElem?_cons_succ]
  refine ⟨_, _, _, cel H 0 rfl rfl, by unfold InI; omega, ⟨by omega, by omega⟩, dr H fun w3 H => ⟨⟨hk0, by omega⟩, ?_⟩⟩
  rw [eo]
  refine pm_i ⟨A.lit r k, ?_, ⟨hi0, by omega⟩, pm_i ⟨A.lit r i, ?_, ⟨hi0, by omega⟩, pm_i ?_⟩⟩
  · rw [Nat.add_assoc]; exact oc H 1 rfl (by rw [word k hk0 hk1, hk2]; rfl)
  · rw [Nat.add_assoc]; exact oc H 1 rfl (by rw [word i hi0 hi1, hi2]; rfl)
  rw [Nat.add_assoc]
  refine ost H 1 rfl rfl (by simp; omega) fun w4 H => ⟨⟨hk0, by omega⟩, pm_i ?_⟩
  rw [Nat.add_assoc]
  refine ost H 1 rfl rfl (by rw [setL_len]; simp; omega) fun w5 H => ⟨⟨_, rfl⟩, ?_⟩
  have hsw : ∀ c, (Cl.swap c i k).words.length = c.words.length := Cl.swap_len i k
  have e1 : A.swap r i k = A.upd r fun c => c.swap i k := by unfold Ar.swap; rw [if_neg (by simp [hi, hk])]
  have e2 : setL (setL (A.words.map vI) ((r + 3).toNat + i.toNat) [vI (A.lit r k)]) ((r + 3).toNat + k.toNat) [vI (A.lit r i)] = (A.upd r fun c => c.swap i k).words.map vI := by
    obtain ⟨pre, post, g1, g2, g3⟩ := recAt_split (Ar.get_at hc).1
    have g4 : A.words = pre.flatMap Cl.words ++ c'.words ++ post.flatMap Cl.words := by unfold Ar.words; rw [g1]; simp
    have g5 : (A.upd r fun c => c.swap i k).words = pre.flatMap Cl.words ++ (c'.swap i k).words ++ post.flatMap Cl.words := by unfold Ar.words Ar.upd; rw [g3]; simp
    have g6 : ∀ (j : Int) (l : List Int) (v : Int), 0 ≤ j → j.toNat < l.length → l.length = c'.lits.length → (pre.flatMap Cl.words ++ ((c'.headN : Int) :: c'.glue :: c'.uses :: l) ++ post.flatMap Cl.words).set ((r + 3).toNat + j.toNat) v = pre.flatMap Cl.words ++ ((c'.headN : Int) :: c'.glue :: c'.uses :: l.set j.toNat v) ++ post.flatMap Cl.words := by
      intro j l v hj hj2 hl
      rw [show (r + 3).toNat + j.toNat = (pre.flatMap Cl.words).length + (j.toNat + 3) by omega, List.append_assoc, List.set_append, if_neg (by omega), show (pre.flatMap Cl.words).length + (j.toNat + 3) - (pre.flatMap Cl.words).length = j.toNat + 3 by omega, List.set_append, if_pos (by simp; omega), List.append_assoc]
      rfl
    simp only [setL, ← List.map_set, g4, g5]
    congr 1
    have g7 : c'.words = (c'.headN : Int) :: c'.glue :: c'.uses :: c'.lits := rfl
    rw [g7, g6 i _ _ hi0 hi1 rfl, g6 k _ _ hk0 (by simpa using hk1) (by simp)]
    have g8 : (c'.swap i k).words = (c'.headN : Int) :: c'.glue :: c'.uses :: (c'.lits.set i.toNat (A.lit r k)).set k.toNat (A.lit r i) := by
      unfold Cl.swap Cl.words
      simp only [hi2, hk2, Option.getD_some, List.cons.injEq, and_true]
      unfold Cl.headN
      simp
    rw [g8]
  refine ArR.sh (aw := aP b o) (cw := cw) (mb := mb) (H.cast ?_)
  rw [e1]
  simp only [arL, List.cons_append, List.nil_append, List.set_cons_succ, List.set_cons_zero, e2, Ar.upd_len hsw, Ar.upd_has hsw (fun _ => rfl)]
  rfl

theorem k_Words {L : List HPr} {w : World} {a : Nat} {A : Ar} (H : Holds (ArR a A :: L) w) :
    Calls cx.P F.arena_Arena_Words #[vP a 0] w (Ret fun v w' => v = vI (A.words.length : Int) ∧ Holds (ArR a A :: L) w') := by
  apply vc_arena_Arena_Words
  obtain ⟨aw, cw, mb, H⟩ := ArR.op H
  exact ⟨_, _, _, cel H 0 rfl rfl, rfl, ArR.sh H⟩
def Ar.learned (A : Ar) (r : Int) : Bool := match A.get r with
  | some c => c.learned
  | none => false
theorem k_Learned {L : List HPr} {w : World} {a : Nat} {A : Ar} (H : Holds (ArR a A :: L) w) (hs : A.Sm) (r : Int) :
    Calls cx.P F.arena_Arena_Learned #[vP a 0, vI r] w (Ret fun v w' => v = vB (A.learned r) ∧ Holds (ArR a A :: L) w') := by
  apply vc_arena_Arena_Learned
  refine Calls.ret (k_Has H r) ?_
  rintro _ w1 ⟨rfl, H⟩
  refine ⟨_, rfl, ?_⟩
  unfold Ar.has Ar.learned
  cases hc : A.get r with
  | none => exact ⟨rfl, H⟩
  | some c =>
    obtain ⟨aw, cw, mb, H⟩ := ArR.op H
    obtain ⟨h1, h2, h3⟩ := Ar.get_word (Ar.get_at hc).1
    have hn := hs.n
    rw [Cl.words_len] at h2 h3
    refine gif_t rfl ⟨_, _, _, cel H 0 rfl rfl, by unfold InI; omega, ⟨by omega, by omega⟩, opm H 1 rfl (by omega) fun b o e => ?_⟩
    subst e
    have := h3 0 (by omega)
    refine ⟨c.headN, oc H 1 rfl (k := (r + 0).toNat) ?_, ?_, ArR.sh H⟩
    · rw [show (r + 0).toNat = r.toNat + 0 by omega]; exact map_get vI this
    · rw [head_learned (by omega)]
theorem ar_slice {L : List HPr} {w : World} {a : Nat} {A : Ar} {aw : Option Addr} {cw mb : Nat} (H : Holds (arL a A aw cw mb ++ L) w) {r : Int} {c : Cl} (hc : A.get r = some c) (hl : 0 < c.lits.length) (m cc : Nat) (hm : r + 3 + c.lits.length ≤ m) :
    ASrc cx 1 T.s_int (vS (slOff aw m (r + 3).toNat 1) c.lits.length cc) c.lits.length (c.lits.map vI) w := by
  obtain ⟨h1, h2, h3⟩ := Ar.get_word (Ar.get_at hc).1
  rw [Cl.words_len] at h2 h3
  obtain ⟨b, o, rfl⟩ := osl_ptr H 1 rfl (by omega)
  rw [slOff_aP, if_neg (by omega)]
  refine asrc_cels slInt (by simp) (map_oneI _) fun k v hk => ?_
  rw [Nat.add_assoc]
  refine oc H 1 rfl ?_
  have hlt := (List.getElem?_eq_some_iff.1 hk).1
  rw [List.length_map] at hlt
  have := h3 (k + 3) (by omega)
  rw [show (r + 3).toNat + k = r.toNat + (k + 3) by omega, List.getElem?_map, this]
  unfold Cl.words
  rw [List.getElem?_cons_succ, List.getElem?_cons_succ, List.getElem?_cons_succ, ← List.getElem?_map]
  exact hk
theorem k_Lits {L : List HPr} {w : World} {a : Nat} {A : Ar} (H : Holds (ArR a A :: L) w) (hs : A.Sm) (r : Int) :
    Calls cx.P F.arena_Arena_Lits #[vP a 0, vI r] w (Ret fun v w' => ∃ p c, v = vS p (A.lits r).length c ∧ Holds (osl T.int 1 p (A.lits r).length c ((A.lits r).map vI) :: ArR a A :: L) w') := by
  apply vc_arena_Arena_Lits
  refine Calls.ret (k_ALen H hs r) ?_
  rintro _ w1 ⟨rfl, H⟩
  refine ⟨_, rfl, gif_i (fun h => ?_) (fun h => ?_)⟩
  · have h' : (A.lits r).length = 0 := by simpa using h
    have h'' : A.lits r = [] := List.eq_nil_of_length_eq_zero h'
    rw [h'']
    exact ⟨none, 0, rfl, osl_nil T.int 1 H⟩
  · have h' : ¬ (A.lits r).length = 0 := by simpa using h
    obtain ⟨c, hc, e⟩ : ∃ c, A.get r = some c ∧ A.lits r = c.lits := by
      unfold Ar.lits at h' ⊢
      cases hc : A.get r with
      | none => rw [hc] at h'; simp at h'
      | some c => exact ⟨c, rfl, rfl⟩
    rw [e] at h' ⊢
    obtain ⟨aw, cw, mb, H⟩ := ArR.op H
    obtain ⟨h1, h2, h3⟩ := Ar.get_word (Ar.get_at hc).1
    have hn := hs.n
    have hcap := osl_cap H 1 rfl
    rw [Cl.words_len] at h2 h3
    refine ⟨by unfold InI; omega, _, _, _, cel H 0 rfl rfl, by unfold InI; omega, by unfold InI; omega, ⟨by omega, by omega, by omega, by omega⟩, ?_⟩
    have H := osl_nil T.int 1 H
    have src := ar_slice H.tail hc (by omega) ((r + 3) + c.lits.length).toNat (((r + 3) + c.lits.length).toNat - (r + 3).toNat) (by omega)
    rw [show (((r + 3) + (c.lits.length : Int)).toNat - (r + 3).toNat) = c.lits.length by omega] at src ⊢
    refine oap slInt H 0 rfl src (by omega) (by omega) fun a' c' w2 H => ⟨_, _, _, rfl, a', c', by rw [Nat.zero_add], ?_⟩
    rw [Nat.zero_add] at H
    exact part_shut1 (Ls := arL a A aw cw mb) (fun _ h => ⟨aw, cw, mb, h⟩) H

/-! ### a clause more -/
def fitA (n : Int) : Int := min (max n 0) 2147483647
theorem k_fitA {L : List HPr} {w : World} (H : Holds L w) (n : Int) : Calls cx.P F.arena_fit #[vI n] w (Ret fun v w' => v = vI (fitA n) ∧ Holds L w') := by
  apply vc_arena_fit
  rw [iMax_eq, iMin_eq]
  exact ⟨rfl, H⟩
def Ar.full (A : Ar) (n : Nat) : Bool := decide (0 < A.limit) && decide (A.limit < (A.words.length : Int) + 3 + n)
def Ar.addC (A : Ar) (xs : List Int) (learned : Bool) (g : Int) : Ar := { A with recs := A.recs ++ [⟨xs, learned, fitA g, 0, false⟩], count := A.count + 1 }
theorem recAt_lt : ∀ {cs : List Cl} {r : Int} {c : Cl}, recAt cs r = some c → r < ((cs.flatMap Cl.words).length : Int)
  | cs, r, c, h => by
    obtain ⟨pre, post, h1, h2, _⟩ := recAt_split h
    rw [h1, List.flatMap_append, List.length_append, List.flatMap_cons, List.length_append, Cl.words_len]; omega
theorem recAt_snoc (c : Cl) : ∀ (cs : List Cl) (r : Int), recAt (cs ++ [c]) r = if r = ((cs.flatMap Cl.words).length : Int) then some c else recAt cs r
  | [], r => by simp [recAt]
  | d :: cs, r => by
    rw [List.cons_append]
    unfold recAt
    rw [recAt_snoc c cs, List.flatMap_cons, List.length_append, Cl.words_len]
    by_cases hr : r = 0
    · subst hr
      rw [if_pos rfl, if_pos rfl, if_neg (by omega)]
    · rw [if_neg hr, if_neg hr]
      by_cases h2 : r = (((d.lits.length + 3) + (cs.flatMap Cl.words).length : Nat) : Int)
      · rw [if_pos (by omega), if_pos h2]
      · rw [if_neg (by omega), if_neg h2]
theorem Ar.addC_words (A : Ar) (xs : List Int) (l : Bool) (g : Int) : (A.addC xs l g).words = A.words ++ [((xs.length + (if l then 1099511627776 else 0) : Nat) : Int), fitA g, 0] ++ xs := by
  unfold Ar.addC Ar.words
  simp [Cl.words, Cl.headN]
theorem Ar.addC_get (A : Ar) (xs : List Int) (l : Bool) (g : Int) (r : Int) : (A.addC xs l g).get r = if r = (A.words.length : Int) then some ⟨xs, l, fitA g, 0, false⟩ else A.get r := by
  unfold Ar.get Ar.addC
  simp only
  rw [recAt_snoc]
  have : (A.recs.flatMap Cl.words).length = A.words.length := rfl
  rw [this]
  by_cases hr : r = (A.words.length : Int)
  · simp [hr]
  · simp [hr]
theorem Ar.addC_has (A : Ar) (xs : List Int) (l : Bool) (g : Int) (r : Int) : (A.addC xs l g).has r = if r = (A.words.length : Int) then true else A.has r := by
  unfold Ar.has
  rw [Ar.addC_get]
  split <;> rfl
theorem k_AAdd {L : List HPr} {w : World} {a : Nat} {A : Ar} (H : Holds (ArR a A :: L) w) (hs : A.Sm) {ca : Option Addr} {cl cc : Nat} {xs : List Int} (hx : xs.length = cl) (hxl : cl ≤ 1000000000) (hcnt : InI (A.count + 1))
    (hsrc : ∀ w', Holds L w' → ASrc cx 1 T.s_int (vS ca cl cc) cl (xs.map vI) w') (l : Bool) (g : Int) :
    Calls cx.P F.arena_Arena_Add #[vP a 0, vS ca cl cc, vB l, vI g] w (Ret fun v w' => v = .tuple #[vI (if A.full cl then 0 else (A.words.length : Int)), vB (!A.full cl)] ∧ Holds (ArR a (if A.full cl then A else A.addC xs l g) :: L) w') := by
  apply vc_arena_Arena_Add
  obtain ⟨aw, cw, mb, H⟩ := ArR.op H
  have hn := hs.n
  subst hx
  refine ⟨_, _, _, cel H 0 rfl rfl, _, cel H 0 rfl rfl, gif_i (fun h => ⟨by unfold InI; omega, by unfold InI; omega, _, cel H 0 rfl rfl, gif_i (fun h2 => ?full) (fun h2 => gif_i (fun hl => ?_) (fun hl => ?_))⟩) (fun h => gif_i (fun hl => ?_) (fun hl => ?_))⟩
  case full =>
    have hf : A.full xs.length = true := by unfold Ar.full; simp at h h2 ⊢; omega
    rw [hf]
    exact ⟨rfl, ArR.sh H⟩
  all_goals
    have hf : A.full xs.length = false := by unfold Ar.full; simp at h ⊢; first | omega | (simp at h2; omega)
    rw [hf]
    subst hl
    refine dr H fun w1 H => ⟨_, _, _, cel H 0 rfl rfl, Calls.ret (k_fitA H g) ?_⟩
    rintro _ w2 ⟨rfl, H⟩
    refine ⟨_, rfl, cel H 0 rfl rfl, al H fun b1 w3 H => ⟨cel H 1 rfl rfl, ?_⟩⟩
    refine oap slInt H 2 rfl (asrc_blk slInt H 0 rfl rfl rfl) (by omega) (by omega) fun a1 c1 w4 H => ⟨_, _, _, rfl, ?_⟩
    have H := H.tail
    refine oap slInt H 1 rfl (hsrc _ H.tail.tail.tail) (by omega) (by omega) fun a2 c2 w5 H => ⟨_, _, _, rfl, ?_⟩
    refine st H 0 rfl rfl (by simp) fun w6 H => ⟨A.count, cel H 0 rfl rfl, hcnt, st H 0 rfl rfl (by simp [setL_len]) fun w7 H => ⟨_, cel H 0 rfl rfl, ?_⟩⟩
    refine mupd mpIB H 2 rfl fun w8 H => ⟨rfl, ?_⟩
    refine ArR.sh (aw := a2) (cw := c2) (mb := mb) (H.cast ?_)
    have e1 := Ar.addC_words A xs
    first | rw [or_learned (by omega)] | skip
    simp only [arL, Bool.false_eq_true, if_false, e1, List.cons_append, List.nil_append, List.set_cons_zero, List.set_cons_succ, setL, Ar.addC_has]
    simp [Nat.add_assoc, Ar.addC]
    refine ⟨by rw [Nat.add_comm 3], by rw [Nat.add_comm 3], ?_⟩
    congr 1
    funext x
    by_cases hx : x = (A.words.length : Int) <;> simp [hx]
end Go.Sv
/- The watcher: what its functions do, said of plain records. -/
namespace Go.Sv
open Go Go.Proofs
set_option maxRecDepth 100000

theorem set_self {α : Type} {L : List α} {i : Nat} {A : α} (h : L[i]? = some A) : L.set i A = L := by
  apply List.ext_getElem?
  intro k
  rw [List.getElem?_set]
  by_cases hk : i = k
  · subst hk; simp [h, get_lt h, (List.getElem?_eq_some_iff.1 h).2]
  · simp [hk]
/-- A contract, at a place in the list of parts. -/
theorem atp {P : Program} {f : FuncId} {args : Array Value} {Q : Value → Prop} {L : List HPr} {w : World} {R R' : HPr} (H : Holds L w) (i : Nat) (hi : L[i]? = some R) (k : Holds (R :: L.eraseIdx i) w → Calls P f args w (Ret fun v w' => Q v ∧ Holds (R' :: L.eraseIdx i) w')) : Calls P f args w (Ret fun v w' => Q v ∧ Holds (L.set i R') w') :=
  Calls.ret (k (H.pick i hi)) fun _ _ h => ⟨h.1, Holds.unpick i hi h.2⟩
theorem atr {P : Program} {f : FuncId} {args : Array Value} {Q : Value → Prop} {L : List HPr} {w : World} {R : HPr} (H : Holds L w) (i : Nat) (hi : L[i]? = some R) (k : Holds (R :: L.eraseIdx i) w → Calls P f args w (Ret fun v w' => Q v ∧ Holds (R :: L.eraseIdx i) w')) : Calls P f args w (Ret fun v w' => Q v ∧ Holds L w') :=
  Calls.ret (atp H i hi k) fun _ _ h => ⟨h.1, h.2.cast (set_self hi)⟩

structure Wat where
  ref : Int
  blocker : Int
  binary : Bool
def Wat.vs (x : Wat) : List Value := [vI x.ref, vI x.blocker, vB x.binary]
structure Wt where
  lists : List (List Wat)
  pending : List Int
  head : Int
  visits : Int
theorem slWat : SlT cx T.s_watch_watch T.watch_watch 3 24 [vI 0, vI 0, vB false] := SlT.mk' rfl rfl rfl rfl rfl
theorem slWats : SlT cx T.s_s_watch_watch T.s_watch_watch 1 24 [vNS] := SlT.mk' rfl rfl rfl rfl rfl
abbrev wbk (wx a t : Nat) (x2 x3 x4 x5 : Value) : HPr := blk wx [vP a 0, vP t 0, x2, x3, x4, x5] T.watch_Watcher

def Tr.rank (S : Tr) (l : Int) : Int := if S.value l < 0 then S.levelOf l else S.starts.length + 1
theorem k_rank {L : List HPr} {w : World} {wx a t : Nat} {x2 x3 x4 x5 : Value} {S : Tr} (H : Holds L w) (i j : Nat) (hi : L[i]? = some (wbk wx a t x2 x3 x4 x5)) (hj : L[j]? = some (TrR t S)) (hs : S.Sm) (hd : S.starts.length ≤ 1000000) (l : Int) :
    Calls cx.P F.watch_Watcher_rank #[vP wx 0, vI l] w (Ret fun v w' => v = vI (S.rank l) ∧ Holds L w') := by
  apply vc_watch_Watcher_rank
  refine ⟨_, cel H i hi rfl, Calls.ret (atr H j hj fun H => k_Value H hs l) ?_⟩
  rintro _ w1 ⟨rfl, H⟩
  unfold Tr.rank
  refine ⟨_, rfl, gif_i (fun h => ?_) (fun h => ?_)⟩
  · have h' : S.value l < 0 := by simpa using h
    rw [if_pos h']
    refine ⟨_, cel H i hi rfl, Calls.ret (atr H j hj fun H => k_LevelOf H hs l) ?_⟩
    rintro _ w2 ⟨rfl, H⟩
    exact ⟨_, rfl, rfl, H⟩
  · have h' : ¬ S.value l < 0 := by simpa using h
    rw [if_neg h']
    refine ⟨_, cel H i hi rfl, Calls.ret (atr H j hj fun H => k_Level H) ?_⟩
    rintro _ w2 ⟨rfl, H⟩
    exact ⟨_, rfl, by unfold InI; omega, rfl, H⟩
def bestGo (S : Tr) (A : Ar) (r : Int) : Nat → Int → Int → Int
  | 0, _, b => b
  | k + 1, i, b => bestGo S A r k (i + 1) (if S.rank (A.lit r i) > S.rank (A.lit r b) then i else b)
def bring (S : Tr) (A : Ar) (r to : Int) : Ar := A.swap r to (bestGo S A r (((A.lits r).length : Int) - (to + 1)).toNat (to + 1) to)
theorem lits_small {A : Ar} (hs : A.Sm) (r : Int) : (A.lits r).length ≤ 1000000000 := by
  unfold Ar.lits
  cases hc : A.get r with
  | none => simp
  | some c =>
    obtain ⟨h1, h2, h3⟩ := Ar.get_word (Ar.get_at hc).1
    have := hs.n
    rw [Cl.words_len] at h2
    simp only; omega
theorem k_bring {L : List HPr} {w : World} {wx a t : Nat} {x2 x3 x4 x5 : Value} {S : Tr} {A : Ar} (H : Holds L w) (i j k : Nat) (hi : L[i]? = some (wbk wx a t x2 x3 x4 x5)) (hj : L[j]? = some (TrR t S)) (hk : L[k]? = some (ArR a A)) (hs : S.Sm) (hd : S.starts.length ≤ 1000000) (ha : A.Sm) (r to : Int) (hto : 0 ≤ to) (hto2 : to ≤ 10) :
    Calls cx.P F.watch_Watcher_bring #[vP wx 0, vI r, vI to] w (Ret fun v w' => v = .tuple #[] ∧ Holds (L.set k (ArR a (bring S A r to))) w') := by
  apply vc_watch_Watcher_bring
  have hl := lits_small ha r
  refine ⟨by unfold InI; omega, fun vs w => ∃ b i : Int, vs = [vI b, vI i] ∧ to + 1 ≤ i ∧ (i ≤ (A.lits r).length ∨ i = to + 1) ∧ bestGo S A r (((A.lits r).length : Int) - i).toNat i b = bestGo S A r (((A.lits r).length : Int) - (to + 1)).toNat (to + 1) to ∧ Holds L w, fun vs _ => (match vs with | [_, .int _ i] => ((A.lits r).length : Int) - i | _ => 0).toNat, ⟨to, to + 1, rfl, Int.le_refl _, .inr rfl, rfl, H⟩, ?_⟩
  rintro b1 i1 w1 ⟨b, x, hv, h1, h2, h3, H⟩
  simp only [List.cons.injEq, Value.int.injEq, true_and, and_true] at hv
  obtain ⟨rfl, rfl⟩ := hv
  refine ⟨_, cel H i hi rfl, Calls.ret (atr H k hk fun H => k_ALen H ha r) ?_⟩
  rintro _ w2 ⟨rfl, H⟩
  refine ⟨_, rfl, gif_i (fun h => ?_) (fun h => ?_)⟩
  · have h' : i1 < (A.lits r).length := by simpa using h
    refine dr H fun w3 H => ⟨_, cel H i hi rfl, _, cel H i hi rfl, Calls.ret (atr H k hk fun H => k_ALit H ha r i1) ?_⟩
    rintro _ w4 ⟨rfl, H⟩
    refine ⟨A.lit r i1, rfl, cel H i hi rfl, Calls.ret (k_rank H i j hi hj hs hd _) ?_⟩
    rintro _ w5 ⟨rfl, H⟩
    refine ⟨_, rfl, cel H i hi rfl, Calls.ret (atr H k hk fun H => k_ALit H ha r b1) ?_⟩
    rintro _ w6 ⟨rfl, H⟩
    refine ⟨A.lit r b1, rfl, Calls.ret (k_rank H i j hi hj hs hd _) ?_⟩
    rintro _ w7 ⟨rfl, H⟩
    have step : bestGo S A r (((A.lits r).length : Int) - i1).toNat i1 b1 = bestGo S A r (((A.lits r).length : Int) - (i1 + 1)).toNat (i1 + 1) (if S.rank (A.lit r i1) > S.rank (A.lit r b1) then i1 else b1) := by
      rw [show (((A.lits r).length : Int) - i1).toNat = (((A.lits r).length : Int) - (i1 + 1)).toNat + 1 by omega]
      rfl
    refine ⟨_, rfl, gif_i (fun h => ?_) (fun h => ?_)⟩
    · have h' : S.rank (A.lit r i1) > S.rank (A.lit r b1) := by simpa using h
      rw [if_pos h'] at step
      exact ⟨by unfold InI; omega, ⟨_, _, rfl, by omega, .inl (by omega), by rw [← step, h3], H⟩, by simp only; omega⟩
    · have h' : ¬ S.rank (A.lit r i1) > S.rank (A.lit r b1) := by simpa using h
      rw [if_neg h'] at step
      exact ⟨by unfold InI; omega, ⟨_, _, rfl, by omega, .inl (by omega), by rw [← step, h3], H⟩, by simp only; omega⟩
  · have h' : ¬ i1 < (A.lits r).length := by simpa using h
    have e0 : (((A.lits r).length : Int) - i1).toNat = 0 := by omega
    rw [e0] at h3
    have e1 : b1 = bestGo S A r (((A.lits r).length : Int) - (to + 1)).toNat (to + 1) to := h3
    refine ⟨_, cel H i hi rfl, Calls.ret (atp H k hk fun H => k_Swap H ha r to b1) ?_⟩
    rintro _ w3 ⟨⟨x, rfl⟩, H⟩
    refine ⟨_, rfl, rfl, H.cast ?_⟩
    unfold bring
    rw [e1]
theorem k_unit {L : List HPr} {w : World} {wx a t : Nat} {x2 x3 x4 x5 : Value} {S : Tr} (H : Holds L w) (i j : Nat) (hij : i ≠ j) (hi : L[i]? = some (wbk wx a t x2 x3 x4 x5)) (hj : L[j]? = some (TrR t S)) (hs : S.Sm) (hl : S.l.length ≤ 1000000) (hs' : ∀ l r, (S.put l r).Sm) (l r : Int) :
    Calls cx.P F.watch_Watcher_unit #[vP wx 0, vI l, vI r] w (Ret fun v w' => v = vI (if (if S.value l = 0 then S.put l r else S).value l < 0 then 2 else 0) ∧ Holds (L.set j (TrR t (if S.value l = 0 then S.put l r else S))) w') := by
  apply vc_watch_Watcher_unit
  refine ⟨_, cel H i hi rfl, Calls.ret (atr H j hj fun H => k_Value H hs l) ?_⟩
  rintro _ w1 ⟨rfl, H⟩
  refine ⟨_, rfl, gif_i (fun h => ?_) (fun h => ?_)⟩
  · have h' : S.value l = 0 := by simpa using h
    simp only [h', if_true]
    have hi' : ∀ X, (L.set j X)[i]? = some (wbk wx a t x2 x3 x4 x5) := fun X => by rw [List.getElem?_set, if_neg (fun e => hij e.symm)]; exact hi
    have hj' : ∀ X, (L.set j X)[j]? = some X := fun X => by rw [List.getElem?_set, if_pos rfl, if_pos (get_lt hj)]
    refine ⟨_, cel H i hi rfl, Calls.ret (atp H j hj fun H => k_Put H hs hl l r) ?_⟩
    rintro _ w2 ⟨rfl, H⟩
    refine ⟨_, rfl, _, cel H i (hi' _) rfl, Calls.ret (atr H j (hj' _) fun H => k_Value H (hs' l r) l) ?_⟩
    rintro _ w3 ⟨rfl, H⟩
    refine ⟨_, rfl, gif_i (fun h => ?_) (fun h => ?_)⟩
    · have h2 : (S.put l r).value l < 0 := by simpa using h
      exact ⟨by rw [if_pos h2], H⟩
    · have h2 : ¬ (S.put l r).value l < 0 := by simpa using h
      exact ⟨by rw [if_neg h2], H⟩
  · have h' : ¬ S.value l = 0 := by simpa using h
    simp only [h', if_false]
    refine ⟨_, cel H i hi rfl, Calls.ret (atr H j hj fun H => k_Value H hs l) ?_⟩
    rintro _ w2 ⟨rfl, H⟩
    refine ⟨_, rfl, gif_i (fun h => ?_) (fun h => ?_)⟩
    · have h2 : S.value l < 0 := by simpa using h
      exact ⟨by rw [if_pos h2], H.cast (set_self hj).symm⟩
    · have h2 : ¬ S.value l < 0 := by simpa using h
      exact ⟨by rw [if_neg h2], H.cast (set_self hj).symm⟩

def lookGo (S : Tr) : List Int → Int → Option Int
  | [], f => some f
  | l :: ls, f => if S.value l > 0 ∨ (S.value l = 0 ∧ f ≠ 0) then none else lookGo S ls (if S.value l = 0 then l else f)
/-- Is a clause all right, and what follows. -/
def look (S : Tr) (A : Ar) (r : Int) : Bool × Tr := match lookGo S (A.lits r) 0 with
  | none => (true, S)
  | some f => if f = 0 then (false, S) else (S.free f, S.put f r)
theorem lit_nat {A : Ar} {r : Int} {i : Nat} {x : Int} (h : (A.lits r)[i]? = some x) : A.lit r (i : Int) = x := by
  unfold Ar.lit
  rw [if_neg (by omega), Int.toNat_natCast, h]; rfl
theorem k_look {L : List HPr} {w : World} {wx a t : Nat} {x2 x3 x4 x5 : Value} {S : Tr} {A : Ar} (H : Holds L w) (i j k : Nat) (hi : L[i]? = some (wbk wx a t x2 x3 x4 x5)) (hj : L[j]? = some (TrR t S)) (hk : L[k]? = some (ArR a A)) (hs : S.Sm) (hl : S.l.length ≤ 1000000) (ha : A.Sm) (r : Int) :
    Calls cx.P F.watch_Watcher_look #[vP wx 0, vI r] w (Ret fun v w' => v = vB (look S A r).1 ∧ Holds (L.set j (TrR t (look S A r).2)) w') := by
  apply vc_watch_Watcher_look
  have hlen := lits_small ha r
  refine ⟨_, cel H i hi rfl, Calls.ret (atr H k hk fun H => k_ALen H ha r) ?_⟩
  rintro _ w1 ⟨rfl, H⟩
  refine ⟨_, rfl, fun vs w => ∃ (f : Int) (n : Nat), vs = [vI f, vI n] ∧ n ≤ (A.lits r).length ∧ lookGo S ((A.lits r).drop n) f = lookGo S (A.lits r) 0 ∧ Holds L w, fun vs _ => (match vs with | [_, .int _ i] => ((A.lits r).length : Int) - i | _ => 0).toNat, ⟨0, 0, rfl, Nat.zero_le _, rfl, H⟩, ?_⟩
  rintro f1 n1 w2 ⟨f, n, hv, h1, h2, H⟩
  simp only [List.cons.injEq, Value.int.injEq, true_and, and_true] at hv
  obtain ⟨rfl, rfl⟩ := hv
  unfold look
  refine gif_i (fun h => ?_) (fun h => ?_)
  · have h' : n < (A.lits r).length := by simpa using h
    obtain ⟨x, hx⟩ := lt_get h'
    have hd : (A.lits r).drop n = x :: (A.lits r).drop (n + 1) := by
      rw [List.drop_eq_getElem_cons h']
      rw [(List.getElem?_eq_some_iff.1 hx).2]
    rw [hd] at h2
    refine ⟨_, cel H i hi rfl, Calls.ret (atr H k hk fun H => k_ALit H ha r n) ?_⟩
    rintro _ w3 ⟨rfl, H⟩
    refine ⟨A.lit r n, rfl, _, cel H i hi rfl, Calls.ret (atr H j hj fun H => k_Value H hs _) ?_⟩
    rintro _ w4 ⟨rfl, H⟩
    rw [lit_nat hx]
    have h2 : (if S.value x > 0 ∨ (S.value x = 0 ∧ f1 ≠ 0) then none else lookGo S ((A.lits r).drop (n + 1)) (if S.value x = 0 then x else f1)) = lookGo S (A.lits r) 0 := h2
    have done : S.value x > 0 ∨ (S.value x = 0 ∧ f1 ≠ 0) → vB true = vB (match lookGo S (A.lits r) 0 with | none => (true, S) | some f => if f = 0 then (false, S) else (S.free f, S.put f r)).1 ∧ Holds (L.set j (TrR t (match lookGo S (A.lits r) 0 with | none => (true, S) | some f => if f = 0 then (false, S) else (S.free f, S.put f r)).2)) w4 := by
      intro hd
      rw [if_pos hd] at h2
      rw [← h2]
      exact ⟨rfl, H.cast (set_self hj).symm⟩
    have next : ∀ g, ¬ (S.value x > 0 ∨ (S.value x = 0 ∧ f1 ≠ 0)) → g = (if S.value x = 0 then x else f1) → InI ((n : Int) + 1) ∧ (∃ (f : Int) (m : Nat), [vI g, vI ((n : Int) + 1)] = [vI f, vI m] ∧ m ≤ (A.lits r).length ∧ lookGo S ((A.lits r).drop m) f = lookGo S (A.lits r) 0 ∧ Holds L w4) ∧ (((A.lits r).length : Int) - ((n : Int) + 1)).toNat < (((A.lits r).length : Int) - n).toNat := by
      intro g hn hg
      rw [if_neg hn, ← hg] at h2
      exact ⟨by unfold InI; omega, ⟨g, n + 1, rfl, by omega, h2, H⟩, by omega⟩
    refine ⟨_, rfl, gif_i (fun h => done (.inl (by simpa using h))) (fun ha => gif_i (fun hb => gif_i (fun hc => done (.inr ⟨by simpa using hb, by simpa using hc⟩)) (fun hc => gif_i (fun hd => next _ ?_ ?_) (fun hd => next _ ?_ ?_))) (fun hb => gif_i (fun hd => next _ ?_ ?_) (fun hd => next _ ?_ ?_)))⟩
    all_goals simp at ha hb hd
    all_goals first
      | (simp [hb] at hd; done)
      | (simp at hc; simp [hb, hc]; done)
      | (simp [hb]; done)
      | (simp [hb]; omega)
      | omega
  · have h' : ¬ n < (A.lits r).length := by simpa using h
    have e : (A.lits r).drop n = [] := List.drop_eq_nil_of_le (by omega)
    rw [e] at h2
    rw [← h2]
    simp only [lookGo]
    refine gif_i (fun h => ?_) (fun h => ?_)
    · have h' : ¬ f1 = 0 := by simpa using h
      simp only [h', if_false]
      refine ⟨_, cel H i hi rfl, Calls.ret (atp H j hj fun H => k_Put H hs hl f1 r) ?_⟩
      rintro _ w3 ⟨rfl, H⟩
      exact ⟨_, rfl, rfl, H⟩
    · have h' : f1 = 0 := by simpa using h
      simp only [h', if_true]
      exact ⟨trivial, H.cast (set_self hj).symm⟩

/-! ### the record in the heap; one of its rows may be out -/
def wtL (wx a t : Nat) (W : Wt) (hole : Nat) (al : Option Addr) (cl : Nat) (hs : List (Option Addr × Nat)) (pa : Option Addr) (pc : Nat) : List HPr :=
  [wbk wx a t (vS al W.lists.length cl) (vS pa W.pending.length pc) (vI W.head) (vI W.visits),
   osl T.s_watch_watch 1 al W.lists.length cl (slots hs W.lists), star ((rowsP T.watch_watch 3 Wat.vs hs W.lists).set hole emp),
   osl T.int 1 pa W.pending.length pc (W.pending.map vI)]
def WtR (wx a t : Nat) (W : Wt) (hole : Nat) : HPr := fun m => ∃ al cl hs pa pc, hs.length = W.lists.length ∧ SatL (wtL wx a t W hole al cl hs pa pc) m
theorem WtR.op {wx a t : Nat} {W : Wt} {hole : Nat} {L : List HPr} {w : World} (H : Holds (WtR wx a t W hole :: L) w) : ∃ al cl hs pa pc, hs.length = W.lists.length ∧ Holds (wtL wx a t W hole al cl hs pa pc ++ L) w := by
  obtain ⟨F, ⟨al, cl, hs, pa, pc, hl, h⟩, hL⟩ := H
  exact ⟨al, cl, hs, pa, pc, hl, SatL_app.2 ⟨F, h, hL⟩⟩
theorem WtR.sh {wx a t : Nat} {W : Wt} {hole : Nat} {L : List HPr} {w : World} {al : Option Addr} {cl : Nat} {hs : List (Option Addr × Nat)} {pa : Option Addr} {pc : Nat} (hl : hs.length = W.lists.length) (H : Holds (wtL wx a t W hole al cl hs pa pc ++ L) w) : Holds (WtR wx a t W hole :: L) w :=
  part_shut (fun _ h => ⟨al, cl, hs, pa, pc, hl, h⟩) H
def Wt.row (W : Wt) (i : Nat) : List Wat := (W.lists[i]?).getD []
def Wt.add (W : Wt) (l : Int) (x : Wat) : Wt := { W with lists := W.lists.set (litIx l).toNat (W.row (litIx l).toNat ++ [x]) }
theorem Wat.vs_len (x : Wat) : x.vs.length = 3 := rfl
theorem k_wadd {L : List HPr} {w : World} {wx a t : Nat} {W : Wt} {hole : Nat} (H : Holds (WtR wx a t W hole :: L) w) (l : Int) (hl : l.natAbs ≤ 1000000000) (h0 : 0 ≤ litIx l) (hlt : (litIx l).toNat < W.lists.length) (hne : (litIx l).toNat ≠ hole) (hb : (W.row (litIx l).toNat).length ≤ 1000000000000) (x : Wat) :
    Calls cx.P F.watch_Watcher_add #[vP wx 0, vI l, .agg #[vI x.ref, vI x.blocker, vB x.binary]] w (Ret fun v w' => v = .tuple #[] ∧ Holds (WtR wx a t (W.add l x) hole :: L) w') := by
  apply vc_watch_Watcher_add
  obtain ⟨al, cl, hs, pa, pc, hl', H⟩ := WtR.op H
  generalize hix : (litIx l).toNat = ix at *
  obtain ⟨row, hrow⟩ := lt_get hlt
  obtain ⟨h, hh⟩ := lt_get (l := hs) (i := ix) (by omega)
  have erow : W.row ix = row := by unfold Wt.row; rw [hrow]; rfl
  rw [erow] at hb
  have hst : ((rowsP T.watch_watch 3 Wat.vs hs W.lists).set hole emp)[ix]? = some (osl T.watch_watch 3 h.1 row.length h.2 (row.flatMap Wat.vs)) := by
    rw [List.getElem?_set, if_neg (fun e => hne e.symm)]; exact rowsP_get hh hrow
  have H := star_take ix hst (H.pick 2 rfl)
  obtain ⟨b2, o2, rfl⟩ := osl_ptr H 3 rfl (by omega)
  have hslot := slots_get hh hrow
  refine al H fun b1 w1 H => Calls.ret (k_Index H hl) ?_
  rintro _ w2 ⟨rfl, H⟩
  refine ⟨_, rfl, dr H fun w3 H => ⟨_, _, _, cel H 3 rfl rfl, _, _, _, cel H 3 rfl rfl, ⟨h0, by omega⟩, pm_i ?_⟩⟩
  rw [hix]
  refine ⟨h.1, row.length, h.2, oc H 4 rfl hslot, x.ref, x.blocker, x.binary, celL_of (fun j v hj => cel H 0 rfl (by rw [Nat.zero_add]; exact hj)), Sv.al H fun b3 w4 H => ⟨cel H 4 rfl rfl, cel H 4 rfl rfl, oc H 5 rfl hslot, ?_⟩⟩
  refine oap slWat H 2 rfl (asrc_blk slWat H 0 rfl rfl rfl) (by omega) (by omega) fun a' c' w5 H => ⟨_, _, _, rfl, cel H 4 rfl rfl, ⟨h0, by omega⟩, pm_i ?_⟩
  refine ost H 5 rfl rfl (by rw [slots_len hl']; simp; omega) fun w6 H => ⟨rfl, ?_⟩
  have H := H.tail.tail
  have hst2 : (((rowsP T.watch_watch 3 Wat.vs hs W.lists).set hole emp).set ix emp)[ix]? = some emp := by
    rw [List.getElem?_set, if_pos rfl, if_pos (by rw [List.length_set, rowsP_len hl']; exact hlt)]
  have H := star_put ix hst2 H
  have e1 : (((rowsP T.watch_watch 3 Wat.vs hs W.lists).set hole emp).set ix emp).set ix (osl T.watch_watch 3 a' (row.length + 1) c' (row.flatMap Wat.vs ++ [vI x.ref, vI x.blocker, vB x.binary])) = (rowsP T.watch_watch 3 Wat.vs (hs.set ix (a', c')) (W.lists.set ix (row ++ [x]))).set hole emp := by
    rw [List.set_set, List.set_comm _ _ (fun e => hne e.symm)]
    congr 1
    rw [← rowsP_set]
    simp [List.flatMap_append, Wat.vs]
  rw [e1] at H
  have H := H.pick 2 rfl
  have H := H.pick 2 rfl
  have e2 : setL (slots hs W.lists) ix [vS a' (row.length + 1) c'] = slots (hs.set ix (a', c')) (W.lists.set ix (row ++ [x])) := by
    rw [← slots_set]; simp
  refine WtR.sh (al := aP b2 o2) (cl := cl) (hs := hs.set ix (a', c')) (pa := pa) (pc := pc) (by unfold Wt.add; simp [hl']) (H.cast ?_)
  unfold Wt.add
  simp only [hix, erow]
  simp [wtL, e2]

/-! ### a clause's literals change places -/
theorem cnt_swap (c : Nat) (a b x : Int) (p : a = x → 0 < c) : c - (if (a == x) = true then 1 else 0) + (if (b == x) = true then 1 else 0) - (if (b == x) = true then 1 else 0) + (if (a == x) = true then 1 else 0) = c := by
  by_cases h1 : a = x
  · have := p h1
    subst h1
    simp; omega
  · simp [h1]
theorem swap_perm (l : List Int) (i k : Nat) (hi : i < l.length) (hk : k < l.length) : ((l.set i ((l[k]?).getD 0)).set k ((l[i]?).getD 0)).Perm l := by
  rw [List.perm_iff_count]
  intro x
  have c1 : l[i] = x → 0 < l.count x := fun h => List.count_pos_iff.2 (by rw [← h]; exact List.getElem_mem hi)
  rw [List.count_set (by simpa using hk), List.count_set hi, List.getElem?_eq_getElem hi, List.getElem?_eq_getElem hk]
  simp only [Option.getD_some, List.getElem_set]
  by_cases hik : i = k
  · subst hik
    simp only [if_true]
    exact cnt_swap _ _ _ _ c1
  · simp only [hik, if_false]
    exact cnt_swap _ _ _ _ c1
structure Ar.Sw (A A' : Ar) : Prop where
  w : A'.words.length = A.words.length
  lim : A'.limit = A.limit
  g : ∀ x, (A.get x = none ∧ A'.get x = none) ∨ ∃ c c', A.get x = some c ∧ A'.get x = some c' ∧ c'.lits.Perm c.lits ∧ c'.learned = c.learned ∧ c'.glue = c.glue ∧ c'.uses = c.uses
theorem Ar.Sw.refl (A : Ar) : Ar.Sw A A := ⟨rfl, rfl, fun x => by
  cases h : A.get x with
  | none => exact .inl ⟨rfl, rfl⟩
  | some c => exact .inr ⟨c, c, rfl, rfl, .refl _, rfl, rfl, rfl⟩⟩
theorem Ar.Sw.trans {A B C : Ar} (h : Ar.Sw A B) (k : Ar.Sw B C) : Ar.Sw A C := ⟨k.w.trans h.w, k.lim.trans h.lim, fun x => by
  rcases h.g x with ⟨h1, h2⟩ | ⟨c, c', h1, h2, h3, h4, h5, h6⟩
  · rcases k.g x with ⟨k1, k2⟩ | ⟨d, d', k1, k2, k3⟩
    · exact .inl ⟨h1, k2⟩
    · rw [h2] at k1; cases k1
  · rcases k.g x with ⟨k1, k2⟩ | ⟨d, d', k1, k2, k3, k4, k5, k6⟩
    · rw [h2] at k1; cases k1
    · rw [h2] at k1; cases k1
      exact .inr ⟨c, d', h1, k2, k3.trans h3, k4.trans h4, k5.trans h5, k6.trans h6⟩⟩
theorem Ar.Sw.perm {A A' : Ar} (h : Ar.Sw A A') (x : Int) : (A'.lits x).Perm (A.lits x) := by
  unfold Ar.lits
  rcases h.g x with ⟨h1, h2⟩ | ⟨c, c', h1, h2, h3, _⟩
  · rw [h1, h2]
  · rw [h1, h2]; exact h3
theorem Ar.Sw.has {A A' : Ar} (h : Ar.Sw A A') (x : Int) : A'.has x = A.has x := by
  unfold Ar.has
  rcases h.g x with ⟨h1, h2⟩ | ⟨c, c', h1, h2, _⟩
  · rw [h1, h2]
  · rw [h1, h2]; rfl
theorem Ar.Sw.sm {A A' : Ar} (h : Ar.Sw A A') (hs : A.Sm) : A'.Sm := ⟨by rw [h.w]; exact hs.n⟩
theorem upd_get {A : Ar} {f : Cl → Cl} (hf : ∀ c, (f c).words.length = c.words.length) (hg : ∀ c, (f c).gone = c.gone) (r x : Int) : (A.upd r f).get x = if x = r then (A.get x).map f else A.get x := by
  unfold Ar.get Ar.upd
  simp only
  rw [recAt_upd f hf]
  by_cases hx : x = r
  · subst hx
    simp only [if_true]
    cases recAt A.recs x with
    | none => rfl
    | some c => simp only [Option.map_some, hg]; cases c.gone <;> rfl
  · simp only [hx, if_false]
theorem swap_sw (A : Ar) (r i k : Int) : Ar.Sw A (A.swap r i k) := by
  unfold Ar.swap
  split
  · exact Ar.Sw.refl A
  · rename_i h
    simp only [not_or] at h
    obtain ⟨c, hc, hi0, hi1, hi2⟩ := Ar.lit_get h.1
    obtain ⟨c2, hc2, hk0, hk1, hk2⟩ := Ar.lit_get h.2
    have e : c2 = c := by rw [hc] at hc2; exact (Option.some.inj hc2).symm
    subst e
    refine ⟨Ar.upd_len (Cl.swap_len i k) r, rfl, fun x => ?_⟩
    rw [upd_get (Cl.swap_len i k) (fun _ => rfl)]
    by_cases hx : x = r
    · subst hx
      simp only [if_true, hc, Option.map_some]
      exact .inr ⟨c2, _, rfl, rfl, swap_perm _ _ _ hi1 hk1, rfl, rfl, rfl⟩
    · simp only [hx, if_false]
      exact (Ar.Sw.refl A).g x
theorem bring_sw (S : Tr) (A : Ar) (r to : Int) : Ar.Sw A (bring S A r to) := swap_sw _ _ _ _

/-! ### a clause is attached -/
def attach (W : Wt) (S : Tr) (A : Ar) (r : Int) : Bool × Wt × Ar :=
  if A.has r then
    let W1 : Wt := { W with pending := W.pending ++ [r] }
    if 2 ≤ (A.lits r).length then
      let A2 := bring S (bring S A r 0) r 1
      (true, (W1.add (A2.lit r 0) ⟨r, A2.lit r 1, decide ((A.lits r).length = 2)⟩).add (A2.lit r 1) ⟨r, A2.lit r 0, decide ((A.lits r).length = 2)⟩, A2)
    else (true, W1, A)
  else (false, W, A)
theorem right_ix {l : Int} {n : Nat} (h : right l n = true) : 0 ≤ litIx l ∧ (litIx l).toNat < 2 * n ∧ l.natAbs ≤ n ∧ l ≠ 0 := by
  unfold right at h
  simp only [Bool.and_eq_true, bne_iff_ne, ne_eq, decide_eq_true_eq] at h
  unfold litIx
  split <;> refine ⟨by omega, by omega, h.2, h.1⟩
theorem row_add (W : Wt) (l : Int) (x : Wat) (i : Nat) : (W.add l x).row i = if i = (litIx l).toNat ∧ i < W.lists.length then W.row i ++ [x] else W.row i := by
  unfold Wt.add Wt.row
  simp only
  rw [List.getElem?_set]
  by_cases h : (litIx l).toNat = i
  · subst h
    by_cases h2 : (litIx l).toNat < W.lists.length
    · simp [h2]
    · simp [h2, List.getElem?_eq_none (Nat.not_lt.1 h2)]
  · have : ¬ i = (litIx l).toNat := fun e => h e.symm
    simp [h, this]
theorem add_len (W : Wt) (l : Int) (x : Wat) : (W.add l x).lists.length = W.lists.length := by simp [Wt.add]
theorem lit_mem {A : Ar} {r : Int} {i : Nat} (h : i < (A.lits r).length) : A.lit r (i : Int) ∈ A.lits r := by
  obtain ⟨x, hx⟩ := lt_get h
  rw [lit_nat hx]; exact List.mem_of_getElem? hx
theorem k_Attach {L : List HPr} {w : World} {wx a t : Nat} {W : Wt} {S : Tr} {A : Ar} (H : Holds (WtR wx a t W W.lists.length :: ArR a A :: TrR t S :: L) w) (hs : S.Sm) (hd : S.starts.length ≤ 1000000) (ha : A.Sm) (hn : W.lists.length = 2 * S.vars.length) (r : Int)
    (hr : ∀ l ∈ A.lits r, right l S.vars.length = true) (hp : W.pending.length ≤ 1000000000) (hrow : ∀ i, (W.row i).length ≤ 1000000000) :
    Calls cx.P F.watch_Watcher_Attach #[vP wx 0, vI r] w (Ret fun v w' => v = vB (attach W S A r).1 ∧ Holds (WtR wx a t (attach W S A r).2.1 W.lists.length :: ArR a (attach W S A r).2.2 :: TrR t S :: L) w') := by
  apply vc_watch_Watcher_Attach
  obtain ⟨al, cl, hh, pa, pc, hl', H⟩ := WtR.op H
  unfold attach
  refine ⟨_, cel H 0 rfl rfl, Calls.ret (atr H 4 rfl fun H => k_Has H r) ?_⟩
  rintro _ w1 ⟨rfl, H⟩
  refine ⟨_, rfl, ?_⟩
  have hnv := hs.n
  cases hhas : A.has r with
  | false => exact ⟨rfl, WtR.sh hl' H⟩
  | true =>
    refine gif_f rfl ⟨_, _, _, cel H 0 rfl rfl, al |> fun _ => Sv.al H fun b1 w2 H => ?_⟩
    refine oap slInt H 4 rfl (asrc_blk slInt H 0 rfl rfl rfl) (by omega) (by omega) fun a' c' w3 H => ⟨_, _, _, rfl, ?_⟩
    refine st H 1 rfl rfl (by simp) fun w4 H => ?_
    have H := H.tail
    generalize hW1 : ({ W with pending := W.pending ++ [r] } : Wt) = W1
    have hW1l : W1.lists = W.lists := by rw [← hW1]
    have H : Holds (wtL wx a t W1 W.lists.length al cl hh a' c' ++ (ArR a A :: TrR t S :: L)) w4 := H.cast (by subst hW1; simp [wtL, setL])
    refine ⟨_, cel H 0 rfl rfl, Calls.ret (atr H 4 rfl fun H => k_ALen H ha r) ?_⟩
    rintro _ w5 ⟨rfl, H⟩
    refine ⟨_, rfl, gif_i (fun h => ?_) (fun h => ?_)⟩
    · have h2 : 2 ≤ (A.lits r).length := by have := of_decide_eq_true h; omega
      simp only [h2, if_true]
      refine Calls.ret (k_bring H 0 5 4 rfl rfl rfl hs hd ha r 0 (by omega) (by omega)) ?_
      rintro _ w6 ⟨rfl, H⟩
      have sw1 := bring_sw S A r 0
      refine ⟨rfl, Calls.ret (k_bring H 0 5 4 rfl rfl rfl hs hd (sw1.sm ha) r 1 (by omega) (by omega)) ?_⟩
      rintro _ w7 ⟨rfl, H⟩
      have sw2 := sw1.trans (bring_sw S (bring S A r 0) r 1)
      generalize bring S (bring S A r 0) r 1 = A2 at H sw2
      have ha2 := sw2.sm ha
      have pm := sw2.perm r
      have hlen2 := pm.length_eq
      refine ⟨rfl, dr H fun w8 H => ⟨_, cel H 0 rfl rfl, _, cel H 0 rfl rfl, Calls.ret (atr H 4 rfl fun H => k_ALit H ha2 r 0) ?_⟩⟩
      rintro _ w9 ⟨rfl, H⟩
      refine ⟨A2.lit r 0, rfl, cel H 0 rfl rfl, Calls.ret (atr H 4 rfl fun H => k_ALit H ha2 r 1) ?_⟩
      rintro _ w10 ⟨rfl, H⟩
      have m0 : A2.lit r 0 ∈ A2.lits r := lit_mem (i := 0) (by omega)
      have m1 : A2.lit r 1 ∈ A2.lits r := lit_mem (i := 1) (by omega)
      obtain ⟨p1, p2, p3, p4⟩ := right_ix (hr _ (pm.mem_iff.1 m0))
      obtain ⟨q1, q2, q3, q4⟩ := right_ix (hr _ (pm.mem_iff.1 m1))
      have H : Holds (WtR wx a t W1 W.lists.length :: ArR a A2 :: TrR t S :: L) w10 := WtR.sh (by rw [hW1l]; exact hl') H
      have eb : (((A.lits r).length : Int) == (2 : Int)) = decide ((A.lits r).length = 2) := by rw [Bool.eq_iff_iff, beq_iff_eq, decide_eq_true_eq]; omega
      have hrow1 : ∀ i, (W1.row i).length ≤ 1000000000 := fun i => by have := hrow i; unfold Wt.row at this ⊢; rw [hW1l]; exact this
      refine ⟨A2.lit r 1, rfl, Calls.ret (k_wadd H (A2.lit r 0) (by omega) p1 (by rw [hW1l, hn]; exact p2) (by rw [hn]; omega) (by have := hrow1 (litIx (A2.lit r 0)).toNat; omega) ⟨r, A2.lit r 1, ((A.lits r).length : Int) == (2 : Int)⟩) ?_⟩
      rintro _ w11 ⟨rfl, H⟩
      refine ⟨rfl, Calls.ret (k_wadd H (A2.lit r 1) (by omega) q1 (by rw [add_len, hW1l, hn]; exact q2) (by rw [hn]; omega) ?_ ⟨r, A2.lit r 0, ((A.lits r).length : Int) == (2 : Int)⟩) ?_⟩
      · rw [row_add]
        have := hrow1 (litIx (A2.lit r 1)).toNat
        split
        · rw [List.length_append]; simp; omega
        · omega
      rintro _ w12 ⟨rfl, H⟩
      rw [eb] at H
      exact ⟨rfl, trivial, H⟩
    · have h2 : ¬ 2 ≤ (A.lits r).length := by have := of_decide_eq_false h; omega
      simp only [h2, if_false, if_true]
      exact ⟨trivial, WtR.sh (by rw [hW1l]; exact hl') H⟩

/-! ### a watch is visited -/
theorem put_sm {S : Tr} (h : S.Sm) (l r : Int) : (S.put l r).Sm := by
  unfold Tr.put
  split
  · refine ⟨by unfold Tr.putC; simp only [List.length_set]; exact h.n, fun c hc => ?_⟩
    unfold Tr.putC at hc
    rcases List.mem_or_eq_of_mem_set hc with hc | hc
    · exact h.v c hc
    · subst hc
      by_cases hl : l < 0 <;> simp [hl]
  · exact h
def findGo (S : Tr) : List Int → Nat → Option Nat
  | [], _ => none
  | l :: ls, i => if 0 ≤ S.value l then some i else findGo S ls (i + 1)
structure VR where
  out : Int
  W : Wt
  S : Tr
  A : Ar
  x : Wat
def unitS (S : Tr) (l r : Int) : Tr := if S.value l = 0 then S.put l r else S
def unitO (S : Tr) (l r : Int) : Int := if (unitS S l r).value l < 0 then 2 else 0
def swap01 (A : Ar) (r f : Int) : Ar := if A.lit r 0 = f then A.swap r 0 1 else A
def visit (W : Wt) (S : Tr) (A : Ar) (x : Wat) (f : Int) : VR :=
  let W0 : Wt := { W with visits := W.visits + 1 }
  if A.has x.ref then
    if S.value x.blocker > 0 then ⟨0, W0, S, A, x⟩
    else if x.binary then ⟨unitO S x.blocker x.ref, W0, unitS S x.blocker x.ref, A, x⟩
    else
      let A1 := swap01 A x.ref f
      let first := A1.lit x.ref 0
      if S.value first > 0 then ⟨0, W0, S, A1, { x with blocker := first }⟩
      else match findGo S ((A1.lits x.ref).drop 2) 2 with
        | some i => ⟨1, W0.add (A1.lit x.ref i) ⟨x.ref, first, false⟩, S, A1.swap x.ref 1 i, x⟩
        | none => ⟨unitO S first x.ref, W0, unitS S first x.ref, A1, x⟩
  else ⟨1, W0, S, A, x⟩
theorem swap01_sw (A : Ar) (r f : Int) : Ar.Sw A (swap01 A r f) := by
  unfold swap01
  split
  · exact swap_sw _ _ _ _
  · exact Ar.Sw.refl _
theorem litIx_inj {x y : Int} (h0 : 0 ≤ litIx x) (h1 : 0 ≤ litIx y) (h : (litIx x).toNat = (litIx y).toNat) : x = y := by
  unfold litIx at *
  split at h <;> split at h <;> simp_all <;> omega
theorem findGo_ge : ∀ {S : Tr} {ls : List Int} {i j : Nat}, findGo S ls i = some j → i ≤ j ∧ j < i + ls.length ∧ ∃ l, ls[j - i]? = some l ∧ 0 ≤ S.value l
  | S, [], i, j, h => by simp [findGo] at h
  | S, l :: ls, i, j, h => by
    unfold findGo at h
    split at h
    · rename_i h0
      simp only [Option.some.injEq] at h
      subst h
      exact ⟨Nat.le_refl _, by simp, l, by simp, h0⟩
    · obtain ⟨h1, h2, l', h3, h4⟩ := findGo_ge h
      refine ⟨by omega, by simp; omega, l', ?_, h4⟩
      rw [show j - i = (j - (i + 1)) + 1 by omega, List.getElem?_cons_succ]
      exact h3
/-- Where a watch's parts lie. -/
theorem wat_cel {L : List HPr} {w : World} (H : Holds L w) {b o n c : Nat} {ws : List Wat} (j : Nat) (hj : L[j]? = some (osl T.watch_watch 3 (aP b o) n c (ws.flatMap Wat.vs))) {i : Nat} {x : Wat} (hx : ws[i]? = some x) (k : Nat) (hk : k < 3) {v : Value} (hv : x.vs[k]? = some v) : Cel w b (o + i * 3 + k) v := by
  rw [Nat.add_assoc]
  exact oc H j hj (by rw [flat_get _ _ _ _ (fun x _ => x.vs_len) hx hk]; exact hv)
theorem wat_set {L : List HPr} {w : World} (H : Holds L w) {b o n c : Nat} {ws : List Wat} (j : Nat) (hj : L[j]? = some (osl T.watch_watch 3 (aP b o) n c (ws.flatMap Wat.vs))) {i : Nat} {x x' : Wat} (hx : ws[i]? = some x) (k : Nat) {us : List Value} (ha : us.all isOne = true) (hk : k + us.length ≤ 3) (he : setL x.vs k us = x'.vs) {K : World → Prop}
    (hK : ∀ w1, Holds (L.set j (osl T.watch_watch 3 (aP b o) n c ((ws.set i x').flatMap Wat.vs))) w1 → K w1) : St w b (o + i * 3 + k) us K := by
  rw [Nat.add_assoc]
  have hlen : (ws.flatMap Wat.vs).length = ws.length * 3 := flat_len _ fun x _ => x.vs_len
  have := get_lt hx
  refine ost H j hj ha (by rw [hlen]; omega) fun w1 H => hK w1 (H.cast ?_)
  rw [flat_set _ _ _ _ _ _ (fun x _ => x.vs_len) hx hk he]
theorem k_visit {L : List HPr} {w : World} {wx a t b o n c hole i : Nat} {ws : List Wat} {x : Wat} {W : Wt} {S : Tr} {A : Ar} (H : Holds (osl T.watch_watch 3 (aP b o) n c (ws.flatMap Wat.vs) :: WtR wx a t W hole :: ArR a A :: TrR t S :: L) w) (hx : ws[i]? = some x)
    (hs : S.Sm) (hl : S.l.length ≤ 1000000) (ha : A.Sm) (f : Int) (hf : S.value f < 0) (hf0 : right f S.vars.length = true) (hh : hole = (litIx f).toNat) (hn : W.lists.length = 2 * S.vars.length) (hr : ∀ l ∈ A.lits x.ref, right l S.vars.length = true) (hrow : ∀ i, (W.row i).length ≤ 1000000000) (hv0 : 0 ≤ W.visits) (hv : W.visits ≤ 4611686018427387904) :
    Calls cx.P F.watch_Watcher_visit #[vP wx 0, vP b (o + i * 3), vI f] w (Ret fun v w' => v = vI (visit W S A x f).out ∧ Holds (osl T.watch_watch 3 (aP b o) n c ((ws.set i (visit W S A x f).x).flatMap Wat.vs) :: WtR wx a t (visit W S A x f).W hole :: ArR a (visit W S A x f).A :: TrR t (visit W S A x f).S :: L) w') := by
  apply vc_watch_Watcher_visit
  have hsame : ws.set i x = ws := set_self hx
  have hnv := hs.n
  obtain ⟨al, cl, hh', pa, pc, hl', H⟩ := WtR.op H.swap
  have H := H.pick 4 rfl
  refine ⟨W.visits, cel H 1 rfl rfl, by unfold InI; omega, st H 1 rfl rfl (by simp) fun w1 H => ?_⟩
  have hx0 : ∀ {L w} (H : Holds (osl T.watch_watch 3 (aP b o) n c (ws.flatMap Wat.vs) :: L) w), Cel w b (o + i * 3) (vI x.ref) := fun H => wat_cel H 0 rfl hx 0 (by omega) rfl
  have hx1 : ∀ {L w} (H : Holds (osl T.watch_watch 3 (aP b o) n c (ws.flatMap Wat.vs) :: L) w), Cel w b (o + i * 3 + 1) (vI x.blocker) := fun H => wat_cel H 0 rfl hx 1 (by omega) rfl
  have hx2 : ∀ {L w} (H : Holds (osl T.watch_watch 3 (aP b o) n c (ws.flatMap Wat.vs) :: L) w), Cel w b (o + i * 3 + 2) (vB x.binary) := fun H => wat_cel H 0 rfl hx 2 (by omega) rfl
  unfold visit
  generalize hW0 : ({ W with visits := W.visits + 1 } : Wt) = W0
  have hWl : W0.lists = W.lists := by rw [← hW0]
  have H : Holds (osl T.watch_watch 3 (aP b o) n c (ws.flatMap Wat.vs) :: (wtL wx a t W0 hole al cl hh' pa pc ++ (ArR a A :: TrR t S :: L))) w1 := H.cast (by subst hW0; simp [wtL, setL])
  have shut : ∀ {B : HPr} {L : List HPr} {w : World}, Holds (B :: (wtL wx a t W0 hole al cl hh' pa pc ++ L)) w → Holds (B :: WtR wx a t W0 hole :: L) w := fun H => part_shut1 (fun _ h => ⟨al, cl, hh', pa, pc, by rw [hWl]; exact hl', h⟩) H
  refine dr H fun w2 H => ⟨_, cel H 1 rfl rfl, _, hx0 H, Calls.ret (atr H 5 rfl fun H => k_Has H x.ref) ?_⟩
  rintro _ w3 ⟨rfl, H⟩
  refine ⟨_, rfl, ?_⟩
  cases hhas : A.has x.ref with
  | false => exact ⟨rfl, by rw [if_neg (by simp)]; simp only [hsame]; exact shut H⟩
  | true =>
    simp only [if_true]
    refine gif_f rfl (dr H fun w4 H => ⟨_, cel H 1 rfl rfl, _, hx1 H, Calls.ret (atr H 6 rfl fun H => k_Value H hs x.blocker) ?_⟩)
    rintro _ w5 ⟨rfl, H⟩
    refine ⟨_, rfl, gif_i (fun h => ?_) (fun h => ⟨_, hx2 H, gif_i (fun h2 => ?_) (fun h2 => ?_)⟩)⟩
    · have h' : S.value x.blocker > 0 := of_decide_eq_true h
      simp only [h', if_true, hsame]
      exact ⟨trivial, shut H⟩
    · have h' : ¬ S.value x.blocker > 0 := of_decide_eq_false h
      simp only [h', if_false, h2, if_true, hsame]
      refine dr H fun w6 H => ⟨_, hx1 H, _, hx0 H, Calls.ret (k_unit H 1 6 (by omega) rfl rfl hs hl (put_sm hs) x.blocker x.ref) ?_⟩
      rintro _ w7 ⟨rfl, H⟩
      exact ⟨_, rfl, rfl, shut H⟩
    · have h' : ¬ S.value x.blocker > 0 := of_decide_eq_false h
      rw [if_neg h', if_neg (show ¬ x.binary = true by rw [h2]; simp)]
      refine dr H fun w6 H => ⟨_, cel H 1 rfl rfl, _, hx0 H, Calls.ret (atr H 5 rfl fun H => k_ALit H ha x.ref 0) ?_⟩
      rintro _ w7 ⟨rfl, H⟩
      have hA : ∃ A1, A1 = swap01 A x.ref f := ⟨_, rfl⟩
      obtain ⟨A1, hA1⟩ := hA
      have sw := swap01_sw A x.ref f
      rw [← hA1] at sw ⊢
      have ha1 := sw.sm ha
      have tl : ∀ w8, Holds (osl T.watch_watch 3 (aP b o) n c (ws.flatMap Wat.vs) :: (wtL wx a t W0 hole al cl hh' pa pc ++ (ArR a A1 :: TrR t S :: L))) w8 → Holds (osl T.watch_watch 3 (aP b o) n c (ws.flatMap Wat.vs) :: (wtL wx a t W0 hole al cl hh' pa pc ++ (ArR a A1 :: TrR t S :: L))) w8 := fun _ H => H
      have hr1 : ∀ l ∈ A1.lits x.ref, right l S.vars.length = true := fun l hl => hr l ((sw.perm _).mem_iff.1 hl)
      have hlen1 := lits_small ha1 x.ref
      refine ⟨A.lit x.ref 0, rfl, gif_i (fun h3 => ?b1) (fun h3 => ?b2)⟩
      case' b1 =>
        have h3' : A.lit x.ref 0 = f := by simpa using h3
        refine dr H fun w8 H => ⟨_, cel H 1 rfl rfl, _, hx0 H, Calls.ret (atp H 5 rfl fun H => k_Swap H ha x.ref 0 1) ?_⟩
        rintro _ w9 ⟨⟨y, rfl⟩, H⟩
        have e1 : A.swap x.ref 0 1 = A1 := by rw [hA1]; unfold swap01; rw [if_pos h3']
        rw [e1] at H
        refine ⟨_, rfl, ?_⟩
      case' b2 =>
        have h3' : ¬ A.lit x.ref 0 = f := by simpa using h3
        have e1 : A = A1 := by rw [hA1]; unfold swap01; rw [if_neg h3']
        rw [e1] at H
      all_goals
        have H := tl _ H
        refine dr H fun w10 H => ⟨_, cel H 1 rfl rfl, _, hx0 H, Calls.ret (atr H 5 rfl fun H => k_ALit H ha1 x.ref 0) ?_⟩
        rintro _ w11 ⟨rfl, H⟩
        refine ⟨A1.lit x.ref 0, rfl, _, cel H 1 rfl rfl, Calls.ret (atr H 6 rfl fun H => k_Value H hs (A1.lit x.ref 0)) ?_⟩
        rintro _ w12 ⟨rfl, H⟩
        refine ⟨_, rfl, gif_i (fun h4 => ?_) (fun h4 => ?_)⟩
        · have h4' : S.value (A1.lit x.ref 0) > 0 := of_decide_eq_true h4
          simp only [h4', if_true]
          exact wat_set (x' := { x with blocker := A1.lit x.ref 0 }) H 0 rfl hx 1 rfl (by simp) rfl fun w13 H => ⟨trivial, shut H⟩
        · have h4' : ¬ S.value (A1.lit x.ref 0) > 0 := of_decide_eq_false h4
          simp only [h4', if_false]
          refine ⟨fun vs w => ∃ m : Nat, vs = [vI m] ∧ 2 ≤ m ∧ (m ≤ (A1.lits x.ref).length ∨ m = 2) ∧ findGo S ((A1.lits x.ref).drop m) m = findGo S ((A1.lits x.ref).drop 2) 2 ∧ Holds (osl T.watch_watch 3 (aP b o) n c (ws.flatMap Wat.vs) :: (wtL wx a t W0 hole al cl hh' pa pc ++ (ArR a A1 :: TrR t S :: L))) w, fun vs _ => (match vs with | [.int _ m] => ((A1.lits x.ref).length : Int) - m | _ => 0).toNat, ⟨2, rfl, Nat.le_refl _, .inr rfl, rfl, H⟩, ?_⟩
          rintro _ w13 ⟨m, hv, g1, g2, g3, H⟩
          simp only [List.cons.injEq, Value.int.injEq, true_and, and_true] at hv
          subst hv
          refine dr H fun w14 H => ⟨_, cel H 1 rfl rfl, _, hx0 H, Calls.ret (atr H 5 rfl fun H => k_ALen H ha1 x.ref) ?_⟩
          rintro _ w15 ⟨rfl, H⟩
          refine ⟨_, rfl, gif_i (fun h5 => ?_) (fun h5 => ?_)⟩
          · have h5' : m < (A1.lits x.ref).length := by have := of_decide_eq_true h5; omega
            obtain ⟨y, hy⟩ := lt_get h5'
            have hdr : (A1.lits x.ref).drop m = y :: (A1.lits x.ref).drop (m + 1) := by
              rw [List.drop_eq_getElem_cons h5', (List.getElem?_eq_some_iff.1 hy).2]
            rw [hdr] at g3
            have g3 : (if 0 ≤ S.value y then some m else findGo S ((A1.lits x.ref).drop (m + 1)) (m + 1)) = findGo S ((A1.lits x.ref).drop 2) 2 := g3
            refine dr H fun w16 H => ⟨_, cel H 1 rfl rfl, _, hx0 H, Calls.ret (atr H 5 rfl fun H => k_ALit H ha1 x.ref m) ?_⟩
            rintro _ w17 ⟨rfl, H⟩
            refine ⟨A1.lit x.ref m, rfl, ?_⟩
            have ely : A1.lit x.ref m = y := lit_nat hy
            rw [ely]
            refine ⟨_, cel H 1 rfl rfl, Calls.ret (atr H 6 rfl fun H => k_Value H hs y) ?_⟩
            rintro _ w18 ⟨rfl, H⟩
            refine ⟨_, rfl, gif_i (fun h6 => ?_) (fun h6 => ?_)⟩
            · have h6' : 0 ≤ S.value y := of_decide_eq_true h6
              rw [if_pos h6'] at g3
              rw [← g3]
              simp only [ely]
              refine dr H fun w19 H => ⟨_, cel H 1 rfl rfl, _, hx0 H, Calls.ret (atp H 5 rfl fun H => k_Swap H ha1 x.ref 1 m) ?_⟩
              rintro _ w20 ⟨⟨z, rfl⟩, H⟩
              obtain ⟨p1, p2, p3, p4⟩ := right_ix (hr1 y (List.mem_of_getElem? hy))
              obtain ⟨q1, q2, q3, q4⟩ := right_ix hf0
              have hny : y ≠ f := fun e => by subst e; omega
              have H := (shut H).swap
              refine ⟨_, rfl, x.ref, hx0 H.swap, Calls.ret (k_wadd H y (by omega) p1 (by rw [hWl, hn]; exact p2) (fun e => hny (litIx_inj p1 q1 (by rw [e, hh]))) ?_ ⟨x.ref, A1.lit x.ref 0, false⟩) ?_⟩
              · have := hrow (litIx y).toNat
                unfold Wt.row at this ⊢
                rw [hWl]; omega
              rintro _ w21 ⟨rfl, H⟩
              exact ⟨rfl, trivial, by rw [hsame]; exact H.swap⟩
            · have h6' : ¬ 0 ≤ S.value y := of_decide_eq_false h6
              rw [if_neg h6'] at g3
              exact ⟨by unfold InI; omega, ⟨m + 1, rfl, by omega, .inl (by omega), g3, H⟩, by simp only; omega⟩
          · have h5' : ¬ m < (A1.lits x.ref).length := by have := of_decide_eq_false h5; omega
            have e0 : (A1.lits x.ref).drop m = [] := List.drop_eq_nil_of_le (by omega)
            rw [e0] at g3
            have g3 : none = findGo S ((A1.lits x.ref).drop 2) 2 := g3
            rw [← g3]
            refine ⟨_, hx0 H, Calls.ret (k_unit H 1 6 (by omega) rfl rfl hs hl (put_sm hs) (A1.lit x.ref 0) x.ref) ?_⟩
            rintro _ w16 ⟨rfl, H⟩
            simp only [hsame]
            exact ⟨_, rfl, rfl, shut H⟩
end Go.Sv
/- Sorting of short lists; clauses in order. -/
namespace Go.Sv
open Go Go.Proofs
set_option maxRecDepth 100000

theorem k_isNaN {L : List HPr} {w : World} (H : Holds L w) (x : Int) : Calls cx.P F.cmp_isNaN_int #[vI x] w (Ret fun v w' => v = vB false ∧ Holds L w') := by
  apply vc_cmp_isNaN_int
  exact ⟨by simp, H⟩
def cmpI (x y : Int) : Int := if x < y then -1 else if x > y then 1 else 0
theorem k_cmp {L : List HPr} {w : World} (H : Holds L w) (x y : Int) : Calls cx.P F.cmp_Compare_int #[vI x, vI y] w (Ret fun v w' => v = vI (cmpI x y) ∧ Holds L w') := by
  apply vc_cmp_Compare_int
  refine Calls.ret (k_isNaN H x) ?_
  rintro _ w1 ⟨rfl, H⟩
  refine ⟨_, rfl, Calls.ret (k_isNaN H y) ?_⟩
  rintro _ w2 ⟨rfl, H⟩
  refine ⟨_, rfl, gif_f rfl (gif_f rfl (gif_i (fun h => ?_) (fun h => gif_i (fun h2 => ?_) (fun h2 => ?_))))⟩
  · have h' : x < y := of_decide_eq_true h
    exact ⟨by unfold cmpI; rw [if_pos h'], H⟩
  · have h' : ¬ x < y := of_decide_eq_false h
    have h2' : x > y := of_decide_eq_true h2
    exact ⟨by unfold cmpI; rw [if_neg h', if_pos h2'], H⟩
  · have h' : ¬ x < y := of_decide_eq_false h
    have h2' : ¬ x > y := of_decide_eq_false h2
    exact ⟨by unfold cmpI; rw [if_neg h', if_neg h2'], H⟩
theorem k_litCompare {L : List HPr} {w : World} (H : Holds L w) {x y : Int} (hx : x.natAbs ≤ 1000000000) (hy : y.natAbs ≤ 1000000000) : Calls cx.P F.lit_Compare #[vI x, vI y] w (Ret fun v w' => v = vI (cmpI (litIx x) (litIx y)) ∧ Holds L w') := by
  apply vc_lit_Compare
  refine Calls.ret (k_Index H hx) ?_
  rintro _ w1 ⟨rfl, H⟩
  refine ⟨_, rfl, Calls.ret (k_Index H hy) ?_⟩
  rintro _ w2 ⟨rfl, H⟩
  refine ⟨_, rfl, Calls.ret (k_cmp H _ _) ?_⟩
  rintro _ w3 ⟨rfl, H⟩
  exact ⟨_, rfl, rfl, H⟩
/-- A copy. The slice that is copied may lie anywhere. -/
theorem k_CloneI {L : List HPr} {w : World} (H : Holds L w) {sa : Option Addr} {sl sc : Nat} {xs : List Int} (hl : xs.length = sl) (hb : sl ≤ 1000000000) (hsrc : ∀ w', Holds L w' → ASrc cx 1 T.s_int (vS sa sl sc) sl (xs.map vI) w') :
    Calls cx.P F.slices_Clone_s_int_int #[vS sa sl sc] w (Ret fun v w' => ∃ a c, v = vS a sl c ∧ Holds (osl T.int 1 a sl c (xs.map vI) :: L) w') := by
  apply vc_slices_Clone_s_int_int
  subst hl
  refine gif_i (fun h => ?_) (fun h => ?_)
  · cases sa with
    | some p => cases h
    | none =>
      have hn : xs = [] := by
        have := (hsrc _ H).cells
        rw [run_firstCells_none] at this
        simp only [Result.ok.injEq] at this
        have h2 := congrArg Array.size this.1
        simp at h2
        exact List.eq_nil_of_length_eq_zero h2.symm
      subst hn
      exact ⟨none, 0, rfl, osl_nil T.int 1 H⟩
  · refine al H fun b w1 H1 => ?_
    have H2 : Holds (osl T.int 1 (aP b 0) 0 0 [] :: L) w1 := H1.imp fun m hm => ⟨by simp, Nat.le_refl _, rfl, .inr ⟨b, [], [], rfl, by simp, hm⟩⟩
    refine oap slInt H2 0 rfl (hsrc _ H2.tail) (by omega) (by omega) fun a' c' w2 H => ⟨_, _, _, rfl, a', c', by rw [Nat.zero_add], ?_⟩
    rw [Nat.zero_add] at H
    exact H
theorem k_CloneB {L : List HPr} {w : World} (H : Holds L w) {sa : Option Addr} {sl sc : Nat} {xs : List Bool} (hl : xs.length = sl) (hb : sl ≤ 1000000000) (hsrc : ∀ w', Holds L w' → ASrc cx 1 T.s_bool (vS sa sl sc) sl (xs.map vB) w') :
    Calls cx.P F.slices_Clone_s_bool_bool #[vS sa sl sc] w (Ret fun v w' => ∃ a c, v = vS a sl c ∧ Holds (osl T.bool 1 a sl c (xs.map vB) :: L) w') := by
  apply vc_slices_Clone_s_bool_bool
  subst hl
  refine gif_i (fun h => ?_) (fun h => ?_)
  · cases sa with
    | some p => cases h
    | none =>
      have hn : xs = [] := by
        have := (hsrc _ H).cells
        rw [run_firstCells_none] at this
        simp only [Result.ok.injEq] at this
        have h2 := congrArg Array.size this.1
        simp at h2
        exact List.eq_nil_of_length_eq_zero h2.symm
      subst hn
      exact ⟨none, 0, rfl, osl_nil T.bool 1 H⟩
  · refine al H fun b w1 H1 => ?_
    have H2 : Holds (osl T.bool 1 (aP b 0) 0 0 [] :: L) w1 := H1.imp fun m hm => ⟨by simp, Nat.le_refl _, rfl, .inr ⟨b, [], [], rfl, by simp, hm⟩⟩
    refine oap slBool H2 0 rfl (hsrc _ H2.tail) (by omega) (by omega) fun a' c' w2 H => ⟨_, _, _, rfl, a', c', by rw [Nat.zero_add], ?_⟩
    rw [Nat.zero_add] at H
    exact H

/-! ### insertion sort -/
def swp (l : List Int) (j : Nat) : List Int := (l.set (j + 1) ((l[j]?).getD 0)).set j ((l[j + 1]?).getD 0)
/-- Down from a + k, as far as a. -/
def downGo (lt : Int → Int → Bool) (a : Nat) : Nat → List Int → List Int
  | 0, l => l
  | k + 1, l => if lt ((l[a + k + 1]?).getD 0) ((l[a + k]?).getD 0) then downGo lt a k (swp l (a + k)) else l
def insGo (lt : Int → Int → Bool) (a : Nat) : Nat → Nat → List Int → List Int
  | 0, _, l => l
  | k + 1, i, l => insGo lt a k (i + 1) (downGo lt a (i - a) l)
theorem swp_perm {l : List Int} {j : Nat} (h : j + 1 < l.length) : (swp l j).Perm l := by
  have := swap_perm l (j + 1) j h (by omega)
  exact this
theorem swp_len (l : List Int) (j : Nat) : (swp l j).length = l.length := by simp [swp]
theorem downGo_perm (lt : Int → Int → Bool) (a : Nat) : ∀ (k : Nat) (l : List Int), a + k < l.length ∨ k = 0 → (downGo lt a k l).Perm l
  | 0, l, _ => List.Perm.refl _
  | k + 1, l, h => by
    unfold downGo
    split
    · have h' : a + k + 1 < l.length := by omega
      exact (downGo_perm lt a k _ (by rw [swp_len]; omega)).trans (swp_perm h')
    · exact List.Perm.refl _
theorem insGo_perm (lt : Int → Int → Bool) (a : Nat) : ∀ (k i : Nat) (l : List Int), a ≤ i → i + k ≤ l.length → (insGo lt a k i l).Perm l
  | 0, _, l, _, _ => List.Perm.refl _
  | k + 1, i, l, h, h2 => by
    unfold insGo
    have p := downGo_perm lt a (i - a) l (by omega)
    exact (insGo_perm lt a k (i + 1) _ (by omega) (by rw [p.length_eq]; omega)).trans p
theorem k_insertion {L : List HPr} {w : World} {p : Option Addr} {c g : Nat} {cap : List Value} {xs : List Int} (H : Holds (osl T.int 1 p xs.length c (xs.map vI) :: L) w) (hn : xs.length ≤ 1000000000) (a b : Nat) (hab : a ≤ b) (hb : b ≤ xs.length) (lt : Int → Int → Bool) (hg : ∃ x, cx.fn g = some x)
    (hcmp : ∀ (M : List HPr) (x y : Int) (w' : World), x ∈ xs → y ∈ xs → Holds (M ++ L) w' → Calls cx.P g (vI x :: vI y :: cap).toArray w' (Ret fun r w'' => ∃ d, r = vI d ∧ decide (d < 0) = lt x y ∧ Holds (M ++ L) w'')) :
    Calls cx.P F.slices_insertionSortCmpFunc_int #[vS p xs.length c, vI (a : Int), vI (b : Int), .func (.func g) #[] cap.toArray] w (Ret fun v w' => v = .tuple #[] ∧ Holds (osl T.int 1 p xs.length c ((insGo lt a (b - (a + 1)) (a + 1) xs).map vI) :: L) w') := by
  apply vc_slices_insertionSortCmpFunc_int
  obtain ⟨gx, hgx⟩ := hg
  generalize hR : insGo lt a (b - (a + 1)) (a + 1) xs = R
  refine ⟨by unfold InI; omega, fun vs w => ∃ (i : Nat) (ys : List Int), vs = [vI i] ∧ a + 1 ≤ i ∧ ys.Perm xs ∧ insGo lt a (b - i) i ys = R ∧ Holds (osl T.int 1 p xs.length c (ys.map vI) :: L) w,
    fun vs _ => (match vs with | [.int _ i] => (b : Int) - i | _ => 0).toNat, ⟨a + 1, xs, by rw [show ((a + 1 : Nat) : Int) = (a : Int) + 1 by omega], Nat.le_refl _, List.Perm.refl _, hR, H⟩, ?_⟩
  rintro i1 w1 ⟨i, ys, hv, hi, hp, hg1, H⟩
  simp only [List.cons.injEq, Value.int.injEq, true_and, and_true] at hv
  subst hv
  have hlen := hp.length_eq
  refine gif_i (fun h => ?_) (fun h => ?_)
  · have h' : i < b := by have := of_decide_eq_true h; omega
    obtain ⟨bb, o, rfl⟩ := osl_ptr H 0 rfl (by omega)
    have hg2 : insGo lt a (b - (i + 1)) (i + 1) (downGo lt a (i - a) ys) = R := by
      rw [show b - i = (b - (i + 1)) + 1 by omega] at hg1
      exact hg1
    generalize hD : downGo lt a (i - a) ys = D at hg2
    have hDp : D.Perm xs := by rw [← hD]; exact (downGo_perm lt a (i - a) ys (by omega)).trans hp
    refine ⟨fun vs w => ∃ (k : Nat) (zs : List Int), vs = [vI ((a + k : Nat) : Int)] ∧ a + k ≤ i ∧ zs.Perm xs ∧ downGo lt a k zs = D ∧ Holds (osl T.int 1 (aP bb o) xs.length c (zs.map vI) :: L) w,
      fun vs _ => (match vs with | [.int _ j] => j | _ => 0).toNat, ⟨i - a, ys, by rw [show a + (i - a) = i by omega], by omega, hp, hD, H⟩, ?_⟩
    rintro j1 w2 ⟨k, zs, hv, hk, hz, hg3, H⟩
    simp only [List.cons.injEq, Value.int.injEq, true_and, and_true] at hv
    subst hv
    have hzl := hz.length_eq
    have nxt : ∀ w4, zs = D → Holds (osl T.int 1 (aP bb o) xs.length c (zs.map vI) :: L) w4 → InI ((i : Int) + 1) ∧ (∃ (i' : Nat) (ys : List Int), [vI ((i : Int) + 1)] = [vI i'] ∧ a + 1 ≤ i' ∧ ys.Perm xs ∧ insGo lt a (b - i') i' ys = R ∧ Holds (osl T.int 1 (aP bb o) xs.length c (ys.map vI) :: L) w4) ∧ ((b : Int) - ((i : Int) + 1)).toNat < ((b : Int) - i).toNat := by
      intro w4 e H
      exact ⟨by unfold InI; omega, ⟨i + 1, zs, by rw [show ((i + 1 : Nat) : Int) = (i : Int) + 1 by omega], by omega, hz, by rw [e]; exact hg2, H⟩, by omega⟩
    refine dr H fun w3 H => gif_i (fun h2 => ?_) (fun h2 => ?_)
    · have h2' : 0 < k := by have := of_decide_eq_true h2; omega
      obtain ⟨k, rfl⟩ : ∃ k', k = k' + 1 := ⟨k - 1, by omega⟩
      obtain ⟨x, hx⟩ := lt_get (l := zs) (i := a + k + 1) (by omega)
      obtain ⟨y, hy⟩ := lt_get (l := zs) (i := a + k) (by omega)
      have hg3 : (if lt ((zs[a + k + 1]?).getD 0) ((zs[a + k]?).getD 0) then downGo lt a k (swp zs (a + k)) else zs) = D := hg3
      rw [hx, hy] at hg3
      simp only [Option.getD_some] at hg3
      have n1 : (((a + (k + 1) : Nat) : Int)).toNat = a + k + 1 := by omega
      have n2 : (((a + (k + 1) : Nat) : Int) - 1).toNat = a + k := by omega
      rw [n1, n2]
      refine ⟨⟨by omega, by omega⟩, pm_i ⟨x, oc H 0 rfl (map_get vI hx), by unfold InI; omega, ⟨by omega, by omega⟩, pm_i ⟨y, oc H 0 rfl (map_get vI hy), ?_⟩⟩⟩
      rw [hgx]
      show Calls cx.P g _ _ _
      refine Calls.ret (hcmp [osl T.int 1 (aP bb o) xs.length c (zs.map vI)] x y _ (hz.mem_iff.1 (List.mem_of_getElem? hx)) (hz.mem_iff.1 (List.mem_of_getElem? hy)) H) ?_
      rintro _ w4 ⟨d, rfl, hd, H⟩
      refine ⟨d, rfl, gif_i (fun h3 => ?_) (fun h3 => ?_)⟩
      · rw [hd] at h3
        rw [if_pos h3] at hg3
        refine dr H fun w5 H => ⟨by unfold InI; omega, by unfold InI; omega, ⟨by omega, by omega⟩, pm_i ⟨y, oc H 0 rfl (map_get vI hy), ⟨by omega, by omega⟩, pm_i ⟨x, oc H 0 rfl (map_get vI hx), ⟨by omega, by omega⟩, pm_i ?_⟩⟩⟩
        refine ost H 0 rfl rfl (by simp; omega) fun w6 H => ⟨⟨by omega, by omega⟩, pm_i ?_⟩
        refine ost H 0 rfl rfl (by rw [setL_len]; simp; omega) fun w7 H => ⟨by unfold InI; omega, ⟨k, swp zs (a + k), by rw [show ((a + k : Nat) : Int) = ((a + (k + 1) : Nat) : Int) - 1 by omega], by omega, (swp_perm (by omega)).trans hz, hg3, H.cast ?_⟩, by simp only; omega⟩
        have e1 : setL (setL (zs.map vI) (a + k + 1) [vI y]) (a + k) [vI x] = (swp zs (a + k)).map vI := by
          unfold swp
          rw [hx, hy]
          simp [setL, List.map_set]
        simp only [List.set_cons_zero, e1]
        rfl
      · rw [hd] at h3
        rw [if_neg (by rw [h3]; simp)] at hg3
        exact nxt w4 hg3 H
    · have h2' : k = 0 := by have := of_decide_eq_false h2; omega
      subst h2'
      exact nxt w3 hg3 H
  · have h' : ¬ i < b := by have := of_decide_eq_false h; omega
    have e0 : b - i = 0 := by omega
    rw [e0] at hg1
    have : ys = R := hg1
    rw [← this]
    exact ⟨rfl, H⟩

/-- A short list, sorted. -/
def isort (lt : Int → Int → Bool) (xs : List Int) : List Int := insGo lt 0 (xs.length - 1) 1 xs
theorem isort_perm (lt : Int → Int → Bool) (xs : List Int) : (isort lt xs).Perm xs := by
  unfold isort
  cases xs with
  | nil => exact List.Perm.refl _
  | cons x xs => exact insGo_perm lt 0 _ 1 _ (by omega) (by simp; omega)
theorem k_Sort12 {L : List HPr} {w : World} {p : Option Addr} {c g : Nat} {cap : List Value} {xs : List Int} (H : Holds (osl T.int 1 p xs.length c (xs.map vI) :: L) w) (hn : xs.length ≤ 12) (lt : Int → Int → Bool) (hg : ∃ x, cx.fn g = some x)
    (hcmp : ∀ (M : List HPr) (x y : Int) (w' : World), x ∈ xs → y ∈ xs → Holds (M ++ L) w' → Calls cx.P g (vI x :: vI y :: cap).toArray w' (Ret fun r w'' => ∃ d, r = vI d ∧ decide (d < 0) = lt x y ∧ Holds (M ++ L) w'')) :
    Calls cx.P F.slices_SortFunc_s_int_int #[vS p xs.length c, .func (.func g) #[] cap.toArray] w (Ret fun v w' => v = .tuple #[] ∧ Holds (osl T.int 1 p xs.length c ((isort lt xs).map vI) :: L) w') := by
  apply vc_slices_SortFunc_s_int_int
  refine Calls.ret (k_Len_any H _) ?_
  rintro _ w1 ⟨lim, rfl, H⟩
  refine ⟨lim, rfl, ?_⟩
  refine Calls.ret (K := fun v w' => v = .tuple #[] ∧ Holds (osl T.int 1 p xs.length c ((isort lt xs).map vI) :: L) w') ?_ ?_
  · apply vc_slices_pdqsortCmpFunc_int
    refine ⟨fun vs w => vs = [vI 0, vI xs.length, vI lim, vB true, vB true] ∧ Holds (osl T.int 1 p xs.length c (xs.map vI) :: L) w, fun _ _ => 0, ⟨rfl, H⟩, ?_⟩
    rintro a1 b1 l1 wb wp w2 ⟨hv, H⟩
    simp only [List.cons.injEq, Value.int.injEq, Value.bool.injEq, true_and, and_true] at hv
    obtain ⟨rfl, rfl, rfl, rfl, rfl⟩ := hv
    refine ⟨by unfold InI; omega, gif_t (by simp; omega) ?_⟩
    refine Calls.ret (k_insertion H (by omega) 0 xs.length (Nat.zero_le _) (Nat.le_refl _) lt hg hcmp) ?_
    rintro _ w3 ⟨rfl, H⟩
    exact ⟨rfl, rfl, H⟩
  · rintro _ w2 ⟨rfl, H⟩
    exact ⟨rfl, rfl, H⟩
end Go.Sv
/- More of slices: copies within one, the rest of one cleared. -/
namespace Go.Sv
open Go

theorem Wr_cells {w : World} {b : Nat} : ∀ (us : List Value) (p : Nat), Wr w b p us → ∀ j, j < us.length → (w.cell? ⟨b, p + 0 + j, none⟩).isSome = true ∧ w.frozen? ⟨b, p + 0 + j, none⟩ = false
  | [], _, _, j, hj => by simp at hj
  | u :: us, p, hw, j, hj => by
    cases j with
    | zero => obtain ⟨⟨_, ⟨y, hy⟩, hz⟩, _⟩ := hw; exact ⟨by show (w.cell? ⟨b, p, none⟩).isSome = true; rw [hy]; rfl, hz⟩
    | succ j =>
      have := Wr_cells us (p + 1) hw.2 j (by simpa using hj)
      rw [show p + 0 + (j + 1) = p + 1 + 0 + j by omega]
      exact this
theorem zero_eq (n : Nat) (z : List Value) (zv : Array Value) (hz : zv.toList = z) : (Builtin.zeroCells zv n).toList = repL n z := by
  rw [← made_eq n z zv hz]
  have hzs : zv.size = z.length := by rw [← hz]; simp
  simp [madeCells, Builtin.zeroCells, hzs]
/-- The rest of a slice is cleared, and cut off. -/
theorem oclr {C : Ctx} {t e sz by' : Nat} {z : List Value} (S : SlT C t e sz by' z) {ty : Nat} {L : List HPr} {w : World} (H : Holds L w) (i : Nat) {a : Option Addr} {l c k cc : Nat} {vs : List Value} {K : Value → World → Prop}
    (hi : L[i]? = some (osl e sz a l c vs)) (hk : k ≤ l) (h : ∀ w1, Holds (L.set i (osl e sz a k c (vs.take (k * sz)))) w1 → K (.tuple #[]) w1) :
    Rn C.P (Builtin.clear_ #[t] ty #[vS (slOff a c k sz) (l - k) cc]) w K := by
  have hcap := osl_cap H i hi
  rcases Nat.eq_zero_or_pos (l - k) with h0 | hp
  · have e0 : l = k := by omega
    refine ⟨.tuple #[], w, ?_, h w (H.set i hi fun m hm => isl_take k hk hm)⟩
    rw [h0]
    cases slOff a c k sz <;> simp [Builtin.clear_, run_underlying S.ht]
  · obtain ⟨inf, zv, k1, k2, k3, k4, k5⟩ := S.ex
    obtain ⟨_, _, _, h4⟩ := osl_fact H i hi
    rcases h4 with ⟨_, h5⟩ | ⟨b, pre, suf, rfl, _, _⟩
    · omega
    · have hlen := osl_len H i hi
      have hs : slOff (aP b pre.length) c k sz = aP b (pre.length + k * sz) := by
        unfold slOff
        rw [if_neg (by omega)]
        simp [aP, Addr.add]
      rw [hs]
      have hul : (repL (l - k) z).length = (l - k) * sz := by rw [repL_len, S.hz]
      have hks : k * sz + (l - k) * sz = l * sz := by rw [← Nat.add_mul]; congr 1; omega
      have hst := ost (K := fun w1 => Holds (L.set i (osl e sz (aP b pre.length) l c (setL vs (k * sz) (repL (l - k) z)))) w1) (k := k * sz) (us := repL (l - k) z) H i hi (repL_one S.one) (by rw [hul]; omega) (fun w1 H => H)
      have hall : ∀ v ∈ repL (l - k) z, v.oneCell' = true := fun v hv => by
        rw [isOne_eq]; exact List.all_eq_true.1 (repL_one (n := l - k) S.one) v hv
      have hrun := run_storeCells_cells (P := C.P) b (pre.length + k * sz) (repL (l - k) z) 0 w (fun j hj => (Wr_cells _ _ hst.1 j hj).1) (fun j hj => (Wr_cells _ _ hst.1 j hj).2) hall
      rw [Nat.add_zero] at hrun
      obtain ⟨n, hn⟩ : ∃ n, l - k = n + 1 := ⟨l - k - 1, by omega⟩
      have hz := zero_eq (l - k) z zv.cells k5
      refine ⟨.tuple #[], w.setCells b (pre.length + k * sz) (repL (l - k) z), ?_, h _ ?_⟩
      · rw [hn] at hrun hz ⊢
        simp [Builtin.clear_, run_underlying S.ht, zeroValue, typeInfo, k1, k4, hz, hrun]
      · have H2 := hst.2 _ (setCs_eq b (repL (l - k) z) w (pre.length + k * sz))
        have hi2 : (L.set i (osl e sz (aP b pre.length) l c (setL vs (k * sz) (repL (l - k) z))))[i]? = some (osl e sz (aP b pre.length) l c (setL vs (k * sz) (repL (l - k) z))) := by
          rw [List.getElem?_set, if_pos rfl, if_pos (get_lt hi)]
        have H3 := H2.set i hi2 fun m hm => isl_take k hk hm
        rw [List.set_set] at H3
        refine H3.cast ?_
        congr 2
        have e1 : vs = vs.take (k * sz) ++ vs.drop (k * sz) := (List.take_append_drop _ _).symm
        have e2 : (vs.take (k * sz)).length = k * sz := by rw [List.length_take]; omega
        have e3 : setL vs (k * sz) (repL (l - k) z) = vs.take (k * sz) ++ repL (l - k) z := by
          have := setL_at (repL (l - k) z) (vs.take (k * sz)) (vs.drop (k * sz)) [] (by rw [hul, List.length_drop]; omega)
          rw [List.append_nil, List.append_nil, ← e1, e2] at this
          exact this
        rw [e3, List.take_append_of_le_length (by omega), List.take_of_length_le (by omega)]
end Go.Sv
/- Doubles that stand side by side are dropped. -/
namespace Go.Sv
open Go Go.Proofs
set_option maxRecDepth 100000

def ddup : Int → List Int → List Int
  | _, [] => []
  | p, x :: xs => if x = p then ddup p xs else x :: ddup x xs
def compact : List Int → List Int
  | [] => []
  | x :: xs => x :: ddup x xs
theorem drop_cons {xs : List Int} {k : Nat} {x : Int} (h : xs[k]? = some x) : xs.drop k = x :: xs.drop (k + 1) := by
  rw [List.drop_eq_getElem_cons (get_lt h), (List.getElem?_eq_some_iff.1 h).2]
theorem take_snoc {xs : List Int} {k : Nat} {x : Int} (h : xs[k]? = some x) : xs.take (k + 1) = xs.take k ++ [x] := by
  rw [List.take_add_one, h]; rfl
theorem k_Compact {L : List HPr} {w : World} {p : Option Addr} {c : Nat} {xs : List Int} (H : Holds (osl T.int 1 p xs.length c (xs.map vI) :: L) w) (hn : xs.length ≤ 1000000000) :
    Calls cx.P F.slices_Compact_s_int_int #[vS p xs.length c] w (Ret fun v w' => ∃ p' c', v = vS p' (compact xs).length c' ∧ Holds (osl T.int 1 p' (compact xs).length c' ((compact xs).map vI) :: L) w') := by
  apply vc_slices_Compact_s_int_int
  have hcap := osl_cap H 0 rfl
  refine gif_i (fun h => ?_) (fun h => ?_)
  · have h' : xs.length < 2 := by have := of_decide_eq_true h; omega
    have e : compact xs = xs := by
      match xs, h' with
      | [], _ => rfl
      | [x], _ => rfl
    rw [e]; exact ⟨p, c, rfl, H⟩
  · have h' : 2 ≤ xs.length := by have := of_decide_eq_false h; omega
    obtain ⟨b, o, rfl⟩ := osl_ptr H 0 rfl (by omega)
    obtain ⟨x0, hx0⟩ := lt_get (l := xs) (i := 0) (by omega)
    refine ⟨fun vs w => ∃ (k : Nat) (q : Int), vs = [vI k] ∧ 1 ≤ k ∧ k ≤ xs.length ∧ xs[k - 1]? = some q ∧ compact xs = xs.take k ++ ddup q (xs.drop k) ∧ Holds (osl T.int 1 (aP b o) xs.length c (xs.map vI) :: L) w,
      fun vs _ => (match vs with | [.int _ k] => (xs.length : Int) - k | _ => 0).toNat, ⟨1, x0, rfl, Nat.le_refl _, by omega, hx0, ?_, H⟩, ?_⟩
    · have hd := drop_cons hx0
      rw [List.drop_zero] at hd
      rw [take_snoc hx0, List.take_zero]
      conv => lhs; rw [hd]
      rfl
    rintro k1 w1 ⟨k, q, hv, hk1, hkn, hq, hc, H⟩
    simp only [List.cons.injEq, Value.int.injEq, true_and, and_true] at hv
    subst hv
    refine gif_i (fun h2 => ?_) (fun h2 => ?_)
    · have h2' : k < xs.length := by have := of_decide_eq_true h2; omega
      obtain ⟨x, hx⟩ := lt_get h2'
      have n1 : ((k : Int)).toNat = k := by omega
      have n2 : ((k : Int) - 1).toNat = k - 1 := by omega
      rw [n1, n2]
      have hdx := drop_cons hx
      refine dr H fun w2 H => ⟨⟨by omega, by omega⟩, pm_i ⟨x, oc H 0 rfl (map_get vI hx), by unfold InI; omega, ⟨by omega, by omega⟩, pm_i ⟨q, oc H 0 rfl (map_get vI hq), gif_i (fun h3 => ?_) (fun h3 => ?_)⟩⟩⟩
      · have h3' : x = q := by simpa using h3
        have hsl : slOff (aP b o) c k 1 = aP b (o + k) := by rw [slOff_aP, if_neg (by omega)]
        refine ⟨⟨by omega, by omega⟩, fun vs w => ∃ (k' m : Nat) (ys : List Int) (r : Int), vs = [vI k', vI m] ∧ 1 ≤ m ∧ k ≤ k' ∧ k' + 1 ≤ k + m ∧ k + m ≤ xs.length ∧ ys.length = xs.length ∧ xs[k + m - 1]? = some r ∧ ys.drop (k + m - 1) = xs.drop (k + m - 1) ∧ compact xs = ys.take k' ++ ddup r (xs.drop (k + m)) ∧ Holds (osl T.int 1 (aP b o) xs.length c (ys.map vI) :: L) w,
          fun vs _ => (match vs with | [_, .int _ m] => (xs.length : Int) - m | _ => 0).toNat, ⟨k, 1, xs, x, rfl, Nat.le_refl _, Nat.le_refl _, Nat.le_refl _, by omega, rfl, hx, rfl, ?_, H⟩, ?_⟩
        · rw [hc, hdx]
          show _ ++ (if x = q then ddup q (xs.drop (k + 1)) else _) = _
          rw [if_pos h3', h3']
        rintro k2 m1 w3 ⟨k', m, ys, r, hv, hm1, hkk, hkm, hmn, hyl, hr, hdr, hc2, H⟩
        simp only [List.cons.injEq, Value.int.injEq, true_and, and_true] at hv
        obtain ⟨rfl, rfl⟩ := hv
        rw [hsl]
        have s1 : ((m : Int)).toNat = m := by omega
        have s2 : ((m : Int) - 1).toNat = m - 1 := by omega
        have s3 : ((k' : Int)).toNat = k' := by omega
        refine gif_i (fun h4 => ?_) (fun h4 => ?_)
        · have h4' : k + m < xs.length := by have := of_decide_eq_true h4; omega
          obtain ⟨u, hu⟩ := lt_get h4'
          have hyu : ys[k + m]? = some u := by
            have e : (ys.drop (k + m - 1))[1]? = (xs.drop (k + m - 1))[1]? := by rw [hdr]
            rw [List.getElem?_drop, List.getElem?_drop, show k + m - 1 + 1 = k + m by omega] at e
            rw [e, hu]
          have hyr : ys[k + m - 1]? = some r := by
            have e : (ys.drop (k + m - 1))[0]? = (xs.drop (k + m - 1))[0]? := by rw [hdr]
            rw [List.getElem?_drop, List.getElem?_drop, Nat.add_zero] at e
            rw [e, hr]
          have hdu := drop_cons hu
          rw [hdu] at hc2
          have hc2 : compact xs = ys.take k' ++ (if u = r then ddup r (xs.drop (k + m + 1)) else u :: ddup u (xs.drop (k + m + 1))) := hc2
          have hdd : ∀ zs : List Int, zs.drop (k + m - 1) = xs.drop (k + m - 1) → zs.drop (k + m) = xs.drop (k + m) := fun zs h => by
            have := congrArg (List.drop 1) h
            rw [List.drop_drop, List.drop_drop, show k + m - 1 + 1 = k + m by omega] at this
            exact this
          rw [s1, s2, s3]
          have rdu : ∀ {w4}, Holds (osl T.int 1 (aP b o) xs.length c (ys.map vI) :: L) w4 → Cel w4 b (o + k + m) (vI u) := fun H => by rw [Nat.add_assoc]; exact oc H 0 rfl (map_get vI hyu)
          have rdr : ∀ {w4}, Holds (osl T.int 1 (aP b o) xs.length c (ys.map vI) :: L) w4 → Cel w4 b (o + k + (m - 1)) (vI r) := fun H => by rw [Nat.add_assoc, show k + (m - 1) = k + m - 1 by omega]; exact oc H 0 rfl (map_get vI hyr)
          refine dr H fun w4 H => ⟨⟨by omega, by omega⟩, pm_i ⟨u, rdu H, by unfold InI; omega, ⟨by omega, by omega⟩, pm_i ⟨r, rdr H, gif_i (fun h5 => ?_) (fun h5 => ?_)⟩⟩⟩
          · have h5' : ¬ u = r := by simpa using h5
            rw [if_neg h5'] at hc2
            refine ⟨⟨by omega, by omega⟩, pm_i ⟨u, rdu H, ⟨by omega, by omega⟩, pm_i ?_⟩⟩
            refine ost H 0 rfl rfl (by simp; omega) fun w5 H => ⟨by unfold InI; omega, by unfold InI; omega, ⟨k' + 1, m + 1, ys.set k' u, u, by rw [show ((k' + 1 : Nat) : Int) = (k' : Int) + 1 by omega, show ((m + 1 : Nat) : Int) = (m : Int) + 1 by omega], by omega, by omega, by omega, by omega, by rw [List.length_set]; exact hyl, by rw [show k + (m + 1) - 1 = k + m by omega]; exact hu, ?_, ?_, H.cast ?_⟩, by simp only; omega⟩
            · rw [show k + (m + 1) - 1 = k + m by omega, List.drop_set_of_lt (by omega)]; exact hdd ys hdr
            · rw [hc2, take_snoc (x := u) (by rw [List.getElem?_set, if_pos rfl, if_pos (by omega)]), List.take_set_of_le (Nat.le_refl _), List.append_assoc]
              rfl
            · rw [map_set vI]; rfl
          · have h5' : u = r := by simpa using h5
            rw [if_pos h5'] at hc2
            refine ⟨by unfold InI; omega, ⟨k', m + 1, ys, u, by rw [show ((m + 1 : Nat) : Int) = (m : Int) + 1 by omega], by omega, hkk, by omega, by omega, hyl, by rw [show k + (m + 1) - 1 = k + m by omega]; exact hu, ?_, ?_, H⟩, by simp only; omega⟩
            · rw [show k + (m + 1) - 1 = k + m by omega]; exact hdd ys hdr
            · rw [hc2, h5']; rfl
        · have h4' : ¬ k + m < xs.length := by have := of_decide_eq_false h4; omega
          have e0 : xs.drop (k + m) = [] := List.drop_eq_nil_of_le (by omega)
          rw [e0] at hc2
          have hc2 : compact xs = ys.take k' := by rw [hc2]; show _ ++ [] = _; rw [List.append_nil]
          have hlen : (compact xs).length = k' := by rw [hc2, List.length_take]; omega
          rw [s3]
          refine ⟨⟨by omega, by omega⟩, oclr slInt H 0 rfl (by omega) fun w4 H => ⟨⟨by omega, by omega⟩, aP b o, c, by rw [hlen], ?_⟩⟩
          rw [hlen, hc2]
          exact H.cast (by simp [List.map_take])
      · have h3' : ¬ x = q := by simpa using h3
        refine ⟨by unfold InI; omega, ⟨k + 1, x, by rw [show ((k + 1 : Nat) : Int) = (k : Int) + 1 by omega], by omega, by omega, hx, ?_, H⟩, by simp only; omega⟩
        rw [hc, hdx, take_snoc hx]
        show _ ++ (if x = q then _ else x :: ddup x (xs.drop (k + 1))) = _
        rw [if_neg h3', List.append_assoc]
        rfl
    · have h2' : ¬ k < xs.length := by have := of_decide_eq_false h2; omega
      have e : compact xs = xs := by
        rw [hc, List.drop_eq_nil_of_le (by omega), List.take_of_length_le (by omega)]
        show _ ++ [] = _
        rw [List.append_nil]
      rw [e]
      exact ⟨aP b o, c, rfl, H⟩
end Go.Sv
/- Clauses, and formulas, brought into order. -/
namespace Go.Sv
open Go Go.Proofs
set_option maxRecDepth 100000

def ltLit (x y : Int) : Bool := decide (cmpI (litIx x) (litIx y) < 0)
def normC (xs : List Int) : List Int := compact (isort ltLit xs)
theorem k_Clause {L : List HPr} {w : World} (H : Holds L w) {ca : Option Addr} {cl cc : Nat} {xs : List Int} (hl : xs.length = cl) (h12 : cl ≤ 12) (hsrc : ∀ w', Holds L w' → ASrc cx 1 T.s_int (vS ca cl cc) cl (xs.map vI) w') (hx : ∀ x ∈ xs, x.natAbs ≤ 1000000000) :
    Calls cx.P F.norm_Clause #[vS ca cl cc] w (Ret fun v w' => ∃ a c, v = vS a (normC xs).length c ∧ Holds (osl T.int 1 a (normC xs).length c ((normC xs).map vI) :: L) w') := by
  apply vc_norm_Clause
  subst hl
  refine Calls.ret (k_CloneI H rfl (by omega) hsrc) ?_
  rintro _ w1 ⟨a, c, rfl, H⟩
  refine ⟨_, _, _, rfl, Calls.ret (k_Sort12 (cap := []) H h12 ltLit ⟨[], rfl⟩ ?_) ?_⟩
  · intro M x y w' hxm hym H
    refine Calls.ret (k_litCompare H (hx x hxm) (hx y hym)) ?_
    rintro _ w2 ⟨rfl, H⟩
    exact ⟨_, rfl, rfl, H⟩
  rintro _ w2 ⟨rfl, H⟩
  have hp := isort_perm ltLit xs
  refine ⟨rfl, ?_⟩
  have hle := hp.length_eq
  rw [← hle] at H ⊢
  refine Calls.ret (k_Compact H (by omega)) ?_
  rintro _ w3 ⟨a', c', rfl, H⟩
  exact ⟨_, _, _, rfl, a', c', rfl, H⟩
def tautGo : List Int → Bool
  | x :: y :: r => y == -x || tautGo (y :: r)
  | _ => false
def taut (xs : List Int) : Bool := tautGo (normC xs)
theorem ddup_sub : ∀ (p : Int) (xs : List Int), ∀ x ∈ ddup p xs, x ∈ xs
  | _, [], x, h => by simp [ddup] at h
  | p, y :: ys, x, h => by
    unfold ddup at h
    split at h
    · exact List.mem_cons_of_mem _ (ddup_sub p ys x h)
    · rcases List.mem_cons.1 h with h | h
      · subst h; exact List.mem_cons_self ..
      · exact List.mem_cons_of_mem _ (ddup_sub y ys x h)
theorem compact_sub (xs : List Int) : ∀ x ∈ compact xs, x ∈ xs := by
  intro x hx
  cases xs with
  | nil => simp [compact] at hx
  | cons y ys =>
    rcases List.mem_cons.1 hx with h | h
    · subst h; exact List.mem_cons_self ..
    · exact List.mem_cons_of_mem _ (ddup_sub y ys x h)
theorem normC_sub (xs : List Int) : ∀ x ∈ normC xs, x ∈ xs := fun x hx => (isort_perm ltLit xs).mem_iff.1 (compact_sub _ x hx)
theorem ddup_len : ∀ (p : Int) (xs : List Int), (ddup p xs).length ≤ xs.length
  | _, [] => Nat.le_refl _
  | p, y :: ys => by
    unfold ddup
    split
    · have := ddup_len p ys; rw [List.length_cons]; omega
    · have := ddup_len y ys; rw [List.length_cons, List.length_cons]; omega
theorem normC_len (xs : List Int) : (normC xs).length ≤ xs.length := by
  have h := (isort_perm ltLit xs).length_eq
  unfold normC
  rw [← h]
  cases isort ltLit xs with
  | nil => exact Nat.le_refl _
  | cons y ys => have := ddup_len y ys; show (y :: ddup y ys).length ≤ _; rw [List.length_cons, List.length_cons]; omega
theorem tautGo_drop {xs : List Int} {k : Nat} {x y : Int} (hx : xs[k]? = some x) (hy : xs[k + 1]? = some y) : tautGo (xs.drop k) = (y == -x || tautGo (xs.drop (k + 1))) := by
  rw [drop_cons hx, drop_cons hy]; rfl
theorem k_Tautology {L : List HPr} {w : World} (H : Holds L w) {ca : Option Addr} {cl cc : Nat} {xs : List Int} (hl : xs.length = cl) (h12 : cl ≤ 12) (hsrc : ∀ w', Holds L w' → ASrc cx 1 T.s_int (vS ca cl cc) cl (xs.map vI) w') (hx : ∀ x ∈ xs, x.natAbs ≤ 1000000000) :
    Calls cx.P F.norm_Tautology #[vS ca cl cc] w (Ret fun v w' => v = vB (taut xs) ∧ Holds L w') := by
  apply vc_norm_Tautology
  have hx' : ∀ x ∈ normC xs, x.natAbs ≤ 1000000000 := fun x h => hx x (normC_sub xs x h)
  have hnl := normC_len xs
  refine Calls.ret (k_Clause H hl h12 hsrc hx) ?_
  rintro _ w1 ⟨a, c, rfl, H⟩
  unfold taut
  generalize normC xs = d at *
  refine ⟨_, _, _, rfl, fun vs w => ∃ k : Nat, vs = [vI ((k : Int) + 1)] ∧ tautGo (d.drop k) = tautGo d ∧ Holds (osl T.int 1 a d.length c (d.map vI) :: L) w, fun vs _ => (match vs with | [.int _ k] => (d.length : Int) - k | _ => 0).toNat, ⟨0, rfl, rfl, H⟩, ?_⟩
  rintro i w2 ⟨k, hv, ht, H⟩
  simp only [List.cons.injEq, Value.int.injEq, true_and, and_true] at hv
  subst hv
  refine gif_i (fun h => ?_) (fun h => ?_)
  · have h' : k + 1 < d.length := by have := of_decide_eq_true h; omega
    obtain ⟨b, o, rfl⟩ := osl_ptr H 0 rfl (by omega)
    obtain ⟨x, hxk⟩ := lt_get (l := d) (i := k) (by omega)
    obtain ⟨y, hyk⟩ := lt_get h'
    have n1 : ((k : Int) + 1).toNat = k + 1 := by omega
    have n2 : ((k : Int) + 1 - 1).toNat = k := by omega
    have hxb := hx' x (List.mem_of_getElem? hxk)
    rw [tautGo_drop hxk hyk] at ht
    rw [n1, n2]
    refine dr H fun w3 H => ⟨⟨by omega, by omega⟩, pm_i ⟨y, oc H 0 rfl (map_get vI hyk), by unfold InI; omega, ⟨by omega, by omega⟩, pm_i ⟨x, oc H 0 rfl (map_get vI hxk), by unfold InI; omega, gif_i (fun h2 => ?_) (fun h2 => ?_)⟩⟩⟩
    · have e : (y == -x) = true := by rw [Int.zero_sub] at h2; exact h2
      rw [e] at ht
      exact ⟨by rw [← ht]; rfl, H.tail⟩
    · have e : (y == -x) = false := by rw [Int.zero_sub] at h2; exact h2
      rw [e] at ht
      exact ⟨by unfold InI; omega, ⟨k + 1, by rw [show ((k + 1 : Nat) : Int) = (k : Int) + 1 by omega], by rw [← ht]; rfl, H⟩, by simp only; omega⟩
  · have h' : ¬ k + 1 < d.length := by have := of_decide_eq_false h; omega
    have e : tautGo (d.drop k) = false := by
      have hl : (d.drop k).length ≤ 1 := by rw [List.length_drop]; omega
      match hd : d.drop k, hl with
      | [], _ => rfl
      | [z], _ => rfl
    exact ⟨by rw [← ht, e], H.tail⟩
end Go.Sv
/- Formulas brought into order. -/
namespace Go.Sv
open Go Go.Proofs
set_option maxRecDepth 100000

theorem star_snoc {A : HPr} {Rs L : List HPr} {w : World} (H : Holds (A :: star Rs :: L) w) : Holds (star (Rs ++ [A]) :: L) w := by
  have H := H.swap
  have h2 : Holds (Rs ++ (A :: L)) w := star_open H
  have h3 : Holds ((Rs ++ [A]) ++ L) w := h2.cast (by simp)
  exact star_shut h3
theorem slInts : SlT cx T.s_s_int T.s_int 1 24 [vNS] := SlT.mk' rfl rfl rfl rfl rfl
/-- A list of lists of one's own. -/
def lsL (p : Option Addr) (c : Nat) (hs : List (Option Addr × Nat)) (out : List (List Int)) : List HPr :=
  [osl T.s_int 1 p out.length c (slots hs out), star (rowsP T.int 1 (fun x : Int => [vI x]) hs out)]
def LsR (p : Option Addr) (c : Nat) (out : List (List Int)) : HPr := fun m => ∃ hs, hs.length = out.length ∧ SatL (lsL p c hs out) m
theorem LsR.op {p : Option Addr} {c : Nat} {out : List (List Int)} {L : List HPr} {w : World} (H : Holds (LsR p c out :: L) w) : ∃ hs, hs.length = out.length ∧ Holds (lsL p c hs out ++ L) w := by
  obtain ⟨F, ⟨hs, hl, h⟩, hL⟩ := H
  exact ⟨hs, hl, SatL_app.2 ⟨F, h, hL⟩⟩
theorem LsR.sh {p : Option Addr} {c : Nat} {hs : List (Option Addr × Nat)} {out : List (List Int)} {L : List HPr} {w : World} (hl : hs.length = out.length) (H : Holds (lsL p c hs out ++ L) w) : Holds (LsR p c out :: L) w :=
  part_shut (fun _ h => ⟨hs, hl, h⟩) H
theorem flat_one (xs : List Int) : xs.flatMap (fun x => [vI x]) = xs.map vI := by
  induction xs with
  | nil => rfl
  | cons x xs ih => simp [ih]
theorem zip_snoc {α β γ : Type} (g : α → β → γ) : ∀ (xs : List α) (ys : List β) (a : α) (b : β), xs.length = ys.length → List.zipWith g (xs ++ [a]) (ys ++ [b]) = List.zipWith g xs ys ++ [g a b]
  | [], [], _, _, _ => rfl
  | [], _ :: _, _, _, h => by simp at h
  | _ :: _, [], _, _, h => by simp at h
  | x :: xs, y :: ys, a, b, h => by
    have := zip_snoc g xs ys a b (by simpa using h)
    simp [this]
/-- A list is appended to a list of lists. -/
theorem ls_app {tx ty : Nat} {L : List HPr} {w : World} {p pa : Option Addr} {c ca b : Nat} {out : List (List Int)} {xs : List Int} {K : Value → World → Prop} (hb : out.length ≤ 1000000000)
    (H : Holds (blk b [vS pa xs.length ca] tx :: osl T.int 1 pa xs.length ca (xs.map vI) :: LsR p c out :: L) w)
    (h : ∀ p' c' w1, Holds (LsR p' c' (out ++ [xs]) :: L) w1 → K (vS p' (out.length + 1) c') w1) : Rn cx.P (Builtin.append_ #[T.s_s_int, T.s_s_int] ty #[vS p out.length c, vS (aP b 0) 1 1]) w K := by
  have H := H.pick 2 rfl
  obtain ⟨hs, hl, H⟩ := LsR.op H
  refine oap slInts H 0 rfl (asrc_blk slInts H 2 rfl rfl rfl) (by omega) (by omega) fun p' c' w1 H => h p' c' w1 ?_
  have H : Holds (star (rowsP T.int 1 (fun x : Int => [vI x]) hs out) :: osl T.int 1 pa xs.length ca (xs.map vI) :: osl T.s_int 1 p' (out.length + 1) c' (slots hs out ++ [vS pa xs.length ca]) :: L) w1 := by
    have H := ((H.pick 3 rfl).pick 2 rfl).pick 3 rfl
    exact H.tail
  have H := star_snoc H.swap
  refine LsR.sh (hs := hs ++ [(pa, ca)]) (by simp [hl]) (H.swap.cast ?_)
  have e1 : slots (hs ++ [(pa, ca)]) (out ++ [xs]) = slots hs out ++ [vS pa xs.length ca] := zip_snoc _ _ _ _ _ hl
  have e2 : rowsP T.int 1 (fun x : Int => [vI x]) (hs ++ [(pa, ca)]) (out ++ [xs]) = rowsP T.int 1 (fun x : Int => [vI x]) hs out ++ [osl T.int 1 pa xs.length ca (xs.map vI)] := by
    unfold rowsP
    rw [zip_snoc _ _ _ _ _ hl]
    simp [flat_one]
  simp [lsL, e1, e2]

theorem holds_nil_ls {L : List HPr} {w : World} (H : Holds L w) : Holds (LsR none 0 [] :: L) w := by
  have h1 : Holds (star (rowsP T.int 1 (fun x : Int => [vI x]) [] []) :: L) w := by
    obtain h := star_shut (Ls := []) (L := L) H
    exact h
  exact LsR.sh (hs := []) rfl ((osl_nil T.s_int 1 h1).cast rfl)
/-! ### formulas -/
/-- A list of lists that lies where it may be read. -/
structure FSrc (fa : Option Addr) (hs : List (Option Addr × Nat)) (cs : List (List Int)) (w : World) : Prop where
  at_ : 0 < cs.length → ∃ b o, fa = aP b o
  row : ∀ (i : Nat) h xs, hs[i]? = some h → cs[i]? = some xs → (∀ b o, fa = aP b o → Cel w b (o + i) (vS h.1 xs.length h.2)) ∧ ASrc cx 1 T.s_int (vS h.1 xs.length h.2) xs.length (xs.map vI) w
def normF (cs : List (List Int)) : List (List Int) := (cs.filter fun c => !taut c).map normC
def hasE (cs : List (List Int)) : Bool := (cs.filter fun c => !taut c).any fun c => c.length == 0
theorem k_Formula {L : List HPr} {w : World} (H : Holds L w) (n : Int) {fa : Option Addr} {fl fc : Nat} {hs : List (Option Addr × Nat)} {cs : List (List Int)} (hl : cs.length = fl) (hh : hs.length = cs.length) (hn : fl ≤ 1000000000) (h12 : ∀ c ∈ cs, c.length ≤ 12) (hx : ∀ c ∈ cs, ∀ x ∈ c, x.natAbs ≤ 1000000000)
    (hsrc : ∀ w', Holds L w' → FSrc fa hs cs w') :
    Calls cx.P F.norm_Formula #[.agg #[vI n, vS fa fl fc]] w (Ret fun v w' => ∃ p c, v = .tuple #[vS p (normF cs).length c, vB (hasE cs)] ∧ Holds (LsR p c (normF cs) :: L) w') := by
  apply vc_norm_Formula
  subst hl
  refine al H fun b1 w1 H => ⟨_, _, _, cel H 0 rfl rfl, fun vs w => ∃ p c, ∃ k : Nat, vs = [vS p (normF (cs.take k)).length c, vB (hasE (cs.take k)), vI k] ∧ k ≤ cs.length ∧ Holds (LsR p c (normF (cs.take k)) :: blk b1 [vI n, vS fa cs.length fc] T.api_Formula :: L) w,
    fun vs _ => (match vs with | [_, _, .int _ k] => (cs.length : Int) - k | _ => 0).toNat, ⟨none, 0, 0, rfl, Nat.zero_le _, ?_⟩, ?_⟩
  · exact holds_nil_ls H
  rintro p l c e k1 w2 ⟨p', c', k, hv, hk, H⟩
  simp only [List.cons.injEq, Value.slice.injEq, Value.bool.injEq, Value.int.injEq, true_and, and_true] at hv
  obtain ⟨⟨rfl, rfl, rfl⟩, rfl, rfl⟩ := hv
  have hlen : (normF (cs.take k)).length ≤ cs.length := by
    unfold normF
    rw [List.length_map]
    have := List.length_filter_le (fun c => !taut c) (cs.take k)
    rw [List.length_take] at this; omega
  refine gif_i (fun h => ?_) (fun h => ?_)
  · have h' : k < cs.length := by have := of_decide_eq_true h; omega
    obtain ⟨xs, hxs⟩ := lt_get h'
    obtain ⟨hd, hhd⟩ := lt_get (l := hs) (i := k) (by omega)
    have hmem := List.mem_of_getElem? hxs
    have hT : cs.take (k + 1) = cs.take k ++ [xs] := by rw [List.take_add_one, hxs]; rfl
    obtain ⟨b, o, rfl⟩ := (hsrc _ H.tail.tail).at_ (by omega)
    have hS : ∀ w', Holds (LsR p c (normF (cs.take k)) :: blk b1 [vI n, vS (aP b o) cs.length fc] T.api_Formula :: L) w' → ASrc cx 1 T.s_int (vS hd.1 xs.length hd.2) xs.length (xs.map vI) w' := fun w' H => ((hsrc _ H.tail.tail).row k hd xs hhd hxs).2
    refine ⟨⟨by omega, by omega⟩, pm_i ?_⟩
    rw [Int.toNat_natCast]
    refine ⟨_, _, _, ((hsrc _ H.tail.tail).row k hd xs hhd hxs).1 b o rfl, Calls.ret (k_Tautology H rfl (h12 xs hmem) hS (hx xs hmem)) ?_⟩
    rintro _ w3 ⟨rfl, H⟩
    refine ⟨_, rfl, gif_i (fun h2 => ?_) (fun h2 => ?_)⟩
    · have eF : normF (cs.take (k + 1)) = normF (cs.take k) ++ [normC xs] := by
        rw [hT]; unfold normF; rw [List.filter_append, List.map_append, List.filter_cons_of_pos (by exact h2)]; rfl
      have eE : hasE (cs.take (k + 1)) = (hasE (cs.take k) || xs.length == 0) := by
        rw [hT]; unfold hasE; rw [List.filter_append, List.any_append, List.filter_cons_of_pos (by exact h2)]; simp
      refine Calls.ret (k_Clause H rfl (h12 xs hmem) hS (hx xs hmem)) ?_
      rintro _ w4 ⟨a, ca, rfl, H⟩
      refine ⟨_, _, _, rfl, al H fun b3 w5 H => ls_app (by omega) H fun p' c' w6 H => ⟨_, _, _, rfl, ?_⟩⟩
      rw [← eF] at H
      have eN : (normF (cs.take k)).length + 1 = (normF (cs.take (k + 1))).length := by rw [eF]; simp
      rw [eN]
      refine gif_i (fun h3 => ?_) (fun h3 => ?_)
      · refine ⟨by unfold InI; omega, ⟨p', c', k + 1, ?_, by omega, H⟩, by simp only; omega⟩
        rw [eE, h3]; rfl
      · refine ⟨by unfold InI; omega, ⟨p', c', k + 1, ?_, by omega, H⟩, by simp only; omega⟩
        have ez : ((xs.length : Int) == (0 : Int)) = (xs.length == 0) := by rw [Bool.eq_iff_iff, beq_iff_eq, beq_iff_eq]; omega
        rw [eE, h3, ez]; rfl
    · have h2' : taut xs = true := by simpa using h2
      have eF : normF (cs.take (k + 1)) = normF (cs.take k) := by
        rw [hT]; unfold normF; rw [List.filter_append, List.map_append, List.filter_cons_of_neg (by rw [h2']; simp)]; simp
      have eE : hasE (cs.take (k + 1)) = hasE (cs.take k) := by
        rw [hT]; unfold hasE; rw [List.filter_append, List.any_append, List.filter_cons_of_neg (by rw [h2']; simp)]; simp
      refine ⟨by unfold InI; omega, ⟨p, c, k + 1, by rw [eF, eE]; rfl, by omega, by rw [eF]; exact H⟩, by simp only; omega⟩
  · have h' : ¬ k < cs.length := by have := of_decide_eq_false h; omega
    have e : cs.take k = cs := List.take_of_length_le (by omega)
    rw [e] at H ⊢
    exact ⟨p, c, rfl, (H.swap).tail⟩
end Go.Sv
