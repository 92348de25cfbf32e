/- Maps. -/
import Derived.Test.YtjandhdjjbfgcaaDoorV7
set_option linter.unusedSectionVars false
set_option linter.unusedSimpArgs false
set_option linter.unusedVariables false
/- Maps. -/
namespace Go.Vm
open Go.RowKit (Below)
variable [Laid]
section
variable {P : Program} {ι : Emb} {s : St} {w : World} {base : Nat} {w0 : World} {ev : Operand → Option Value} {ρ : Operand → Value}

theorem run_getObj_map {r : Nat} {mes : Array MapEntry} {c : Nat} (h : w.heap[r]? = some (.map mes c)) : (getObj r).run P w = .ok (.map mes c) w := by simp [getObj, Sem.run, h]
theorem run_setObj_map {r : Nat} {mes : Array MapEntry} {c : Nat} (o : Obj) (h : w.heap[r]? = some (.map mes c)) : (setObj r o).run P w = .ok () (w.putObj r o) := by simp [setObj, Sem.run, h, World.putObj]
theorem run_getObj_iter {r : Nat} {m : Option Nat} {a : Nat} {b : Array Nat} {c : Nat} (h : w.heap[r]? = some (.mapIter m a b c)) : (getObj r).run P w = .ok (.mapIter m a b c) w := by simp [getObj, Sem.run, h]
theorem run_setObj_iter {r : Nat} {m : Option Nat} {a : Nat} {b : Array Nat} {c : Nat} (o : Obj) (h : w.heap[r]? = some (.mapIter m a b c)) : (setObj r o).run P w = .ok () (w.putObj r o) := by simp [setObj, Sem.run, h, World.putObj]

def ERel (ι : Emb) (es : List Ent) (mes : List MapEntry) : Prop := es.length = mes.length ∧ ∀ (i : Nat) (e : Ent) (e' : MapEntry), es[i]? = some e → mes[i]? = some e' → VRel ι e.key e'.key ∧ VRel ι e.val e'.val ∧ e.born = e'.born

theorem ERel.tail {e : Ent} {es : List Ent} {e' : MapEntry} {mes : List MapEntry} (h : ERel ι (e :: es) (e' :: mes)) : ERel ι es mes :=
  ⟨by have := h.1; simpa using this, fun i x x' h1 h2 => h.2 (i + 1) x x' (by simpa using h1) (by simpa using h2)⟩
theorem ERel.head {e : Ent} {es : List Ent} {e' : MapEntry} {mes : List MapEntry} (h : ERel ι (e :: es) (e' :: mes)) : VRel ι e.key e'.key ∧ VRel ι e.val e'.val ∧ e.born = e'.born := h.2 0 _ _ rfl rfl

theorem Good.mapAt (g : Good ι s w base w0) {b : Nat} {es : List Ent} {cl : Nat} {p : Pl} (hb : s.get b = some (.map es cl)) (hp : ι b = some p) :
    ∃ mes : Array MapEntry, w.heap[p.B]? = some (.map mes cl) ∧ ERel ι es mes.toList ∧ base ≤ p.B := by
  obtain ⟨p', ob, h1, h2, h3, h4⟩ := g.blk b _ hb rfl
  rw [hp] at h1; cases h1
  obtain ⟨mes, rfl, h5, h6⟩ := h3
  exact ⟨mes, h2, ⟨by simpa using h5, fun i e e' f1 f2 => h6 i e e' f1 (by simpa using f2)⟩, h4 rfl⟩

/-- What is found on the one side is found on the other. -/
def FRel (ι : Emb) : Option (Nat × Value) → Option (Nat × Value) → Prop
  | none, none => True
  | some (i, v), some (j, v') => i = j ∧ VRel ι v v'
  | _, _ => False

theorem findAsking_run {t : TypeId} {q : KT} (hq : keyT P t = some q) {k k' : Value} (hk : VRel ι k k') : ∀ (es : List Ent) (mes : List MapEntry) (i : Nat) (r : Option (Nat × Value)), ERel ι es mes → findEnt q k es i = some r → ∃ r', (Instr.findAsking t k' mes i).run P w = .ok r' w ∧ FRel ι r r'
  | [], [], i, r, _, h => by simp [findEnt] at h; subst h; exact ⟨none, by simp [Instr.findAsking], trivial⟩
  | [], _ :: _, i, r, hr, _ => by have := hr.1; simp at this
  | _ :: _, [], i, r, hr, _ => by have := hr.1; simp at this
  | e :: es, e' :: mes, i, r, hr, h => by
    obtain ⟨h1, h2, h3⟩ := hr.head
    simp only [findEnt] at h
    split at h
    · rename_i heq
      cases h
      refine ⟨some (i, e'.val), ?_, rfl, h2⟩
      have := keyT_run hq hk h1 heq 9998 w
      simp [Instr.findAsking, Op.equal, Op.maxDepth, this]
    · rename_i heq
      obtain ⟨r', f1, f2⟩ := findAsking_run hq hk es mes (i + 1) r hr.tail h
      refine ⟨r', ?_, f2⟩
      have := keyT_run hq hk h1 heq 9998 w
      simp [Instr.findAsking, Op.equal, Op.maxDepth, this, f1]
    · cases h

theorem sameNow_agree {d : TypeDesc} {q : KT} {a b a' b' : Value} {c c2 : Bool} (ha : VRel ι a a') (hb : VRel ι b b') (h1 : Instr.sameNow d a' b' = some c) (h2 : eqV q a b = some c2) : c = c2 := by
  unfold Instr.sameNow at h1
  split at h1
  · split at h1
    · rename_i hk
      cases ha; cases hb; cases h1
      cases q with
      | one k => cases k <;> simp [eqV, eqCell] at h2; exact h2.2
      | _ => simp [eqV] at h2
    · cases h1
  · cases ha; cases hb; cases h1
    cases q with
    | one k => cases k <;> simp [eqV, eqCell] at h2; rw [beq_toListBytes]; simpa using h2
    | _ => simp [eqV] at h2
  · cases ha; cases hb; cases h1
    cases q with
    | one k => cases k <;> simp [eqV, eqCell] at h2; exact h2
    | _ => simp [eqV] at h2
  · cases h1

theorem findNow_agree {d : TypeDesc} {q : KT} {k k' : Value} (hk : VRel ι k k') : ∀ (es : List Ent) (mes : List MapEntry) (i : Nat) (r r' : Option (Nat × Value)), ERel ι es mes → findEnt q k es i = some r → Instr.findNow d k' mes i = some r' → FRel ι r r'
  | [], [], i, r, r', _, h, h' => by simp [findEnt] at h; simp [Instr.findNow] at h'; subst h h'; trivial
  | [], _ :: _, i, r, _, hr, _, _ => by have := hr.1; simp at this
  | _ :: _, [], i, r, _, hr, _, _ => by have := hr.1; simp at this
  | e :: es, e' :: mes, i, r, r', hr, h, h' => by
    obtain ⟨h1, h2, h3⟩ := hr.head
    simp only [findEnt] at h
    simp only [Instr.findNow] at h'
    split at h
    · rename_i heq
      cases h
      split at h'
      · cases h'; exact ⟨rfl, h2⟩
      · rename_i hs; have := sameNow_agree hk h1 hs heq; cases this
      · cases h'
    · rename_i heq
      split at h'
      · rename_i hs; have := sameNow_agree hk h1 hs heq; cases this
      · exact findNow_agree hk es mes (i + 1) r r' hr.tail h h'
      · cases h'
    · cases h

theorem keyT_underlying {t : TypeId} {q : KT} (hq : keyT P t = some q) : ∃ d, P.underlying t = some d := by
  unfold keyT at hq
  cases hu : P.underlying t with
  | none => simp [hu, cellK] at hq
  | some d => exact ⟨d, rfl⟩

theorem findKey_run {t : TypeId} {q : KT} (hq : keyT P t = some q) {k k' : Value} (hk : VRel ι k k') {es : List Ent} {mes : List MapEntry} {r : Option (Nat × Value)} (hr : ERel ι es mes) (h : findEnt q k es 0 = some r) :
    ∃ r', (Instr.findKey t k' mes).run P w = .ok r' w ∧ FRel ι r r' := by
  obtain ⟨d, hd⟩ := keyT_underlying hq
  unfold Instr.findKey
  simp only [Sem.run_bind, run_underlying hd, Result.andThen_ok]
  cases hn : Instr.findNow d k' mes 0 with
  | some r' => exact ⟨r', by simp, findNow_agree hk es mes 0 r r' hr h hn⟩
  | none => exact findAsking_run hq hk es mes 0 r hr h

theorem checkCell_run {t : TypeId} {k : CK} (h : cellK P t = some k) (b : Bool) (d : Nat) (v : Value) (w : World) : (Instr.checkKey b (d + 1) t v).run P w = .ok () w := by
  unfold Instr.checkKey
  rcases cellK_spec h with ⟨_, i, hu⟩ | ⟨_, hu⟩ | ⟨_, hu⟩ <;> simp [run_underlying hu]

theorem eqCells_self_length : ∀ (ks : List CK) (xs : List Value), (eqCells ks xs xs).isSome = true → ks.length = xs.length
  | [], [], _ => rfl
  | [], _ :: _, h => by simp [eqCells] at h
  | _ :: _, [], h => by simp [eqCells] at h
  | k :: ks, x :: xs, h => by
    simp only [eqCells] at h
    split at h
    · rename_i a b h1 h2
      have := eqCells_self_length ks xs (by rw [h2]; rfl)
      simp [this]
    · cases h

theorem checkFields_run (b : Bool) (d : Nat) : ∀ (fs : List Field) (ks : List CK) (i : Nat) (cs : Array Value), fieldKs P fs i = some ks → i + ks.length ≤ cs.size → ∀ w : World,
    (forIn (m := Sem) fs () (fun f _ => (do
      if f.name ≠ "_" then do Instr.checkKey b (d + 1) f.type (← part f.type cs f.offset); Pure.pure (ForInStep.yield ()) else Pure.pure (ForInStep.yield ()) : Sem (ForInStep Unit)))).run P w = .ok () w
  | [], ks, i, cs, hk, hl, w => by simp
  | f :: fs, ks, i, cs, hk, hl, w => by
    simp only [fieldKs] at hk
    split at hk
    · rename_i hc
      split at hk
      · rename_i k ks' h1 h2
        cases hk
        simp only [List.length_cons] at hl
        have hi : i < cs.size := by omega
        have hp := part1_run h1 (cs := cs) (o := f.offset) (v := cs[i]) (by rw [hc.1]; exact Array.getElem?_eq_getElem hi) w
        rw [List.forIn_cons]
        rw [if_pos hc.2]
        simp only [Sem.run_bind, hp, Result.andThen_ok, checkCell_run h1, Sem.run_pure]
        exact checkFields_run b d fs ks' (i + 1) cs h2 (by omega) w
      · cases hk
    · cases hk

theorem checkArr_run (b : Bool) (d : Nat) {e : TypeId} {k : CK} (hk : cellK P e = some k) (hz : szOf P e = some 1) (cs : Array Value) : ∀ (n i : Nat), i + n ≤ cs.size → ∀ w : World,
    (forIn (m := Sem) (List.range' i n) () (fun j _ => (do
      Instr.checkKey b (d + 1) e (← part e cs (j * (← sizeOf e))); Pure.pure (ForInStep.yield ()) : Sem (ForInStep Unit)))).run P w = .ok () w
  | 0, i, _, w => by simp
  | n + 1, i, h, w => by
    have hi : i < cs.size := by omega
    have hp := part1_run hk (cs := cs) (o := i) (v := cs[i]) (Array.getElem?_eq_getElem hi) w
    rw [List.range'_succ, List.forIn_cons]
    simp only [sizeOf_run hz, Nat.mul_one, Sem.run_bind, hp, Result.andThen_ok, checkCell_run hk, Sem.run_pure]
    have := checkArr_run b d hk hz cs n (i + 1) (by omega) w
    simpa using this

theorem checkKey_run {t : TypeId} {q : KT} (hq : keyT P t = some q) {k k' : Value} (hk : VRel ι k k') (hs : (eqV q k k).isSome = true) (b : Bool) (w : World) :
    (Instr.checkKey b 10000 t k').run P w = .ok () w := by
  unfold keyT at hq
  split at hq
  · rename_i fs hu
    split at hq
    · cases hks : fieldKs P fs.toList 0 with
      | none => simp [hks] at hq
      | some ks =>
        simp [hks] at hq; subst hq
        cases hk <;> first | (simp [eqV] at hs; done) | skip
        rename_i xs xs' h1 h2
        have hl := eqCells_self_length ks xs.toList (by simpa [eqV] using hs)
        have := checkFields_run (P := P) b 9998 fs.toList ks 0 xs' hks (by rw [hl]; simp [h1]) w
        show (Instr.checkKey b (9999 + 1) t (.agg xs')).run P w = _
        rw [Instr.checkKey]
        simp only [Sem.run_bind, run_underlying hu, Result.andThen_ok]
        rw [← Array.forIn_toList, this]; rfl
    · cases hq
  · rename_i n e hu
    split at hq
    · rename_i hz
      cases hck : cellK P e with
      | none => simp [hck] at hq
      | some c =>
        simp [hck] at hq; subst hq
        cases hk <;> first | (simp [eqV] at hs; done) | skip
        rename_i xs xs' h1 h2
        have hl := eqCells_self_length (List.replicate n c) xs.toList (by simpa [eqV] using hs)
        have := checkArr_run (P := P) b 9998 hck hz xs' n 0 (by simp at hl; omega) w
        show (Instr.checkKey b (9999 + 1) t (.agg xs')).run P w = _
        rw [Instr.checkKey]
        simp only [Sem.run_bind, run_underlying hu, Result.andThen_ok, Std.Legacy.Range.forIn_eq_forIn_range', Std.Legacy.Range.size, Nat.sub_zero, Nat.add_sub_cancel, Nat.div_one]
        erw [this]; rfl
    · cases hq
  · cases hck : cellK P t with
    | none => simp [hck] at hq
    | some c => exact checkCell_run hck b 9999 k' w

theorem sameBits_cell {k : CK} {a b a' b' : Value} (ha : VRel ι a a') (hb : VRel ι b b') (h : eqCell k a b = some true) (n : Nat) : Instr.sameBits n b' a' = true := by
  cases k <;> cases ha <;> first | (simp [eqCell] at h; done) | skip
  all_goals (cases hb <;> first | (simp [eqCell] at h; done) | skip)
  · simp [eqCell] at h; simp [Instr.sameBits, h.1, h.2]
  · simp [eqCell] at h; simp [Instr.sameBits, h]
  · simp [eqCell] at h; simp [Instr.sameBits]
    rw [← beq_iff_eq, beq_toListBytes]; simp [h]

theorem sameBits_cells : ∀ (ks : List CK) (xs ys xs' ys' : List Value), Rels ι xs xs' → Rels ι ys ys' → eqCells ks xs ys = some true → ∀ n : Nat, xs'.length = ys'.length ∧ ((ys'.zip xs').all fun (x, y) => Instr.sameBits n x y) = true
  | [], [], [], xs', ys', hx, hy, _, n => by
    have h1 : xs' = [] := List.length_eq_zero_iff.1 (by have := hx.1; simpa using this.symm)
    have h2 : ys' = [] := List.length_eq_zero_iff.1 (by have := hy.1; simpa using this.symm)
    subst h1 h2; simp
  | [], _ :: _, _, _, _, _, _, h, _ => by simp [eqCells] at h
  | [], [], _ :: _, _, _, _, _, h, _ => by simp [eqCells] at h
  | _ :: _, [], _, _, _, _, _, h, _ => by simp [eqCells] at h
  | _ :: _, _ :: _, [], _, _, _, _, h, _ => by simp [eqCells] at h
  | k :: ks, x :: xs, y :: ys, [], _, hx, _, _, _ => by have := hx.1; simp at this
  | k :: ks, x :: xs, y :: ys, _ :: _, [], _, hy, _, _ => by have := hy.1; simp at this
  | k :: ks, x :: xs, y :: ys, x' :: xs', y' :: ys', hx, hy, h, n => by
    simp only [eqCells] at h
    split at h
    · rename_i a b h1 h2
      simp only [Option.some.injEq, Bool.and_eq_true] at h
      obtain ⟨rfl, rfl⟩ := h
      obtain ⟨i1, i2⟩ := sameBits_cells ks xs ys xs' ys' ⟨by have := hx.1; simpa using this, fun i u u' e e' => hx.2 (i + 1) u u' (by simpa using e) (by simpa using e')⟩ ⟨by have := hy.1; simpa using this, fun i u u' e e' => hy.2 (i + 1) u u' (by simpa using e) (by simpa using e')⟩ h2 n
      refine ⟨by simp [i1], ?_⟩
      simp only [List.zip_cons_cons, List.all_cons, Bool.and_eq_true]
      exact ⟨sameBits_cell (hx.2 0 _ _ rfl rfl) (hy.2 0 _ _ rfl rfl) h1 n, i2⟩
    · cases h

theorem keyThatStays_run {t : TypeId} {q : KT} (hq : keyT P t = some q) {a b a' b' : Value} (ha : VRel ι a a') (hb : VRel ι b b') (h : eqV q a b = some true) (w : World) : (Instr.keyThatStays b' a').run P w = .ok a' w := by
  have hs : Instr.sameBits 10000 b' a' = true := by
    cases q with
    | one k => exact sameBits_cell ha hb (by simpa [eqV] using h) 10000
    | many ks =>
      cases ha <;> first | (simp [eqV] at h; done) | skip
      cases hb <;> first | (simp [eqV] at h; done) | skip
      rename_i xs xs' h1 h2 ys ys' h3 h4
      obtain ⟨i1, i2⟩ := sameBits_cells ks xs.toList ys.toList xs'.toList ys'.toList ⟨by simpa using h1, fun i v v' e e' => h2 i v v' (by simpa using e) (by simpa using e')⟩ ⟨by simpa using h3, fun i v v' e e' => h4 i v v' (by simpa using e) (by simpa using e')⟩ (by simpa [eqV] using h) 9999
      show Instr.sameBits (9999 + 1) (.agg ys') (.agg xs') = true
      simp only [Instr.sameBits, Bool.and_eq_true]
      exact ⟨by simpa using i1.symm, i2⟩
    | ptr => unfold keyT at hq; split at hq <;> (try split at hq) <;> (try cases hq) <;> (simp only [Option.map_eq_some_iff] at hq; obtain ⟨_, _, h'⟩ := hq; cases h')
    | slice => unfold keyT at hq; split at hq <;> (try split at hq) <;> (try cases hq) <;> (simp only [Option.map_eq_some_iff] at hq; obtain ⟨_, _, h'⟩ := hq; cases h')
  simp [Instr.keyThatStays, hs]

theorem findEnt_spec {q : KT} {k : Value} : ∀ (es : List Ent) (i j : Nat) (v : Value), findEnt q k es i = some (some (j, v)) → ∃ e, i ≤ j ∧ es[j - i]? = some e ∧ eqV q k e.key = some true ∧ e.val = v
  | [], i, j, v, h => by simp [findEnt] at h
  | e :: es, i, j, v, h => by
    simp only [findEnt] at h
    split at h
    · rename_i heq; cases h; exact ⟨e, Nat.le_refl _, by simp, heq, rfl⟩
    · obtain ⟨e', h1, h2, h3, h4⟩ := findEnt_spec es (i + 1) j v h
      exact ⟨e', by omega, by rw [show j - i = (j - (i + 1)) + 1 from by omega]; simpa using h2, h3, h4⟩
    · cases h


theorem zeroVal_run {t : TypeId} {z : Value} (h : zeroVal P t = some z) (w : World) : (zeroValue t).run P w = .ok z w ∧ ∀ ι, VRel ι z z := by
  unfold zeroVal at h
  split at h
  · rename_i z' hz
    split at h
    · rename_i hc
      cases h
      cases hi : P.info? t with
      | none => simp [hi] at hz
      | some i => simp [hi] at hz; exact ⟨by simp [zeroValue, typeInfo, hi, hz], fun ι => .constA hc⟩
    · cases h
  · cases h

theorem VRel.pair {a b a' b' : Value} (h : VRel ι a a') (k : VRel ι b b') : VRel ι (.tuple #[a, b]) (.tuple #[a', b']) :=
  .tuple rfl fun i v v' e e' => by
    match i with
    | 0 => simp at e e'; subst e e'; exact h
    | 1 => simp at e e'; subst e e'; exact k
    | n + 2 => simp at e
theorem VRel.triple {a b c a' b' c' : Value} (h : VRel ι a a') (k : VRel ι b b') (l : VRel ι c c') : VRel ι (.tuple #[a, b, c]) (.tuple #[a', b', c']) :=
  .tuple rfl fun i v v' e e' => by
    match i with
    | 0 => simp at e e'; subst e e'; exact h
    | 1 => simp at e e'; subst e e'; exact k
    | 2 => simp at e e'; subst e e'; exact l
    | n + 3 => simp at e

theorem lookup_ok (g : Good ι s w base w0) (he : ∀ x v, ev x = some v → VRel ι v (ρ x)) {t kt e : TypeId} {q : KT} {z : Value} (hu : P.underlying t = some (.map kt e)) (hq : keyT P kt = some q) (hz : zeroVal P e = some z) (m k : Operand) (ok : Bool) :
    VOk P ι w base w0 ((do Pure.pure (Next.value (← Instr.lookup t (ρ m) (ρ k) ok)) : Sem Next).run P w) (vx (.lookup q z m k ok) ev s) := by
  obtain ⟨hz1, hz2⟩ := zeroVal_run hz w
  have hfin : ∀ {v v' : Value} (b : Bool), VRel ι v v' → VRel ι (if ok = true then Value.tuple #[v, .bool b] else v) (if ok = true then Value.tuple #[v', .bool b] else v') := by
    intro v v' b hv; cases ok <;> simp; exact hv; exact hv.pair (.bool b)
  simp only [vx]
  cases h1 : ev m with
  | none => trivial
  | some mv =>
  cases h2 : ev k with
  | none => cases mv <;> (try trivial); rename_i r; cases r <;> trivial
  | some kv =>
    have r1 := he _ _ h1
    have r2 := he _ _ h2
    generalize ρ m = M at *
    generalize ρ k = K at *
    cases r1 <;> first | trivial | skip
    · -- a nil map
      simp only
      split
      · rename_i hs
        have hc := checkKey_run hq r2 hs true w
        refine .pure g (v' := if ok = true then .tuple #[z, .bool false] else z) ?_ (hfin false (hz2 ι))
        obtain ⟨d, hd⟩ := keyT_underlying hq
        simp [Instr.lookup, run_underlying hu, hc, Instr.findKey, run_underlying hd, Instr.findNow, hz1]
      · trivial
    · rename_i b p hp
      simp only
      split
      · rename_i es cl hb
        split
        · trivial
        · rename_i hs
          have hs' : (eqV q kv kv).isSome = true := by cases h : eqV q kv kv <;> simp_all
          obtain ⟨mes, f1, f2, _⟩ := g.mapAt hb hp
          have hc := fun x => checkKey_run hq r2 hs' x w
          cases hf : findEnt q kv es 0 with
          | none => simp [VOk]
          | some r =>
            obtain ⟨r', e1, e2⟩ := findKey_run (w := w) hq r2 f2 hf
            cases r with
            | none =>
              cases r' with
              | some _ => exact e2.elim
              | none =>
                simp only
                refine .pure g (v' := if ok = true then .tuple #[z, .bool false] else z) ?_ (hfin false (hz2 ι))
                simp [Instr.lookup, run_underlying hu, run_getObj_map f1, hc, e1, hz1]
            | some x =>
              obtain ⟨i, v⟩ := x
              cases r' with
              | none => exact e2.elim
              | some y =>
                obtain ⟨j, v'⟩ := y
                obtain ⟨rfl, hv⟩ := e2
                simp only
                refine .pure g (v' := if ok = true then .tuple #[v', .bool true] else v') ?_ (hfin true hv)
                simp [Instr.lookup, run_underlying hu, run_getObj_map f1, hc, e1]
      · trivial

theorem ERel.BRel {es : List Ent} {mes : Array MapEntry} {cl : Nat} {p : Pl} (h : ERel ι es mes.toList) : BRel ι (.map es cl) (.map mes cl) p :=
  ⟨mes, rfl, by simpa using h.1, fun i e e' f1 f2 => h.2 i e e' f1 (by simpa using f2)⟩

theorem ERel.modify {es : List Ent} {mes : List MapEntry} {f : Ent → Ent} {f' : MapEntry → MapEntry} (h : ERel ι es mes) (i : Nat)
    (hf : ∀ e e', es[i]? = some e → mes[i]? = some e' → VRel ι (f e).key (f' e').key ∧ VRel ι (f e).val (f' e').val ∧ (f e).born = (f' e').born) : ERel ι (es.modify i f) (mes.modify i f') := by
  refine ⟨by simp [h.1], fun j e e' h1 h2 => ?_⟩
  rw [List.getElem?_modify] at h1 h2
  by_cases hij : i = j
  · subst hij
    cases hx : es[i]? with
    | none => rw [hx] at h1; simp at h1
    | some x =>
      cases hy : mes[i]? with
      | none => rw [hy] at h2; simp at h2
      | some y =>
        rw [hx] at h1; rw [hy] at h2
        simp at h1 h2; subst h1 h2
        exact hf x y hx hy
  · simp only [hij, if_false, Option.map_id', id_eq] at h1 h2
    exact h.2 j e e' (by simpa using h1) (by simpa using h2)

theorem ERel.push {es : List Ent} {mes : Array MapEntry} {e : Ent} {e' : MapEntry} (h : ERel ι es mes.toList) (hk : VRel ι e.key e'.key) (hv : VRel ι e.val e'.val) (hb : e.born = e'.born) : ERel ι (es ++ [e]) (mes.push e').toList := by
  refine ⟨by simp [h.1], fun j x x' h1 h2 => ?_⟩
  rw [Array.toList_push] at h2
  rcases Nat.lt_or_ge j es.length with hj | hj
  · rw [List.getElem?_append_left hj] at h1
    rw [List.getElem?_append_left (by rw [← h.1]; exact hj)] at h2
    exact h.2 j x x' h1 h2
  · rw [List.getElem?_append_right hj] at h1
    rw [List.getElem?_append_right (by rw [← h.1]; exact hj), ← h.1] at h2
    cases hjj : j - es.length with
    | zero => rw [hjj] at h1 h2; simp at h1 h2; subst h1 h2; exact ⟨hk, hv, hb⟩
    | succ n => rw [hjj] at h1; simp at h1

theorem Good.putMap (g : Good ι s w base w0) {b : Nat} {es es2 : List Ent} {cl cl2 : Nat} {p : Pl} {mes mes2 : Array MapEntry} (hb : s.get b = some (.map es cl)) (hp : ι b = some p) (hw : w.heap[p.B]? = some (.map mes cl)) (h : ERel ι es2 mes2.toList) :
    Good ι (s.set b (.map es2 cl2)) (w.putObj p.B (.map mes2 cl2)) base w0 :=
  g.change hb rfl hp (.inl rfl) (World.putObj_heap_same (Array.getElem?_eq_some_iff.1 hw).1) (fun k hk => World.putObj_heap_other hk) (by simp) rfl rfl rfl h.BRel

theorem mapUpdate_ok (g : Good ι s w base w0) (he : ∀ x v, ev x = some v → VRel ι v (ρ x)) {t kt e : TypeId} {q : KT} (hu : P.underlying t = some (.map kt e)) (hq : keyT P kt = some q) (m k x : Operand) :
    VOk P ι w base w0 ((do Instr.mapUpdate t (ρ m) (ρ k) (ρ x); Pure.pure Next.skip : Sem Next).run P w) (vx (.mapUpdate q m k x) ev s) := by
  simp only [vx]
  split
  · rename_i b kv v h1 h2 h3
    have r1 := he _ _ h1
    have r2 := he _ _ h2
    have r3 := he _ _ h3
    generalize ρ m = M at *
    generalize ρ k = K at *
    generalize ρ x = X at *
    cases r1 with
    | map hp =>
      rename_i p
      split
      · rename_i es cl hb
        split
        · trivial
        · rename_i hs
          have hs' : (eqV q kv kv).isSome = true := by cases h : eqV q kv kv <;> simp_all
          obtain ⟨mes, f1, f2, _⟩ := g.mapAt hb hp
          have hc := fun x => checkKey_run hq r2 hs' x w
          cases hf : findEnt q kv es 0 with
          | none => simp [VOk]
          | some r =>
            obtain ⟨r', e1, e2⟩ := findKey_run (w := w) hq r2 f2 hf
            cases r with
            | none =>
              cases r' with
              | some _ => exact e2.elim
              | none =>
                simp only
                refine ⟨w.putObj p.B (.map (mes.push { key := K, val := X, born := cl }) (cl + 1)), ι, ?_, Emb.le_refl _, ?_⟩
                · simp [Instr.mapUpdate, run_underlying hu, run_getObj_map f1, hc, e1, run_setObj_map _ f1]
                · exact g.putMap hb hp f1 (f2.push r2 r3 rfl)
            | some y =>
              obtain ⟨i, v0⟩ := y
              cases r' with
              | none => exact e2.elim
              | some y' =>
                obtain ⟨j, v'⟩ := y'
                obtain ⟨rfl, hv⟩ := e2
                obtain ⟨en, _, g1, g2, _⟩ := findEnt_spec es 0 i v0 hf
                simp only [Nat.sub_zero] at g1
                have hin : i < mes.toList.length := by rw [← f2.1]; exact (List.getElem?_eq_some_iff.1 g1).1
                have g3 := f2.2 i en _ g1 (List.getElem?_eq_getElem hin)
                have hst := keyThatStays_run hq r2 g3.1 g2 w
                have hgd : ((mes[i]?).map (·.key)).getD K = (mes.toList[i]).key := by
                  have : mes[i]? = some mes.toList[i] := by rw [← Array.getElem?_toList]; exact List.getElem?_eq_getElem hin
                  simp [this]
                simp only
                refine ⟨w.putObj p.B (.map (mes.modify i fun e => { e with key := K, val := X }) cl), ι, ?_, Emb.le_refl _, ?_⟩
                · simp only [Instr.mapUpdate, Sem.run_bind, run_underlying hu, Result.andThen_ok, run_getObj_map f1, hc, e1, hgd, hst, run_setObj_map _ f1, Sem.run_pure]
                · exact g.putMap hb hp f1 (by rw [Array.toList_modify]; exact f2.modify i fun e e' h1 h2 => ⟨r2, r3, (f2.2 i e e' h1 h2).2.2⟩)
      · trivial
  · trivial

theorem mapEntry_ok (g : Good ι s w base w0) (he : ∀ x v, ev x = some v → VRel ι v (ρ x)) {t kt e : TypeId} {q : KT} {z : Value} (hu : P.underlying t = some (.map kt e)) (hq : keyT P kt = some q) (hz : zeroVal P e = some z) (m k : Operand) :
    VOk P ι w base w0 ((do Pure.pure (Next.value (← Instr.mapEntry t (ρ m) (ρ k))) : Sem Next).run P w) (vx (.mapEntry q z m k) ev s) := by
  obtain ⟨hz1, hz2⟩ := zeroVal_run hz w
  simp only [vx]
  split
  · rename_i b kv h1 h2
    have r1 := he _ _ h1
    have r2 := he _ _ h2
    generalize ρ m = M at *
    generalize ρ k = K at *
    cases r1 with
    | map hp =>
      rename_i p
      split
      · rename_i es cl hb
        split
        · trivial
        · rename_i hs
          have hs' : (eqV q kv kv).isSome = true := by cases h : eqV q kv kv <;> simp_all
          obtain ⟨mes, f1, f2, _⟩ := g.mapAt hb hp
          have hc := fun x => checkKey_run hq r2 hs' x w
          cases hf : findEnt q kv es 0 with
          | none => simp [VOk]
          | some r =>
            obtain ⟨r', e1, e2⟩ := findKey_run (w := w) hq r2 f2 hf
            cases r with
            | none =>
              cases r' with
              | some _ => exact e2.elim
              | none =>
                simp only
                refine ⟨.tuple #[z, goInt cl], w.putObj p.B (.map (mes.push { key := K, val := z, born := cl }) (cl + 1)), ι, ?_, Emb.le_refl _, (hz2 ι).pair (.int _ _), ?_⟩
                · simp [Instr.mapEntry, run_underlying hu, run_getObj_map f1, hc, e1, run_setObj_map _ f1, hz1]
                · exact g.putMap hb hp f1 (f2.push r2 (hz2 ι) rfl)
            | some y =>
              obtain ⟨i, v0⟩ := y
              cases r' with
              | none => exact e2.elim
              | some y' =>
                obtain ⟨j, v'⟩ := y'
                obtain ⟨rfl, hv⟩ := e2
                obtain ⟨en, _, g1, g2, _⟩ := findEnt_spec es 0 i v0 hf
                simp only [Nat.sub_zero] at g1
                have hin : i < mes.toList.length := by rw [← f2.1]; exact (List.getElem?_eq_some_iff.1 g1).1
                have g3 := f2.2 i en _ g1 (List.getElem?_eq_getElem hin)
                have hst := keyThatStays_run hq r2 g3.1 g2 w
                have hme : mes[i]? = some mes.toList[i] := by rw [← Array.getElem?_toList]; exact List.getElem?_eq_getElem hin
                have hgd : ((mes[i]?).map (·.key)).getD K = (mes.toList[i]).key := by simp [hme]
                have hgb : ((mes[i]?).map (fun x => (x.born : Int))).getD 0 = ((es[i]?).map (fun x => (x.born : Int))).getD 0 := by simp only [hme, g1, Option.map_some, Option.getD_some]; rw [g3.2.2]
                simp only
                refine ⟨.tuple #[v', goInt (((es[i]?).map (·.born)).getD 0)], w.putObj p.B (.map (mes.modify i fun e => { e with key := K }) cl), ι, ?_, Emb.le_refl _, hv.pair (.int _ _), ?_⟩
                · simp only [Instr.mapEntry, Sem.run_bind, run_underlying hu, Result.andThen_ok, run_getObj_map f1, hc, e1, hgd, hst, run_setObj_map _ f1, Sem.run_pure, hgb]
                · exact g.putMap hb hp f1 (by rw [Array.toList_modify]; exact f2.modify i fun e e' h1 h2 => ⟨r2, (f2.2 i e e' h1 h2).2.1, (f2.2 i e e' h1 h2).2.2⟩)
      · trivial
  · trivial


theorem ERel.findIdx {es : List Ent} {mes : List MapEntry} (h : ERel ι es mes) (n : Int) : mes.findIdx? (fun e => (e.born : Int) == n) = es.findIdx? (fun e => (e.born : Int) == n) := by
  induction es generalizing mes with
  | nil => cases mes with
    | nil => rfl
    | cons => have := h.1; simp at this
  | cons e es ih => cases mes with
    | nil => have := h.1; simp at this
    | cons e' mes =>
      rw [List.findIdx?_cons, List.findIdx?_cons, ih h.tail, h.head.2.2]

theorem entryStore_ok (g : Good ι s w base w0) (he : ∀ x v, ev x = some v → VRel ι v (ρ x)) (t : TypeId) (m st x : Operand) :
    VOk P ι w base w0 ((do Instr.entryStore t (ρ m) (ρ st) (ρ x); Pure.pure Next.skip : Sem Next).run P w) (vx (.entryStore m st x) ev s) := by
  simp only [vx]
  split
  · rename_i b k n v h1 h2 h3
    have r1 := he _ _ h1
    have r2 := he _ _ h2
    have r3 := he _ _ h3
    generalize ρ m = M at *
    generalize ρ st = K at *
    generalize ρ x = X at *
    cases r1 with
    | map hp =>
      rename_i p
      cases r2
      split
      · rename_i es cl hb
        obtain ⟨mes, f1, f2, _⟩ := g.mapAt hb hp
        split
        · rename_i i hi
          have hi' : mes.findIdx? (fun e => (e.born : Int) == n) = some i := by
            rw [← hi, ← f2.findIdx]
            conv => lhs; rw [← Array.toArray_toList (xs := mes)]
            rw [List.findIdx?_toArray]
          refine ⟨w.putObj p.B (.map (mes.modify i fun e => { e with val := X }) cl), ι, ?_, Emb.le_refl _, ?_⟩
          · simp [Instr.entryStore, run_getObj_map f1, asInt, asIntOf, hi', run_setObj_map _ f1]
          · exact g.putMap hb hp f1 (by rw [Array.toList_modify]; exact f2.modify i fun e e' h1 h2 => ⟨(f2.2 i e e' h1 h2).1, r3, (f2.2 i e e' h1 h2).2.2⟩)
        · trivial
      · trivial
  · trivial

theorem mkMap_ok (g : Good ι s w base w0) (t : TypeId) :
    VOk P ι w base w0 ((do Pure.pure (Next.value (← Instr.makeMap t none)) : Sem Next).run P w) (vx .mkMap ev s) := by
  obtain ⟨κ, k1, k2, k3⟩ := g.push (o := .map [] 0) (ob := .map #[] 0) (Z := 0) (ERel.BRel (mes := #[]) ⟨rfl, fun i e e' h => by simp at h⟩)
  refine ⟨.map (some w.heap.size), _, κ, by simp [Instr.makeMap], k1, .map k2, k3⟩

theorem range_ok (g : Good ι s w base w0) (he : ∀ x v, ev x = some v → VRel ι v (ρ x)) {t a b : TypeId} (hu : P.underlying t = some (.map a b)) (m : Operand) :
    VOk P ι w base w0 ((do Pure.pure (Next.value (← Instr.range t (ρ m))) : Sem Next).run P w) (vx (.range m) ev s) := by
  simp only [vx]
  split
  · rename_i b h1
    have r1 := he _ _ h1
    generalize ρ m = M at *
    cases r1 with
    | map hp =>
      rename_i p
      split
      · rename_i es cl hb
        obtain ⟨mes, f1, f2, _⟩ := g.mapAt hb hp
        have hne : b ≠ s.next := fun e => by have := (g.fresh b (by omega)).1; rw [hp] at this; cases this
        obtain ⟨κ, k1, k2, k3⟩ := g.push (o := .iter b cl [] cl) (ob := .mapIter (some p.B) cl #[] cl) (Z := 0) ⟨p, by simp only; rw [if_neg hne]; exact hp, rfl, rfl⟩
        refine ⟨.pointer (some ⟨w.heap.size, 0, none⟩), _, κ, ?_, k1, .ptr k2, k3⟩
        simp [Instr.range, run_underlying hu, run_getObj_map f1]
      · trivial
  · trivial

theorem ERel.filter {es : List Ent} {mes : List MapEntry} (h : ERel ι es mes) (f : Nat → Bool) : ERel ι (es.filter fun e => f e.born) (mes.filter fun e => f e.born) := by
  induction es generalizing mes with
  | nil => cases mes with
    | nil => exact h
    | cons => have := h.1; simp at this
  | cons e es ih => cases mes with
    | nil => have := h.1; simp at this
    | cons e' mes =>
      have hh := h.head
      have := ih h.tail
      simp only [List.filter_cons, hh.2.2]
      split
      · refine ⟨by simp [this.1], fun i x x' h1 h2 => ?_⟩
        cases i with
        | zero => simp at h1 h2; subst h1 h2; exact hh
        | succ i => exact this.2 i x x' (by simpa using h1) (by simpa using h2)
      · exact this

theorem ERel.append {es es2 : List Ent} {mes mes2 : List MapEntry} (h : ERel ι es mes) (h2 : ERel ι es2 mes2) : ERel ι (es ++ es2) (mes ++ mes2) := by
  refine ⟨by simp [h.1, h2.1], fun i x x' e e' => ?_⟩
  rcases Nat.lt_or_ge i es.length with hi | hi
  · rw [List.getElem?_append_left hi] at e
    rw [List.getElem?_append_left (by rw [← h.1]; exact hi)] at e'
    exact h.2 i x x' e e'
  · rw [List.getElem?_append_right hi] at e
    rw [List.getElem?_append_right (by rw [← h.1]; exact hi), ← h.1] at e'
    exact h2.2 _ x x' e e'

theorem Good.iterAt (g : Good ι s w base w0) {r m since last : Nat} {seen : List Nat} {p : Pl} (hb : s.get r = some (.iter m since seen last)) (hp : ι r = some p) :
    ∃ pm, ι m = some pm ∧ w.heap[p.B]? = some (.mapIter (some pm.B) since seen.toArray last) ∧ p.d = 0 := by
  obtain ⟨p', ob, h1, h2, h3, h4⟩ := g.blk r _ hb rfl
  rw [hp] at h1; cases h1
  obtain ⟨pm, e1, rfl, e3⟩ := h3
  exact ⟨pm, e1, h2, e3⟩

theorem choose_lt (q : Question) (n : Nat) (hq : q = .mapNext n) (hn : 0 < n) (w : World) : ∃ j w', j < n ∧ (choose q).run P w = .ok j w' ∧ (w' = w ∨ w' = w.drew) := by
  subst hq
  rw [run_choose_drew]
  split
  · exact ⟨0, w, hn, rfl, .inl rfl⟩
  · exact ⟨_, w.drew, Nat.mod_lt _ hn, rfl, .inr rfl⟩

theorem next_ok (g : Good ι s w base w0) (he : ∀ x v, ev x = some v → VRel ι v (ρ x)) (it : Operand) (ty : TypeId) :
    VOk P ι w base w0 ((do Pure.pure (Next.value (← Instr.next (ρ it) false ty)) : Sem Next).run P w) (vx (.next it) ev s) := by
  simp only [vx]
  split
  · rename_i r h1
    have r1 := he _ _ h1
    generalize ρ it = M at *
    cases r1 with
    | ptr hp =>
      rename_i p
      split
      · rename_i m since seen last hr
        obtain ⟨pm, e1, e2, hpd⟩ := g.iterAt hr hp
        split
        · rename_i es cl hm
          obtain ⟨mes, f1, f2, _⟩ := g.mapAt hm e1
          split
          · trivial
          · rename_i hall
            have hall' : ¬ ((!seen.toArray.isEmpty && !mes.isEmpty && mes.all (fun e => decide (e.born ≥ last))) = true) := by
              intro h
              apply hall
              simp only [Bool.and_eq_true] at h ⊢
              obtain ⟨⟨h1, h2⟩, h3⟩ := h
              refine ⟨⟨by simpa using h1, ?_⟩, ?_⟩
              · cases es with
                | nil => have := f2.1; simp at this; simp [Array.eq_empty_of_size_eq_zero this.symm] at h2
                | cons => rfl
              · rw [List.all_eq_true]
                intro e hemem
                obtain ⟨i, hi, hie⟩ := List.mem_iff_getElem.1 hemem
                have hi' : i < mes.toList.length := by rw [← f2.1]; exact hi
                have := f2.2 i e _ (by rw [← hie]; exact List.getElem?_eq_getElem hi) (List.getElem?_eq_getElem hi')
                rw [this.2.2]
                rw [Array.all_eq_true] at h3
                exact h3 i (by simpa using hi')
            have hleft := f2.filter (fun b => !seen.contains b)
            have hold := hleft.filter (fun b => decide (b < since))
            have hnew := hleft.filter (fun b => decide (b ≥ since))
            obtain ⟨old, hO⟩ : ∃ old, old = (es.filter fun e => !seen.contains e.born).filter fun e => decide (e.born < since) := ⟨_, rfl⟩
            obtain ⟨new, hN⟩ : ∃ new, new = (es.filter fun e => !seen.contains e.born).filter fun e => decide (e.born ≥ since) := ⟨_, rfl⟩
            obtain ⟨mold, hMO⟩ : ∃ mold, mold = (mes.filter fun e => !seen.toArray.contains e.born).filter fun e => decide (e.born < since) := ⟨_, rfl⟩
            obtain ⟨mnew, hMN⟩ : ∃ mnew, mnew = (mes.filter fun e => !seen.toArray.contains e.born).filter fun e => decide (e.born ≥ since) := ⟨_, rfl⟩
            have hold' : ERel ι old mold.toList := by rw [hO, hMO]; simpa using hold
            have hnew' : ERel ι new mnew.toList := by rw [hN, hMN]; simpa using hnew
            have hboth := hold'.append hnew'
            have hemp : mold.isEmpty = old.isEmpty := by
              have := hold'.1
              cases old with
              | nil => simp at this; simp [Array.eq_empty_of_size_eq_zero this.symm]
              | cons => simp at this; simp; intro h; rw [h] at this; simp at this
            have hpos : 0 < ((if mold.isEmpty then #[none] else #[]) ++ (mold ++ mnew).map some).size := by
              cases hb : mold.isEmpty with
              | true => simp; omega
              | false =>
                have : 0 < mold.size := by
                  rcases Nat.eq_zero_or_pos mold.size with h | h
                  · rw [Array.eq_empty_of_size_eq_zero h] at hb; simp at hb
                  · exact h
                simp; omega
            obtain ⟨j, w', hj, hrun, hw'⟩ := choose_lt (P := P) _ _ rfl hpos w
            have g' : Good ι s w' base w0 := by rcases hw' with rfl | rfl; exact g; exact g.drew
            have e2' : w'.heap[p.B]? = some (.mapIter (some pm.B) since seen.toArray last) := by rcases hw' with rfl | rfl <;> exact e2
            have hcand : ∀ x, ((if mold.isEmpty then #[none] else #[]) ++ (mold ++ mnew).map some)[j]? = some x →
                (Instr.next (.pointer (some ⟨p.B, p.d + 0, none⟩)) false ty).run P w = (match x with
                  | some e => .ok (.tuple #[.bool true, e.key, e.val]) (w'.putObj p.B (.mapIter (some pm.B) since (seen.toArray.push e.born) cl))
                  | none => .ok (.tuple #[.bool false]) w') := by
              intro x hx
              rw [hpd]
              simp only [Instr.next, Sem.run_bind, run_getObj_iter e2, Result.andThen_ok, run_getObj_map f1]
              rw [if_neg hall']
              simp only [← hMO, ← hMN, Sem.run_bind, hrun, Result.andThen_ok, hx]
              cases x with
              | none => rfl
              | some e => simp only [Sem.run_bind, run_setObj_iter _ e2', Result.andThen_ok, Sem.run_pure]
            have hx : ∃ x, ((if mold.isEmpty then #[none] else #[]) ++ (mold ++ mnew).map some)[j]? = some x := ⟨_, Array.getElem?_eq_getElem hj⟩
            obtain ⟨x, hx⟩ := hx
            have hc := hcand x hx
            cases x with
            | none =>
              have hem : mold.isEmpty = true := by
                cases hb : mold.isEmpty with
                | true => rfl
                | false =>
                  rw [hb] at hx
                  simp only [Bool.false_eq_true, if_false, Array.empty_append, Array.getElem?_map] at hx
                  cases hq : (mold ++ mnew)[j]? <;> rw [hq] at hx <;> simp at hx
              refine ⟨.tuple #[.bool false], s, ?_, .tuple #[.bool false], w', ι, by rw [Sem.run_bind, hc]; rfl, Emb.le_refl _, .tuple rfl (fun i v v' h1 h2 => by
                match i with
                | 0 => simp at h1 h2; subst h1 h2; exact .bool _
                | n + 1 => simp at h1), g'⟩
              simp only [nexts, ← hO, ← hN]
              rw [← hemp, hem]; simp
            | some e' =>
              have hmem : ∃ i : Nat, (mold ++ mnew).toList[i]? = some e' := by
                cases hb : mold.isEmpty with
                | true =>
                  rw [hb] at hx
                  cases j with
                  | zero => simp only [if_true] at hx; rw [Array.getElem?_append_left (by simp)] at hx; simp at hx
                  | succ j =>
                    simp only [if_true] at hx
                    rw [Array.getElem?_append_right (by simp)] at hx
                    simp only [List.size_toArray, List.length_cons, List.length_nil, Nat.zero_add, Nat.add_sub_cancel, Array.getElem?_map] at hx
                    cases hq : (mold ++ mnew)[j]? with
                    | none => rw [hq] at hx; simp at hx
                    | some y => rw [hq] at hx; simp at hx; subst hx; exact ⟨j, by rw [Array.getElem?_toList]; exact hq⟩
                | false =>
                  rw [hb] at hx
                  simp only [Bool.false_eq_true, if_false, Array.empty_append, Array.getElem?_map] at hx
                  cases hq : (mold ++ mnew)[j]? with
                  | none => rw [hq] at hx; simp at hx
                  | some y => rw [hq] at hx; simp at hx; subst hx; exact ⟨j, by rw [Array.getElem?_toList]; exact hq⟩
              obtain ⟨i, hi⟩ := hmem
              rw [Array.toList_append] at hi
              have hil : i < (old ++ new).length := by rw [hboth.1]; exact (List.getElem?_eq_some_iff.1 hi).1
              have hrel := hboth.2 i _ e' (List.getElem?_eq_getElem hil) hi
              refine ⟨.tuple #[.bool true, (old ++ new)[i].key, (old ++ new)[i].val], s.set r (.iter m since (seen ++ [(old ++ new)[i].born]) cl), ?_, .tuple #[.bool true, e'.key, e'.val], w'.putObj p.B (.mapIter (some pm.B) since (seen.toArray.push e'.born) cl), ι, by rw [Sem.run_bind, hc]; rfl, Emb.le_refl _, .triple (.bool _) hrel.1 hrel.2.1, ?_⟩
              · simp only [nexts, ← hO, ← hN]
                refine List.mem_append_right _ (List.mem_map.2 ⟨(old ++ new)[i], List.getElem_mem hil, rfl⟩)
              · refine g'.change hr rfl hp (.inl rfl) (World.putObj_heap_same (Array.getElem?_eq_some_iff.1 e2').1) (fun k hk => World.putObj_heap_other hk) (by simp) rfl rfl rfl ⟨pm, e1, ?_, hpd⟩
                rw [hrel.2.2]; simp
        · trivial
      · trivial
  · trivial

theorem ERel.find {es : List Ent} {mes : List MapEntry} (h : ERel ι es mes) (n : Nat) {e : Ent} (he : es.find? (fun e => e.born == n) = some e) : ∃ e', mes.find? (fun e => e.born == n) = some e' ∧ VRel ι e.key e'.key ∧ VRel ι e.val e'.val := by
  induction es generalizing mes with
  | nil => simp at he
  | cons x es ih => cases mes with
    | nil => have := h.1; simp at this
    | cons x' mes =>
      have hh := h.head
      rw [List.find?_cons] at he ⊢
      rw [← hh.2.2]
      cases hb : x.born == n with
      | true => rw [hb] at he; simp at he; subst he; exact ⟨x', rfl, hh.1, hh.2.1⟩
      | false => rw [hb] at he; exact ih h.tail he

theorem entry_ok (g : Good ι s w base w0) (he : ∀ x v, ev x = some v → VRel ι v (ρ x)) (it : Operand) :
    VOk P ι w base w0 ((do Pure.pure (Next.value (← Instr.entry (ρ it))) : Sem Next).run P w) (vx (.entry it) ev s) := by
  simp only [vx]
  split
  · rename_i r h1
    have r1 := he _ _ h1
    generalize ρ it = M at *
    cases r1 with
    | ptr hp =>
      rename_i p
      split
      · rename_i m since seen stepped hr
        obtain ⟨pm, e1, e2, hpd⟩ := g.iterAt hr hp
        split
        · rename_i st es cl hs hm
          obtain ⟨mes, f1, f2, _⟩ := g.mapAt hm e1
          split
          · rename_i hcl
            split
            · rename_i e hf
              obtain ⟨e', q1, q2, q3⟩ := f2.find st hf
              refine .pure g (v' := .tuple #[e'.key, e'.val]) ?_ (q2.pair q3)
              rw [hpd]
              have hback : seen.toArray.back? = some st := by rw [List.back?_toArray]; exact hs
              simp only [Instr.entry, Sem.run_bind, run_getObj_iter e2, Result.andThen_ok, hback, run_getObj_map f1]
              subst hcl
              have : mes.find? (fun e => e.born == st) = some e' := by rw [← q1]; simp
              simp [this]
            · trivial
          · trivial
        · trivial
      · trivial
  · trivial

theorem lenMap_ok (g : Good ι s w base w0) (he : ∀ x v, ev x = some v → VRel ι v (ρ x)) {t ty a b : TypeId} (hu : P.underlying t = some (.map a b)) (m : Operand) :
    VOk P ι w base w0 ((do Pure.pure (Next.value (← Builtin.len_ #[t] ty #[ρ m])) : Sem Next).run P w) (vx (.lenMap m) ev s) := by
  simp only [vx]
  split
  · rename_i h1
    have r1 := he _ _ h1
    generalize ρ m = M at *
    cases r1
    exact .pure g (by simp [Builtin.len_, run_underlying hu, goInt]) (.int _ _)
  · rename_i b h1
    have r1 := he _ _ h1
    generalize ρ m = M at *
    cases r1 with
    | map hp =>
      split
      · rename_i es cl hb
        obtain ⟨mes, f1, f2, _⟩ := g.mapAt hb hp
        refine .pure g ?_ (.int _ _)
        have := f2.1
        simp at this
        simp [Builtin.len_, run_underlying hu, run_getObj_map f1, goInt, this]
      · trivial
  · trivial
end
end Go.Vm
