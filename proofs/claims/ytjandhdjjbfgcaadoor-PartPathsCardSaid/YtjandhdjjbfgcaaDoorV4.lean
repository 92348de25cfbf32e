/- An operation of the model does what the resolved one does. First part: all but maps and append. -/
import Derived.Test.YtjandhdjjbfgcaaDoorV3
import Derived.Laws.Entries
import Derived.Laws.StructEq
set_option linter.unusedSectionVars false
set_option linter.unusedSimpArgs false
set_option linter.unusedVariables false
/- An operation of the model does what the resolved one does. First part: all but maps and append. -/
namespace Go.Vm
open Go.RowKit (Below)
variable [Laid]

def VOk (P : Program) (ι : Emb) (w : World) (base : Nat) (w0 : World) (run : Result Next) : VR → Prop
  | .val v s' => ∃ v' w' κ, run = .ok (.value v') w' ∧ ι.le κ ∧ VRel κ v v' ∧ Good κ s' w' base w0
  | .skip s' => ∃ w' κ, run = .ok .skip w' ∧ ι.le κ ∧ Good κ s' w' base w0
  | .call f args => ∃ args' : Array Value, run = (callFunc f args').run P w ∧ Rels ι args args'.toList
  | .yield b args => ∃ (p : Pl) (args' : Array Value), ι b = some p ∧ run = (Instr.yield p.B args').run P w ∧ Rels ι args args'.toList
  | .any l => ∃ v s', (v, s') ∈ l ∧ ∃ v' w' κ, run = .ok (.value v') w' ∧ ι.le κ ∧ VRel κ v v' ∧ Good κ s' w' base w0
  | .bad => True

section
variable {P : Program} {ι : Emb} {s : St} {w : World} {base : Nat} {w0 : World} {ev : Operand → Option Value} {ρ : Operand → Value}

theorem VOk.pure (g : Good ι s w base w0) {run : Result Next} {v v' : Value} (h : run = .ok (.value v') w) (hv : VRel ι v v') : VOk P ι w base w0 run (.val v s) :=
  ⟨v', w, ι, h, Emb.le_refl ι, hv, g⟩

theorem sizeOf_run {t : TypeId} {n : Nat} (h : szOf P t = some n) (w : World) : (sizeOf t).run P w = .ok n w := by
  unfold szOf at h
  cases hi : P.info? t with
  | none => simp [hi] at h
  | some i => simp [hi] at h; simp [sizeOf, typeInfo, hi, h]

theorem isAgg_run {t : TypeId} {b : Bool} (h : aggOf P t = some b) (w : World) : (isAgg t).run P w = .ok b w := by
  unfold aggOf at h
  unfold isAgg
  cases hu : P.underlying t with
  | none => simp [hu] at h
  | some d => rw [Sem.run_bind, run_underlying hu]; cases d <;> simp_all

theorem zeroOf_spec {t : TypeId} {z : List Value} (h : zeroOf P t = some z) : ∃ i zv, P.info? t = some i ∧ i.zero = some zv ∧ zv.cells.toList = z ∧ z.length = i.size ∧ z.all constOk = true := by
  unfold zeroOf at h
  split at h
  · rename_i i hi
    split at h
    · rename_i zv hz
      split at h
      · rename_i hc
        cases h
        refine ⟨i, zv, hi, hz, rfl, by simpa using hc.2, ?_⟩
        have := hc.1
        unfold constOkA at this
        split at this
        · exact this
        · cases zv <;> simp_all [Value.cells, constOk]
      · cases h
    · cases h
  · cases h

theorem zeroValue_run {t : TypeId} {z : List Value} (h : zeroOf P t = some z) (w : World) : ∃ zv, (zeroValue t).run P w = .ok zv w ∧ zv.cells.toList = z := by
  obtain ⟨i, zv, h1, h2, h3, _, _⟩ := zeroOf_spec h
  exact ⟨zv, by simp [zeroValue, typeInfo, h1, h2], h3⟩

/-- A new row of cells on both sides. -/
theorem Good.newRow (g : Good ι s w base w0) {vs : List Value} {mc : Array Value} (ty : TypeId) {Z : Nat} (hr : Rels ι vs (mc.toList.take vs.length)) (hZ : mc.size = Z) :
    ∃ κ : Emb, ι.le κ ∧ κ s.next = some ⟨w.heap.size, 0, Z⟩ ∧ Good κ (s.push (.cells true vs)) (w.alloc (.cells mc ty)) base w0 := by
  refine g.push ⟨mc, ty, (0, 0), rfl, hZ, fun i v e => ?_, fun _ => rfl⟩
  obtain ⟨v', f1, f2⟩ := hr.get e
  have hi := (List.getElem?_eq_some_iff.1 e).1
  rw [List.getElem?_take_of_lt hi] at f1
  refine ⟨v', by simpa using f1, f2.mono fun b p e => ?_⟩
  have hb : b ≠ s.next := fun hb => by have := (g.fresh b (by omega)).1; rw [this] at e; cases e
  simp [hb, e]

theorem Rels.takeAll {xs : List Value} {mc : Array Value} (h : Rels ι xs mc.toList) : Rels ι xs (mc.toList.take xs.length) := by
  rw [h.1, List.take_length]; exact h

theorem mov_ok (g : Good ι s w base w0) (he : ∀ x v, ev x = some v → VRel ι v (ρ x)) (x : Operand) : VOk P ι w base w0 (.ok (.value (ρ x)) w) (vx (.mov x) ev s) := by
  simp only [vx]
  cases h : ev x with
  | none => trivial
  | some v => exact .pure g rfl (he x v h)

theorem pick_ok (g : Good ι s w base w0) (he : ∀ x v, ev x = some v → VRel ι v (ρ x)) (c a b : Operand) :
    VOk P ι w base w0 ((do Pure.pure (Next.value (if ← asBool (ρ c) then ρ a else ρ b)) : Sem Next).run P w) (vx (.pick c a b) ev s) := by
  simp only [vx]
  split
  · rename_i t hc
    have := he c _ hc
    cases t
    · cases h : ev b with
      | none => simp [VOk, h]
      | some v => simp only [h, Bool.false_eq_true, if_false]; refine .pure g ?_ (he b v h); generalize ρ c = x at *; cases this; simp [asBool]
    · cases h : ev a with
      | none => simp [VOk, h]
      | some v => simp only [h, if_true]; refine .pure g ?_ (he a v h); generalize ρ c = x at *; cases this; simp [asBool]
  · trivial

theorem alloc_ok (g : Good ι s w base w0) {t : TypeId} {z : List Value} (h : zeroOf P t = some z) :
    VOk P ι w base w0 ((do Pure.pure (Next.value (← Instr.alloc t true (.tuple #[]))) : Sem Next).run P w) (vx (.alloc z) ev s) := by
  obtain ⟨zv, h1, h2⟩ := zeroValue_run h w
  obtain ⟨_, _, _, _, _, _, hall⟩ := zeroOf_spec h
  obtain ⟨κ, k1, k2, k3⟩ := g.newRow (mc := zv.cells) t (Z := zv.cells.size) (vs := z) (by rw [h2, List.take_length]; exact Rels.const hall) rfl
  refine ⟨.pointer (some ⟨w.heap.size, 0, none⟩), _, κ, ?_, k1, ?_, k3⟩
  · simp [Instr.alloc, h1, newVar, Go.newRow]
  · exact VRel.ptr k2

theorem box_ok (g : Good ι s w base w0) (he : ∀ x v, ev x = some v → VRel ι v (ρ x)) (t : TypeId) (x : Operand) :
    VOk P ι w base w0 ((do Pure.pure (Next.value (← Instr.box t (ρ x))) : Sem Next).run P w) (vx (.box x) ev s) := by
  simp only [vx]
  cases h : ev x with
  | none => trivial
  | some v =>
    have hr := (he x v h).cells
    obtain ⟨κ, k1, k2, k3⟩ := g.newRow (mc := (ρ x).cells) t (Z := (ρ x).cells.size) (vs := vcells v) hr.takeAll rfl
    refine ⟨.pointer (some ⟨w.heap.size, 0, none⟩), _, κ, ?_, k1, ?_, k3⟩
    · simp [Instr.box, newVar, Go.newRow]
    · exact VRel.ptr k2

/-! ### build -/

theorem foldl_put (vs : List Value) : ∀ (cs : Array Value) (off j : Nat), (vs.zipIdx j).foldl (fun cs (c, j) => cs.setIfInBounds (off + j) c) cs = putA cs (off + j) vs := by
  induction vs with
  | nil => intro cs off j; rfl
  | cons v vs ih => intro cs off j; simp only [List.zipIdx_cons, List.foldl_cons, putA]; rw [ih, Nat.add_assoc]

theorem Rels.setOne {cs ds : List Value} {o : Nat} {v v' : Value} (h : Rels ι cs ds) (hv : VRel ι v v') : Rels ι (cs.set o v) (ds.set o v') := by
  refine ⟨by simp [h.1], fun i u u' e e' => ?_⟩
  rw [List.getElem?_set] at e e'
  split at e
  · rename_i heq
    rw [if_pos heq] at e'
    split at e
    · rename_i hlt; rw [if_pos (by rw [← h.1]; exact hlt)] at e'; cases e; cases e'; exact hv
    · cases e
  · rename_i hne
    rw [if_neg hne] at e'
    exact h.2 i u u' e e'

theorem putA_toList : ∀ (vs : List Value) (mc : Array Value) (o : Nat), (putA mc o vs).toList = setRange mc.toList o vs
  | [], _, _ => rfl
  | v :: vs, mc, o => by simp only [putA, setRange]; rw [putA_toList vs]; simp

theorem Rels.setRange : ∀ (vs vs' cs ds : List Value) (o : Nat), Rels ι cs ds → Rels ι vs vs' → Rels ι (Vm.setRange cs o vs) (Vm.setRange ds o vs')
  | [], vs', cs, ds, o, h, hr => by
    have : vs' = [] := List.length_eq_zero_iff.1 (by have := hr.1; simp at this; omega)
    subst this; exact h
  | v :: vs, [], cs, ds, o, h, hr => by have := hr.1; simp at this
  | v :: vs, v' :: vs', cs, ds, o, h, hr => by
    exact Rels.setRange vs vs' _ _ _ (h.setOne (hr.2 0 v v' rfl rfl)) ⟨by have := hr.1; simpa using this, fun i u u' e e' => hr.2 (i + 1) u u' (by simpa using e) (by simpa using e')⟩

theorem fill_ok (he : ∀ x v, ev x = some v → VRel ι v (ρ x)) {place : Nat → Option (Nat × Nat)} : ∀ (ps : List (Nat × Operand)) (qs : List (Nat × Nat × Operand)) (cs : List Value) (ds : Array Value) (out : List Value),
    qs.length = ps.length → (∀ (j : Nat) (p : Nat × Operand) (q : Nat × Nat × Operand), ps[j]? = some p → qs[j]? = some q → place p.1 = some (q.1, q.2.1) ∧ q.2.2 = p.2) →
    Rels ι cs ds.toList → fillV ev cs qs = some out → ∃ out' : Array Value, Instr.fill place ds (ps.map fun (i, x) => (i, ρ x)) = some out' ∧ Rels ι out out'.toList
  | [], [], cs, ds, out, _, _, h, hf => by simp [fillV] at hf; subst hf; exact ⟨ds, rfl, h⟩
  | [], q :: qs, cs, ds, out, hl, _, _, _ => by simp at hl
  | p :: ps, [], cs, ds, out, hl, _, _, _ => by simp at hl
  | (i, x) :: ps, (off, n, y) :: qs, cs, ds, out, hl, hp, h, hf => by
    obtain ⟨h1, h2⟩ := hp 0 _ _ rfl rfl
    simp only at h1 h2
    subst h2
    simp only [fillV] at hf
    cases hy : ev y with
    | none => simp [hy] at hf
    | some v =>
      simp only [hy] at hf
      split at hf
      · rename_i hc
        have hr := (he y v hy).cells
        have hlen : (ρ y).cells.size = n := by rw [← hc.1, hr.1]; simp
        have hds : off + n ≤ ds.size := by have := h.1; simp at this; omega
        obtain ⟨out', e1, e2⟩ := fill_ok he ps qs (Vm.setRange cs off (vcells v)) (putA ds off (ρ y).cells.toList) out (by simpa using hl)
          (fun j p q e e' => hp (j + 1) p q (by simpa using e) (by simpa using e')) (by rw [putA_toList]; exact Rels.setRange _ _ _ _ _ h hr) hf
        refine ⟨out', ?_, e2⟩
        have hz : (ρ y).cells.zipIdx.foldl (fun cs (c, j) => cs.setIfInBounds (off + j) c) ds = putA ds off (ρ y).cells.toList := by
          rw [← Array.foldl_toList, Array.toList_zipIdx, foldl_put]; simp
        simp only [List.map_cons, Instr.fill, h1, hlen]
        rw [if_neg (by simp; omega), hz]
        exact e1
      · cases hf

theorem fieldParts_spec {fs : Array Field} : ∀ (ps : List (Nat × Operand)) (qs : List (Nat × Nat × Operand)), fieldParts P fs ps = some qs →
    qs.length = ps.length ∧ ∀ (j : Nat) (p : Nat × Operand) (q : Nat × Nat × Operand), ps[j]? = some p → qs[j]? = some q → ∃ f, fs[p.1]? = some f ∧ f.offset = q.1 ∧ szOf P f.type = some q.2.1 ∧ q.2.2 = p.2
  | [], qs, h => by simp [fieldParts] at h; subst h; exact ⟨rfl, fun j p q e => by simp at e⟩
  | (i, x) :: ps, qs, h => by
    simp only [fieldParts] at h
    split at h
    · rename_i f r hf hr
      split at h
      · rename_i n hn
        cases h
        obtain ⟨h1, h2⟩ := fieldParts_spec ps r hr
        refine ⟨by simp [h1], fun j p q e e' => ?_⟩
        cases j with
        | zero => simp at e e'; subst e e'; exact ⟨f, hf, rfl, hn, rfl⟩
        | succ j => exact h2 j p q (by simpa using e) (by simpa using e')
      · cases h
    · cases h

theorem mapM_places (w : World) (fs : Array Field) (h : ∀ f ∈ fs.toList, ∃ n, szOf P f.type = some n) :
    (fs.mapM (fun f => (do Pure.pure (f.offset, ← sizeOf f.type) : Sem (Nat × Nat)))).run P w = .ok (fs.map fun f => (f.offset, (szOf P f.type).getD 0)) w := by
  have key : ∀ (l : List Field), (∀ f ∈ l, ∃ n, szOf P f.type = some n) →
      (l.mapM (fun f => (do Pure.pure (f.offset, ← sizeOf f.type) : Sem (Nat × Nat)))).run P w = .ok (l.map fun f => (f.offset, (szOf P f.type).getD 0)) w := by
    intro l
    induction l with
    | nil => intro _; simp
    | cons f l ih =>
      intro h
      obtain ⟨n, hn⟩ := h f (List.mem_cons_self ..)
      have ih' := ih (fun f hf => h f (List.mem_cons_of_mem _ hf))
      simp only [List.mapM_cons, Sem.run_bind, sizeOf_run hn, Result.andThen_ok, Sem.run_pure, ih', List.map_cons, hn, Option.getD_some]
  rw [Array.mapM_eq_mapM_toList, Sem.run_map, key _ h]
  simp only [Result.andThen_ok]
  congr 1
  apply Array.ext'; simp

theorem build_struct_ok (g : Good ι s w base w0) (he : ∀ x v, ev x = some v → VRel ι v (ρ x)) {t : TypeId} {fs : Array Field} {z : List Value} {ps : Array (Nat × Operand)} {qs : List (Nat × Nat × Operand)}
    (hu : P.underlying t = some (.struct fs)) (hz : zeroOf P t = some z) (hall : fs.toList.all (fun f => (szOf P f.type).isSome) = true) (hp : fieldParts P fs ps.toList = some qs) :
    VOk P ι w base w0 ((do Pure.pure (Next.value (← Instr.build t (ps.map fun (i, x) => (i, ρ x)))) : Sem Next).run P w) (vx (.build z qs) ev s) := by
  simp only [vx]
  cases hf : fillV ev z qs with
  | none => trivial
  | some out =>
    obtain ⟨zv, h1, h2⟩ := zeroValue_run hz w
    obtain ⟨_, _, _, _, _, _, hzc⟩ := zeroOf_spec hz
    obtain ⟨hl, hs⟩ := fieldParts_spec _ _ hp
    have hall' : ∀ f ∈ fs.toList, ∃ n, szOf P f.type = some n := fun f hf => by
      rw [List.all_eq_true] at hall; exact Option.isSome_iff_exists.1 (hall f hf)
    obtain ⟨out', e1, e2⟩ := fill_ok he (place := fun i => (fs.map fun f => (f.offset, (szOf P f.type).getD 0))[i]?) ps.toList qs z zv.cells out hl
      (fun j p q e e' => by obtain ⟨f, f1, f2, f3, f4⟩ := hs j p q e e'; exact ⟨by simp [f1, f2, f3], f4⟩) (by rw [h2]; exact Rels.const hzc) hf
    refine .pure g (v' := .agg out') ?_ (.agg (by simpa using e2.1) fun i v v' e e' => e2.2 i v v' (by simpa using e) (by simpa using e'))
    have hm := mapM_places (P := P) w fs hall'
    have e1' : Instr.fill (fun i => (fs.map fun f => (f.offset, (szOf P f.type).getD 0))[i]?) zv.cells (ps.map fun (i, x) => (i, ρ x)).toList = some out' := by rw [← e1]; simp
    simp only [Instr.build, Sem.run_bind, h1, Result.andThen_ok, run_underlying hu, hm, e1', Sem.run_pure]

theorem build_array_ok (g : Good ι s w base w0) (he : ∀ x v, ev x = some v → VRel ι v (ρ x)) {t e : TypeId} {n k : Nat} {z : List Value} {ps : Array (Nat × Operand)}
    (hu : P.underlying t = some (.array k e)) (hz : zeroOf P t = some z) (hn : szOf P e = some n) :
    VOk P ι w base w0 ((do Pure.pure (Next.value (← Instr.build t (ps.map fun (i, x) => (i, ρ x)))) : Sem Next).run P w) (vx (.build z (ps.toList.map fun (i, x) => (i * n, n, x))) ev s) := by
  simp only [vx]
  cases hf : fillV ev z (ps.toList.map fun (i, x) => (i * n, n, x)) with
  | none => trivial
  | some out =>
    obtain ⟨zv, h1, h2⟩ := zeroValue_run hz w
    obtain ⟨_, _, _, _, _, _, hzc⟩ := zeroOf_spec hz
    obtain ⟨out', e1, e2⟩ := fill_ok he (place := fun i => some (i * n, n)) ps.toList _ z zv.cells out (by simp)
      (fun j p q e e' => by rw [List.getElem?_map, e] at e'; simp at e'; subst e'; exact ⟨rfl, rfl⟩) (by rw [h2]; exact Rels.const hzc) hf
    refine .pure g (v' := .agg out') ?_ (.agg (by simpa using e2.1) fun i v v' e e' => e2.2 i v v' (by simpa using e) (by simpa using e'))
    have e1' : Instr.fill (fun i => some (i * n, n)) zv.cells (ps.map fun (i, x) => (i, ρ x)).toList = some out' := by rw [← e1]; simp
    simp only [Instr.build, Sem.run_bind, h1, Result.andThen_ok, run_underlying hu, sizeOf_run hn, e1', Sem.run_pure]

/-- Zero cells for n elements. -/
theorem zeroCells_toList (z : Array Value) (n : Nat) (hz : 0 < z.size) : ((Array.range (n * z.size)).map (z[· % z.size]!)).toList = (List.replicate n z.toList).flatten := by
  simp only [Array.toList_map, Array.toList_range]
  induction n with
  | zero => simp
  | succ n ih =>
    rw [Nat.succ_mul, List.range_add, List.map_append, ih, List.replicate_succ', List.flatten_append]
    congr 1
    simp only [List.map_map, List.flatten_cons, List.flatten_nil, List.append_nil]
    apply List.ext_getElem?
    intro i
    rcases Nat.lt_or_ge i z.size with hi | hi
    · simp [hi, Nat.mod_eq_of_lt hi, getElem!_pos]
    · rw [List.getElem?_eq_none (by simpa using hi), List.getElem?_eq_none (by simpa using hi)]

theorem all_flatten_replicate {z : List Value} (h : z.all constOk = true) (n : Nat) : ((List.replicate n z).flatten).all constOk = true := by
  rw [List.all_eq_true] at h ⊢
  intro x hx
  obtain ⟨l, hl, hx⟩ := List.mem_flatten.1 hx
  exact h x ((List.eq_of_mem_replicate hl) ▸ hx)

theorem buildSlice_ok (g : Good ι s w base w0) (he : ∀ x v, ev x = some v → VRel ι v (ρ x)) {t e : TypeId} {n len : Nat} {z : List Value} {ps : Array (Nat × Operand)}
    (hu : P.underlying t = some (.slice e)) (hz : zeroOf P e = some z) (hn : szOf P e = some n) (hlen : len * n ≤ 16777216) (hpos : 0 < n) :
    VOk P ι w base w0 ((do Pure.pure (Next.value (← Instr.buildSlice t len (ps.map fun (i, x) => (i, ρ x)))) : Sem Next).run P w)
      (vx (.buildSlice n len ((List.replicate len z).flatten) (ps.toList.map fun (i, x) => (i * n, n, x))) ev s) := by
  simp only [vx]
  cases hf : fillV ev ((List.replicate len z).flatten) (ps.toList.map fun (i, x) => (i * n, n, x)) with
  | none => trivial
  | some out =>
    obtain ⟨zv, h1, h2⟩ := zeroValue_run hz w
    obtain ⟨i, _, hi, _, _, hzl, hzc⟩ := zeroOf_spec hz
    have hin : i.size = n := by simp [szOf, hi] at hn; exact hn
    have hzs : zv.cells.size = n := by rw [← hin, ← hzl, ← h2]; simp
    have hb : ∃ bs : Array Value, ((len * n = 0 ∧ bs = #[]) ∨ (len * n ≠ 0 ∧ bs = zv.cells)) ∧ ((Array.range (len * n)).map (bs[· % bs.size]!)).toList = (List.replicate len z).flatten := by
      by_cases h0 : len * n = 0
      · have hl0 : len = 0 := by rcases Nat.mul_eq_zero.1 h0 with h | h <;> omega
        exact ⟨#[], .inl ⟨h0, rfl⟩, by simp [h0, hl0]⟩
      · refine ⟨zv.cells, .inr ⟨h0, rfl⟩, ?_⟩
        rw [← hzs, zeroCells_toList _ _ (by omega), h2]
    obtain ⟨bs, hb1, hb2⟩ := hb
    obtain ⟨out', e1, e2⟩ := fill_ok he (place := fun i => some (i * n, n)) ps.toList _ _ ((Array.range (len * n)).map (bs[· % bs.size]!)) out (by simp)
      (fun j p q e e' => by rw [List.getElem?_map, e] at e'; simp at e'; subst e'; exact ⟨rfl, rfl⟩) (by rw [hb2]; exact Rels.const (all_flatten_replicate hzc len)) hf
    have e1' : Instr.fill (fun i => some (i * n, n)) ((Array.range (len * n)).map (bs[· % bs.size]!)) (ps.map fun (i, x) => (i, ρ x)).toList = some out' := by rw [← e1]; simp
    obtain ⟨κ, k1, k2, k3⟩ := g.newRow (mc := out') e (Z := out'.size) (vs := out) e2.takeAll rfl
    have hsz : out'.size = len * n := by
      have hfl : ∀ (qs : List (Nat × Nat × Operand)) (cs out : List Value), fillV ev cs qs = some out → out.length = cs.length := by
        intro qs
        induction qs with
        | nil => intro cs out h; simp [fillV] at h; rw [h]
        | cons q qs ih =>
          intro cs out h
          obtain ⟨a, b, c⟩ := q
          simp only [fillV] at h
          split at h
          · split at h
            · rw [ih _ _ h, setRange_length]
            · cases h
          · cases h
      have := hfl _ _ _ hf
      have h3 := e2.1
      simp only [Array.length_toList] at h3
      rw [← h3, this, ← hb2]; simp
    refine ⟨.slice (some ⟨w.heap.size, 0, none⟩) len len, _, κ, ?_, k1, ?_, k3⟩
    · simp only [Instr.buildSlice, Sem.run_bind, run_underlying hu, Result.andThen_ok, sizeOf_run hn]
      rw [if_neg (by omega)]
      rcases hb1 with ⟨h0, rfl⟩ | ⟨h0, rfl⟩
      · rw [if_pos h0]
        simp only [Sem.run_pure, Result.andThen_ok, Sem.run_bind, e1', Go.newRow, run_newObj_alloc]
      · rw [if_neg h0]
        simp only [Sem.run_pure, Result.andThen_ok, Sem.run_bind, h1, e1', Go.newRow, run_newObj_alloc]
    · exact VRel.slice (o' := 0) k2 (Nat.le_refl _) (by simp [hsz]; rw [show (2 * n + 1) / 2 = n from by omega]; exact Nat.le_refl _) (fun _ => rfl) (fun _ => rfl)

end
end Go.Vm
