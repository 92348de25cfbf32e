/- Operations, second part: loads, stores, arithmetic, addresses, slices. -/
import Derived.Test.YtjandhdjjbfgcaaDoorV4
set_option linter.unusedSectionVars false
set_option linter.unusedSimpArgs false
set_option linter.unusedVariables false
/- Operations, second part: loads, stores, arithmetic, addresses, slices. -/
namespace Go.Vm
open Go.RowKit (Below)
variable [Laid]
section
variable {P : Program} {ι : Emb} {s : St} {w : World} {base : Nat} {w0 : World} {ev : Operand → Option Value} {ρ : Operand → Value}

theorem load1_ok (g : Good ι s w base w0) (he : ∀ x v, ev x = some v → VRel ι v (ρ x)) {t : TypeId} (ha : aggOf P t = some false) (a : Operand) :
    VOk P ι w base w0 ((do Pure.pure (Next.value (← Instr.loadAt t (ρ a))) : Sem Next).run P w) (vx (.load none a) ev s) := by
  simp only [vx]
  split
  · rename_i b o h
    have hr := he a _ h
    cases hl : Vm.load1 s b o with
    | none => trivial
    | some v =>
      generalize ρ a = x at *
      cases hr with
      | ptr hp =>
        obtain ⟨v', e1, e2⟩ := g.load1 hl hp
        refine .pure g (v' := v') ?_ e2
        simp [Instr.loadAt, Instr.sureAddr, loadVar, isAgg_run ha, e1]
  · trivial

theorem loadN_ok (g : Good ι s w base w0) (he : ∀ x v, ev x = some v → VRel ι v (ρ x)) {t : TypeId} {n : Nat} (ha : aggOf P t = some true) (hn : szOf P t = some n) (a : Operand) :
    VOk P ι w base w0 ((do Pure.pure (Next.value (← Instr.loadAt t (ρ a))) : Sem Next).run P w) (vx (.load (some n) a) ev s) := by
  simp only [vx]
  split
  · rename_i b o h
    have hr := he a _ h
    cases hl : Vm.loadN s b o n with
    | none => trivial
    | some vs =>
      generalize ρ a = x at *
      cases hr with
      | ptr hp =>
        obtain ⟨hlen, vs', e1, e2⟩ := g.loadN hl hp
        refine .pure g (v' := .agg vs'.toArray) ?_ (.agg (by simp [e1.1]) fun i v v' e e' => e1.2 i v v' (by simpa using e) (by simpa using e'))
        have := run_loadCells (P := P) (w := w) (n := n) (by rw [← e1.1, hlen]) e2
        simp [Instr.loadAt, Instr.sureAddr, loadVar, isAgg_run ha, sizeOf_run hn, this]
  · trivial

theorem store_ok (g : Good ι s w base w0) (he : ∀ x v, ev x = some v → VRel ι v (ρ x)) {t : TypeId} {n : Nat} (hn : szOf P t = some n) (a x : Operand) :
    VOk P ι w base w0 ((do Instr.storeAt t (ρ a) (ρ x); Pure.pure Next.skip : Sem Next).run P w) (vx (.store n a x) ev s) := by
  simp only [vx]
  split
  · rename_i b o v h hx
    have hr := he a _ h
    have hv := (he x _ hx).cells
    split
    · rename_i hsz
      split
      · rename_i s' hs
        generalize ρ a = y at *
        cases hr with
        | ptr hp =>
          obtain ⟨w', e1, e2⟩ := g.storeN (P := P) hs hp hv
          refine ⟨w', ι, ?_, Emb.le_refl ι, e2⟩
          have hsize : (ρ x).cells.size = n := by rw [← hsz, hv.1]; simp
          simp only [Instr.storeAt, Instr.sureAddr, storeVar, Sem.run_bind, Sem.run_pure, Result.andThen_ok, sizeOf_run hn]
          rw [if_neg (by simp [hsize])]
          simp only [e1, Sem.run_bind, Sem.run_pure, Result.andThen_ok]
      · trivial
    · trivial
  · trivial

theorem not_ok (g : Good ι s w base w0) (he : ∀ x v, ev x = some v → VRel ι v (ρ x)) (x : Operand) :
    VOk P ι w base w0 ((do Pure.pure (Next.value (← Op.unary .not (ρ x))) : Sem Next).run P w) (vx (.not x) ev s) := by
  simp only [vx]
  split
  · rename_i b h
    have hr := he x _ h
    generalize ρ x = y at *
    cases hr
    exact .pure g (by simp [Op.unary]) (.bool _)
  · trivial
theorem neg_ok (g : Good ι s w base w0) (he : ∀ x v, ev x = some v → VRel ι v (ρ x)) (x : Operand) :
    VOk P ι w base w0 ((do Pure.pure (Next.value (← Op.unary .neg (ρ x))) : Sem Next).run P w) (vx (.neg x) ev s) := by
  simp only [vx]
  split
  · rename_i b h
    have hr := he x _ h
    generalize ρ x = y at *
    cases hr
    exact .pure g (by simp [Op.unary, Op.intArith]) (.int _ _)
  · trivial

theorem conv_ok (g : Good ι s w base w0) (he : ∀ x v, ev x = some v → VRel ι v (ρ x)) {src dst : TypeId} {k k' : IntKind} (h1 : P.underlying src = some (.int k')) (h2 : P.underlying dst = some (.int k)) (x : Operand) :
    VOk P ι w base w0 ((do Pure.pure (Next.value (← convert src dst (ρ x))) : Sem Next).run P w) (vx (.conv k x) ev s) := by
  simp only [vx]
  split
  · rename_i b h
    have hr := he x _ h
    generalize ρ x = y at *
    cases hr
    refine .pure g ?_ (.int _ _)
    simp [convert, run_underlying h1, run_underlying h2, Conv.intToInt]
  · trivial
theorem convS_ok (g : Good ι s w base w0) (he : ∀ x v, ev x = some v → VRel ι v (ρ x)) {src dst : TypeId} (h1 : P.underlying src = some .string) (h2 : P.underlying dst = some .string) (x : Operand) (hs : ∀ v, ev x = some v → ∃ t, v = .string t) :
    VOk P ι w base w0 ((do Pure.pure (Next.value (← convert src dst (ρ x))) : Sem Next).run P w) (vx (.mov x) ev s) := by
  simp only [vx]
  cases h : ev x with
  | none => trivial
  | some v =>
    obtain ⟨t, rfl⟩ := hs v h
    have hr := he x _ h
    generalize ρ x = y at *
    cases hr
    refine .pure g ?_ (.string _)
    simp [convert, run_underlying h1, run_underlying h2]

theorem bin_ok (g : Good ι s w base w0) (he : ∀ x v, ev x = some v → VRel ι v (ρ x)) (op : BinOp) (t : TypeId) (x y : Operand) :
    VOk P ι w base w0 ((do Pure.pure (Next.value (← (do eqGuard op t x y (ρ x) (ρ y); binOp op t (ρ x) (ρ y)))) : Sem Next).run P w) (vx (.bin op x y) ev s) := by
  simp only [vx]
  split
  · rename_i a b ha hb
    have h1 := he x _ ha
    have h2 := he y _ hb
    generalize hA : ρ x = A at *
    generalize hB : ρ y = B at *
    cases hbin : binV op a b with
    | none => trivial
    | some v =>
      simp only
      have : (do Pure.pure (Next.value (← (do eqGuard op t x y A B; binOp op t A B))) : Sem Next).run P w = .ok (.value v) w ∧ VRel ι v v := by
        unfold binV at hbin
        split at hbin
        · rename_i k a k' b
          cases h1; cases h2
          have hg : (eqGuard op t x y (.int k a) (.int k' b)).run P w = .ok () w := by
            unfold eqGuard; split <;> simp
          simp only [Sem.run_bind, hg, Result.andThen_ok]
          cases op <;> simp only at hbin <;> (try split at hbin) <;> (try cases hbin) <;> (try (rename_i hc; try (obtain ⟨hc, hc2⟩ := hc); try subst hc)) <;>
            (refine ⟨?_, by constructor⟩) <;> simp_all [binOp, Op.shift, Op.intArith, Op.intDiv, Op.intBits, Op.intCmp]
          all_goals (intro hlt; omega)
        · rename_i a b
          cases h1; cases h2
          have hg : (eqGuard op t x y (.string a) (.string b)).run P w = .ok () w := by
            unfold eqGuard; split <;> simp
          simp only [Sem.run_bind, hg, Result.andThen_ok]
          cases op <;> simp only at hbin <;> (try split at hbin) <;> (try cases hbin) <;> (refine ⟨?_, by constructor⟩) <;> simp [binOp, Op.stringOp]
          omega
        · cases hbin
      exact .pure g this.1 this.2
  · trivial

theorem mkFunc_ok (g : Good ι s w base w0) (he : ∀ x v, ev x = some v → VRel ι v (ρ x)) (f : FuncId) (fi ca : Array Operand) :
    VOk P ι w base w0 ((do Pure.pure (Next.value (← Instr.makeFunc (.func f) (fi.map ρ) (ca.map ρ))) : Sem Next).run P w) (vx (.mkFunc f fi.toList ca.toList) ev s) := by
  simp only [vx]
  have key : ∀ (l : List Operand) (vs : List Value), getAll ev l = some vs → Rels ι vs (l.map ρ) := by
    intro l
    induction l with
    | nil => intro vs h; simp [getAll] at h; subst h; exact Rels.nil _
    | cons x l ih =>
      intro vs h
      simp only [getAll] at h
      split at h
      · rename_i v vs' h1 h2
        cases h
        exact Rels.cons (he x v h1) (ih _ h2)
      · cases h
  split
  · rename_i vf vc h1 h2
    have r1 := key _ _ h1
    have r2 := key _ _ h2
    refine .pure g (v' := .func (.func f) (fi.map ρ) (ca.map ρ)) (by simp [Instr.makeFunc]) ?_
    refine .func (by simpa using r1.1) (fun i v v' e e' => r1.2 i v v' (by simpa using e) (by simpa using e')) (by simpa using r2.1) (fun i v v' e e' => r2.2 i v v' (by simpa using e) (by simpa using e'))
  · trivial

theorem getAll_rels (he : ∀ x v, ev x = some v → VRel ι v (ρ x)) : ∀ (l : List Operand) (vs : List Value), getAll ev l = some vs → Rels ι vs (l.map ρ)
  | [], vs, h => by simp [getAll] at h; subst h; exact Rels.nil _
  | x :: l, vs, h => by
    simp only [getAll] at h
    split at h
    · rename_i v vs' h1 h2
      cases h
      exact Rels.cons (he x v h1) (getAll_rels he l _ h2)
    · cases h

theorem call_ok (g : Good ι s w base w0) (he : ∀ x v, ev x = some v → VRel ι v (ρ x)) (f : Operand) (az : Array Operand) (ts : Array TypeId) (ty : TypeId) :
    VOk P ι w base w0 ((do let d ← resolve ρ { callee := .value f, args := az, argTypes := ts } ty; invoke d.target d.args : Sem Next).run P w) (vx (.call f az.toList) ev s) := by
  simp only [vx]
  split
  · rename_i fn fi ca vs h1 h2
    have hr := he f _ h1
    have ra := getAll_rels he _ _ h2
    generalize hF : ρ f = F at *
    cases hr with
    | func e1 e2 e3 e4 =>
      rename_i fi' ca'
      refine ⟨fi' ++ az.map ρ ++ ca', ?_, ?_⟩
      · simp [resolve, hF, Deferred.ofValue, invoke]
      · simp only [Array.toList_append, Array.toList_map]
        refine Rels.append (Rels.append ⟨by simpa using e1, fun i v v' e e' => e2 i v v' (by simpa using e) (by simpa using e')⟩ ra) ⟨by simpa using e3, fun i v v' e e' => e4 i v v' (by simpa using e) (by simpa using e')⟩
  · rename_i b _ _ vs h1 h2
    have hr := he f _ h1
    have ra := getAll_rels he _ _ h2
    generalize hF : ρ f = F at *
    cases hr with
    | yield hp =>
      rename_i p
      refine ⟨p, az.map ρ, hp, ?_, by simpa using ra⟩
      simp [resolve, hF, Deferred.ofValue, invoke]
  · trivial

theorem extract_ok (g : Good ι s w base w0) (he : ∀ x v, ev x = some v → VRel ι v (ρ x)) (x : Operand) (i : Nat) :
    VOk P ι w base w0 ((do Pure.pure (Next.value (← Instr.extract (ρ x) i)) : Sem Next).run P w) (vx (.extract x i) ev s) := by
  simp only [vx]
  split
  · rename_i vs h
    have hr := he x _ h
    generalize ρ x = y at *
    cases hr with
    | tuple h1 h2 =>
      rename_i vs'
      cases hv : vs[i]? with
      | none => trivial
      | some v =>
        have hi : i < vs'.size := by rw [← h1]; exact (Array.getElem?_eq_some_iff.1 hv).1
        exact .pure g (v' := vs'[i]) (by simp [Instr.extract, Array.getElem?_eq_getElem hi]) (h2 i v _ hv (Array.getElem?_eq_getElem hi))
  · trivial

theorem fieldAddr_ok (g : Good ι s w base w0) (he : ∀ x v, ev x = some v → VRel ι v (ρ x)) {t : TypeId} {fs : Array Field} {f n : Nat} {fd : Field} (hu : P.underlying t = some (.struct fs)) (hf : fs[f]? = some fd) (hn : szOf P fd.type = some n) (h0 : n ≠ 0) (x : Operand) :
    VOk P ι w base w0 ((do Pure.pure (Next.value (← Instr.fieldAt t (ρ x) f)) : Sem Next).run P w) (vx (.fieldAddr fd.offset x) ev s) := by
  simp only [vx]
  split
  · rename_i b o h
    have hr := he x _ h
    generalize ρ x = y at *
    cases hr with
    | ptr hp =>
      rename_i p
      refine .pure g (v' := .pointer (some ⟨p.B, p.d + (o + fd.offset), none⟩)) ?_ (.ptr hp)
      simp only [Instr.fieldAt, Sem.run_bind, run_underlying hu, Result.andThen_ok, hf, Instr.sureAddr, Sem.run_pure, fieldPlace, sizeOf_run hn]
      rw [if_neg h0]
      simp [Addr.add_none, Nat.add_assoc]
  · trivial

theorem idxArr_ok (g : Good ι s w base w0) (he : ∀ x v, ev x = some v → VRel ι v (ρ x)) {t e : TypeId} {len z : Nat} (hu : P.underlying t = some (.array len e)) (hz : szOf P e = some z) (x i : Operand) :
    VOk P ι w base w0 ((do Pure.pure (Next.value (← Instr.indexAt t (ρ x) (ρ i))) : Sem Next).run P w) (vx (.idxArr len z x i) ev s) := by
  simp only [vx]
  split
  · rename_i b o k n h hi
    have hr := he x _ h
    have hr2 := he i _ hi
    generalize ρ x = y at *
    generalize ρ i = j at *
    cases hr with
    | ptr hp =>
      rename_i p
      cases hr2
      split
      · rename_i hc
        refine .pure g (v' := .pointer (some ⟨p.B, p.d + (o + n.toNat * z), none⟩)) ?_ (.ptr hp)
        simp only [Instr.indexAt, asIntOf, Sem.run_bind, Sem.run_pure, Result.andThen_ok, run_underlying hu, Instr.sureAddr]
        rw [if_pos hc]
        simp [sizeOf_run hz, Addr.add_none, Nat.add_assoc]
      · trivial
  · trivial

theorem idxSl_ok (g : Good ι s w base w0) (he : ∀ x v, ev x = some v → VRel ι v (ρ x)) {t e : TypeId} {z : Nat} (hu : P.underlying t = some (.slice e)) (hz : szOf P e = some z) (x i : Operand) :
    VOk P ι w base w0 ((do Pure.pure (Next.value (← Instr.indexAt t (ρ x) (ρ i))) : Sem Next).run P w) (vx (.idxSl z x i) ev s) := by
  simp only [vx]
  split
  · rename_i b o len c k n h hi
    have hr := he x _ h
    have hr2 := he i _ hi
    generalize ρ x = y at *
    generalize ρ i = j at *
    cases hr with
    | slice hp h1 h2 h3 ho =>
      rename_i C o' p
      cases hr2
      split
      · rename_i hc
        have ho' := ho (by omega)
        subst ho'
        refine .pure g (v' := .pointer (some ⟨p.B, p.d + (o + n.toNat * z), none⟩)) ?_ (.ptr hp)
        simp only [Instr.indexAt, asIntOf, Sem.run_bind, Sem.run_pure, Result.andThen_ok, run_underlying hu]
        rw [if_pos hc]
        simp [sizeOf_run hz, Addr.add_none, Nat.add_assoc]
      · trivial
  · trivial


theorem idxAgg_ok (g : Good ι s w base w0) (he : ∀ x v, ev x = some v → VRel ι v (ρ x)) {t e : TypeId} {len z : Nat} {ag : Bool} (hu : P.underlying t = some (.array len e)) (hz : szOf P e = some z) (ha : aggOf P e = some ag) (x i : Operand) :
    VOk P ι w base w0 ((do Pure.pure (Next.value (← Instr.index t (ρ x) (ρ i))) : Sem Next).run P w) (vx (.idxAgg len z ag x i) ev s) := by
  simp only [vx]
  split
  · rename_i cs k n h hi
    have hr := he x _ h
    have hr2 := he i _ hi
    generalize ρ x = y at *
    generalize ρ i = j at *
    cases hr with
    | agg h1 h2 =>
      rename_i cs'
      cases hr2
      split
      · rename_i hc
        cases ag with
        | true =>
          simp only [if_true]
          split
          · rename_i hle
            refine .pure g (v' := .agg (cs'.extract (n.toNat * z) (n.toNat * z + z))) ?_ (.agg (by simp [h1]) fun i v v' e e' => ?_)
            · simp only [Instr.index, asIntOf, Sem.run_bind, Sem.run_pure, Result.andThen_ok, run_underlying hu]
              rw [if_pos hc]
              simp [sizeOf_run hz, part, isAgg_run ha]
            · rw [Array.getElem?_extract] at e e'
              split at e
              · split at e'
                · exact h2 _ v v' e e'
                · cases e'
              · cases e
          · trivial
        | false =>
          simp only [Bool.false_eq_true, if_false]
          cases hv : cs[n.toNat * z]? with
          | none => trivial
          | some v =>
            have hi : n.toNat * z < cs'.size := by rw [← h1]; exact (Array.getElem?_eq_some_iff.1 hv).1
            refine .pure g (v' := cs'[n.toNat * z]) ?_ (h2 _ v _ hv (Array.getElem?_eq_getElem hi))
            simp only [Instr.index, asIntOf, Sem.run_bind, Sem.run_pure, Result.andThen_ok, run_underlying hu]
            rw [if_pos hc]
            simp [sizeOf_run hz, part, isAgg_run ha, Array.getElem?_eq_getElem hi]
      · trivial
  · trivial

theorem idxStr_ok (g : Good ι s w base w0) (he : ∀ x v, ev x = some v → VRel ι v (ρ x)) {t : TypeId} (hu : P.underlying t = some .string) (x i : Operand) :
    VOk P ι w base w0 ((do Pure.pure (Next.value (← Instr.index t (ρ x) (ρ i))) : Sem Next).run P w) (vx (.idxStr x i) ev s) := by
  simp only [vx]
  split
  · rename_i cs k n h hi
    have hr := he x _ h
    have hr2 := he i _ hi
    generalize ρ x = y at *
    generalize ρ i = j at *
    cases hr
    cases hr2
    split
    · rename_i hc
      split
      · rename_i c hb
        refine .pure g ?_ (.int _ _)
        simp only [Instr.index, asIntOf, Sem.run_bind, Sem.run_pure, Result.andThen_ok, run_underlying hu]
        rw [if_pos hc, hb]
        simp
      · trivial
    · trivial
  · trivial

theorem field_ok (g : Good ι s w base w0) (he : ∀ x v, ev x = some v → VRel ι v (ρ x)) {t : TypeId} {fs : Array Field} {f n : Nat} {fd : Field} {ag : Bool} (hu : P.underlying t = some (.struct fs)) (hf : fs[f]? = some fd) (hn : szOf P fd.type = some n) (ha : aggOf P fd.type = some ag) (x : Operand) :
    VOk P ι w base w0 ((do Pure.pure (Next.value (← Instr.field t (ρ x) f)) : Sem Next).run P w) (vx (.field fd.offset n ag x) ev s) := by
  simp only [vx]
  split
  · rename_i cs h
    have hr := he x _ h
    generalize ρ x = y at *
    cases hr with
    | agg h1 h2 =>
      rename_i cs'
      cases ag with
      | true =>
        simp only [if_true]
        split
        · rename_i hle
          refine .pure g (v' := .agg (cs'.extract fd.offset (fd.offset + n))) ?_ (.agg (by simp [h1]) fun i v v' e e' => ?_)
          · simp only [Instr.field, Sem.run_bind, run_underlying hu, Result.andThen_ok, hf, asAgg, Sem.run_pure, part, isAgg_run ha, if_true, sizeOf_run hn]
          · rw [Array.getElem?_extract] at e e'
            split at e
            · split at e'
              · exact h2 _ v v' e e'
              · cases e'
            · cases e
        · trivial
      | false =>
        simp only [Bool.false_eq_true, if_false]
        cases hv : cs[fd.offset]? with
        | none => trivial
        | some v =>
          have hi : fd.offset < cs'.size := by rw [← h1]; exact (Array.getElem?_eq_some_iff.1 hv).1
          refine .pure g (v' := cs'[fd.offset]) ?_ (h2 _ v _ hv (Array.getElem?_eq_getElem hi))
          simp [Instr.field, run_underlying hu, hf, asAgg, part, isAgg_run ha, Array.getElem?_eq_getElem hi]
  · trivial

theorem nilCheck_ok (g : Good ι s w base w0) (he : ∀ x v, ev x = some v → VRel ι v (ρ x)) (o : Oper) (x : Operand) (ho : o.op = .nilCheck x) :
    VOk P ι w base w0 ((execOp ρ o).run P w) (vx (.nilCheck x) ev s) := by
  simp only [vx]
  split
  · rename_i a h
    have hr := he x _ h
    simp only [execOp, ho]
    generalize ρ x = y at *
    cases hr with
    | ptr hp => exact .pure g (by simp) (.ptr hp)
  · rename_i f fi ca h
    have hr := he x _ h
    simp only [execOp, ho]
    generalize ρ x = y at *
    cases hr with
    | func h1 h2 h3 h4 => exact .pure g (by simp) (.func h1 h2 h3 h4)
  · trivial

theorem arrPtr_ok (g : Good ι s w base w0) (he : ∀ x v, ev x = some v → VRel ι v (ρ x)) {t e : TypeId} {n : Nat} (hu : P.underlying t = some (.array n e)) (h0 : 0 < n) (x : Operand) :
    VOk P ι w base w0 ((do Pure.pure (Next.value (← Instr.arrayAt t (ρ x))) : Sem Next).run P w) (vx (.arrPtr n x) ev s) := by
  simp only [vx]
  split
  · rename_i a m c h
    have hr := he x _ h
    generalize ρ x = y at *
    cases hr with
    | slice hp h1 h2 h3 ho =>
      rename_i C o' p
      split
      · rename_i hc
        have ho' := ho (by omega)
        subst ho'
        refine .pure g ?_ (.ptr hp)
        simp only [Instr.arrayAt, Sem.run_bind, run_underlying hu, Result.andThen_ok]
        rw [if_neg (by omega)]
        simp
      · trivial
  · trivial

theorem lenSl_ok (g : Good ι s w base w0) (he : ∀ x v, ev x = some v → VRel ι v (ρ x)) {t ty e : TypeId} (hu : P.underlying t = some (.slice e)) (x : Operand) :
    VOk P ι w base w0 ((do Pure.pure (Next.value (← Builtin.len_ #[t] ty #[ρ x])) : Sem Next).run P w) (vx (.lenSl x) ev s) := by
  simp only [vx]
  split
  · rename_i a n c h
    have hr := he x _ h
    generalize ρ x = y at *
    cases hr with
    | sliceNil c => exact .pure g (by simp [Builtin.len_, run_underlying hu, goInt]) (.int _ _)
    | slice hp h1 h2 h3 ho => exact .pure g (by simp [Builtin.len_, run_underlying hu, goInt]) (.int _ _)
  · trivial
theorem lenStr_ok (g : Good ι s w base w0) (he : ∀ x v, ev x = some v → VRel ι v (ρ x)) {t ty : TypeId} (hu : P.underlying t = some .string) (x : Operand) :
    VOk P ι w base w0 ((do Pure.pure (Next.value (← Builtin.len_ #[t] ty #[ρ x])) : Sem Next).run P w) (vx (.lenStr x) ev s) := by
  simp only [vx]
  split
  · rename_i a h
    have hr := he x _ h
    generalize ρ x = y at *
    cases hr
    exact .pure g (by simp [Builtin.len_, run_underlying hu, goInt]) (.int _ _)
  · trivial

theorem minmax_ok (g : Good ι s w base w0) (he : ∀ x v, ev x = some v → VRel ι v (ρ x)) (ts : Array TypeId) (ty : TypeId) (b : Bool) (x y : Operand) :
    VOk P ι w base w0 ((do Pure.pure (Next.value (← (if b then Builtin.max_ ts ty #[ρ x, ρ y] else Builtin.min_ ts ty #[ρ x, ρ y]))) : Sem Next).run P w) (vx (.minmax b x y) ev s) := by
  simp only [vx]
  cases h1 : ev x with
  | none => trivial
  | some a =>
    cases h2 : ev y with
    | none => cases a <;> trivial
    | some c =>
      have r1 := he x _ h1
      have r2 := he y _ h2
      generalize ρ x = X at *
      generalize ρ y = Y at *
      cases r1 <;> cases r2 <;> first | trivial | skip
      cases b
      · exact .pure g (by simp [run_min_int2]) (.int _ _)
      · exact .pure g (by simp [run_max_int2]) (.int _ _)

/-! ### == -/
theorem cellK_spec {t : TypeId} {k : CK} (h : cellK P t = some k) : (k = .int ∧ ∃ i, P.underlying t = some (.int i)) ∨ (k = .bool ∧ P.underlying t = some .bool) ∨ (k = .str ∧ P.underlying t = some .string) := by
  unfold cellK at h
  split at h <;> cases h
  · rename_i i hi; exact .inl ⟨rfl, i, hi⟩
  · rename_i hi; exact .inr (.inl ⟨rfl, hi⟩)
  · rename_i hi; exact .inr (.inr ⟨rfl, hi⟩)

theorem eqCell_run {t : TypeId} {k : CK} (h : cellK P t = some k) {x y x' y' : Value} {r : Bool} (hx : VRel ι x x') (hy : VRel ι y y') (he : eqCell k x y = some r) (d : Nat) (w : World) :
    (Op.equalIn (d + 1) t x' y').run P w = .ok r w := by
  rcases cellK_spec h with ⟨rfl, i, hu⟩ | ⟨rfl, hu⟩ | ⟨rfl, hu⟩
  · cases hx <;> first | (simp [eqCell] at he; done) | skip
    cases hy <;> first | (simp [eqCell] at he; done) | skip
    simp only [eqCell] at he
    split at he
    · rename_i hk; subst hk; cases he; exact run_equalIn_int w d t _ _ _ _ hu
    · cases he
  · cases hx <;> first | (simp [eqCell] at he; done) | skip
    cases hy <;> first | (simp [eqCell] at he; done) | skip
    simp only [eqCell] at he
    cases he; exact run_equalIn_bool' w d t _ _ hu
  · cases hx <;> first | (simp [eqCell] at he; done) | skip
    cases hy <;> first | (simp [eqCell] at he; done) | skip
    simp only [eqCell] at he
    cases he; exact run_equalIn_string w d t _ _ hu

theorem part1_run {t : TypeId} {k : CK} (h : cellK P t = some k) {cs : Array Value} {o : Nat} {v : Value} (hv : cs[o]? = some v) (w : World) : (part t cs o).run P w = .ok v w := by
  have ha : aggOf P t = some false := by
    unfold aggOf
    rcases cellK_spec h with ⟨_, i, hu⟩ | ⟨_, hu⟩ | ⟨_, hu⟩ <;> simp [hu]
  simp [part, isAgg_run ha, hv]

theorem eqFields_run : ∀ (fs : List Field) (ks : List CK) (i : Nat) (xs ys : List Value) (xs' ys' : Array Value) (r : Bool), fieldKs P fs i = some ks → Rels ι xs (xs'.toList.drop i) → Rels ι ys (ys'.toList.drop i) → eqCells ks xs ys = some r → ∀ (d : Nat) (w : World),
    (Op.eqFields (d + 1) xs' ys' fs).run P w = .ok r w
  | [], ks, i, xs, ys, xs', ys', r, hk, hx, hy, he, d, w => by
    simp [fieldKs] at hk; subst hk
    cases xs <;> cases ys <;> simp [eqCells] at he
    subst he; simp [Op.eqFields]
  | f :: fs, ks, i, xs, ys, xs', ys', r, hk, hx, hy, he, d, w => by
    simp only [fieldKs] at hk
    split at hk
    · rename_i hc
      split at hk
      · rename_i k ks' h1 h2
        cases hk
        cases xs with
        | nil => simp [eqCells] at he
        | cons x xs =>
          cases ys with
          | nil => simp [eqCells] at he
          | cons y ys =>
            simp only [eqCells] at he
            split at he
            · rename_i a b ha hb
              cases he
              obtain ⟨x', ex, rx⟩ := hx.get (i := 0) rfl
              obtain ⟨y', ey, ry⟩ := hy.get (i := 0) rfl
              rw [List.getElem?_drop] at ex ey
              simp only [Nat.add_zero, Array.getElem?_toList] at ex ey
              have ih := eqFields_run fs ks' (i + 1) xs ys xs' ys' b h2
                ⟨by have := hx.1; simp at this ⊢; omega, fun j v v' e e' => hx.2 (j + 1) v v' (by simpa using e) (by rw [← e', List.getElem?_drop, List.getElem?_drop]; congr 1; omega)⟩
                ⟨by have := hy.1; simp at this ⊢; omega, fun j v v' e e' => hy.2 (j + 1) v v' (by simpa using e) (by rw [← e', List.getElem?_drop, List.getElem?_drop]; congr 1; omega)⟩ hb d w
              simp only [Op.eqFields]
              rw [if_pos hc.2]
              simp only [Sem.run_bind, hc.1, part1_run h1 ex, part1_run h1 ey, Result.andThen_ok, eqCell_run h1 rx ry ha]
              cases a
              · simp
              · simp [ih]
            · cases he
      · cases hk
    · cases hk

theorem eqArr_run {e : TypeId} {k : CK} (hk : cellK P e = some k) (d : Nat) (xs' ys' : Array Value) : ∀ (n i : Nat) (xs ys : List Value) (r : Bool), Rels ι xs (xs'.toList.drop i) → Rels ι ys (ys'.toList.drop i) → eqCells (List.replicate n k) xs ys = some r → ∀ (w : World),
    (forIn (m := Sem) (List.range' i n) (none, ()) (fun j (_ : Option Bool × Unit) => (do
        if !(← Op.equalIn (d + 1) e (← part e xs' (j * 1)) (← part e ys' (j * 1))) then Pure.pure (ForInStep.done (some false, ())) else Pure.pure (ForInStep.yield (none, ())) : Sem (ForInStep (Option Bool × Unit))))).run P w
      = .ok (if r then (none, ()) else (some false, ())) w
  | 0, i, xs, ys, r, hx, hy, he, w => by
    cases xs <;> cases ys <;> simp [eqCells] at he
    subst he; simp
  | n + 1, i, xs, ys, r, hx, hy, he, w => by
    rw [List.replicate_succ] at he
    cases xs with
    | nil => simp [eqCells] at he
    | cons x xs =>
      cases ys with
      | nil => simp [eqCells] at he
      | cons y ys =>
        simp only [eqCells] at he
        split at he
        · rename_i a b ha hb
          cases he
          obtain ⟨x', ex, rx⟩ := hx.get (i := 0) rfl
          obtain ⟨y', ey, ry⟩ := hy.get (i := 0) rfl
          rw [List.getElem?_drop] at ex ey
          simp only [Nat.add_zero, Array.getElem?_toList] at ex ey
          have ih := eqArr_run hk d xs' ys' n (i + 1) xs ys b
            ⟨by have := hx.1; simp at this ⊢; omega, fun j v v' e e' => hx.2 (j + 1) v v' (by simpa using e) (by rw [← e', List.getElem?_drop, List.getElem?_drop]; congr 1; omega)⟩
            ⟨by have := hy.1; simp at this ⊢; omega, fun j v v' e e' => hy.2 (j + 1) v v' (by simpa using e) (by rw [← e', List.getElem?_drop, List.getElem?_drop]; congr 1; omega)⟩ hb w
          rw [List.range'_succ, List.forIn_cons]
          simp only [Sem.run_bind, Nat.mul_one, part1_run hk ex, part1_run hk ey, Result.andThen_ok, eqCell_run hk rx ry ha, Sem.run_ite]
          cases a
          · simp
          · simpa using ih
        · cases he

end
end Go.Vm
