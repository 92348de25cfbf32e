/- Every operation that is resolved. -/
import Derived.Test.YtjandhdjjbfgcaaDoorV8
set_option linter.unusedSectionVars false
set_option linter.unusedSimpArgs false
set_option linter.unusedVariables false
/- Every operation that is resolved. -/
namespace Go.Vm
open Go.RowKit (Below)
variable [Laid]
section
variable {P : Program} {ι : Emb} {s : St} {w : World} {base : Nat} {w0 : World} {ev : Operand → Option Value} {ρ : Operand → Value}

theorem convStr_ok (g : Good ι s w base w0) (he : ∀ x v, ev x = some v → VRel ι v (ρ x)) {src dst : TypeId} (h1 : P.underlying src = some .string) (h2 : P.underlying dst = some .string) (x : Operand) :
    VOk P ι w base w0 ((do Pure.pure (Next.value (← convert src dst (ρ x))) : Sem Next).run P w) (vx (.convStr x) ev s) := by
  simp only [vx]
  split
  · rename_i t h
    have hr := he x _ h
    generalize ρ x = y at *
    cases hr
    refine .pure g ?_ (.string _)
    simp [convert, run_underlying h1, run_underlying h2]
  · trivial

theorem op_sound (g : Good ι s w base w0) (he : ∀ x v, ev x = some v → VRel ι v (ρ x)) {o : Oper} {vo : VOp} (hc : comp P o = some vo) :
    VOk P ι w base w0 ((execOp ρ o).run P w) (vx vo ev s) := by
  cases hop : o.op with
  | move x => simp only [comp, hop] at hc; cases hc; simp only [execOp, hop]; exact mov_ok g he x
  | assign x => simp only [comp, hop] at hc; cases hc; simp only [execOp, hop]; exact mov_ok g he x
  | pick c a b => simp only [comp, hop] at hc; cases hc; simp only [execOp, hop]; exact pick_ok g he c a b
  | alloc t =>
    simp only [comp, hop, Option.map_eq_some_iff] at hc
    obtain ⟨z, hz, rfl⟩ := hc
    simp only [execOp, hop]; exact alloc_ok g hz
  | box t x => simp only [comp, hop] at hc; cases hc; simp only [execOp, hop]; exact box_ok g he t x
  | build t ps =>
    simp only [comp, hop] at hc
    split at hc
    · rename_i fs z hu hz
      split at hc
      · rename_i hall
        simp only [Option.map_eq_some_iff] at hc
        obtain ⟨qs, hq, rfl⟩ := hc
        simp only [execOp, hop]; exact build_struct_ok g he hu hz hall hq
      · cases hc
    · rename_i k e z hu hz
      simp only [Option.map_eq_some_iff] at hc
      obtain ⟨n, hn, rfl⟩ := hc
      simp only [execOp, hop]; exact build_array_ok g he hu hz hn
    · cases hc
  | buildSlice t len ps =>
    simp only [comp, hop] at hc
    split at hc
    · rename_i e hu
      split at hc
      · rename_i n z hn hz
        split at hc
        · rename_i hcond
          cases hc
          simp only [execOp, hop]; exact buildSlice_ok g he hu hz hn hcond.1 hcond.2
        · cases hc
      · cases hc
    · cases hc
  | insert t m k x =>
    simp only [comp, hop] at hc
    split at hc
    · rename_i kt e hu
      simp only [Option.map_eq_some_iff] at hc
      obtain ⟨q, hq, rfl⟩ := hc
      simp only [execOp, hop]; exact mapUpdate_ok g he hu hq m k x
    · cases hc
  | load t a =>
    simp only [comp, hop] at hc
    split at hc
    · rename_i n ha hn; cases hc; simp only [execOp, hop]; exact loadN_ok g he ha hn a
    · rename_i n ha hn; cases hc; simp only [execOp, hop]; exact load1_ok g he ha a
    · cases hc
  | store t a x =>
    simp only [comp, hop, Option.map_eq_some_iff] at hc
    obtain ⟨n, hn, rfl⟩ := hc
    simp only [execOp, hop]; exact store_ok g he hn a x
  | nilCheck x => simp only [comp, hop] at hc; cases hc; exact nilCheck_ok g he o x hop
  | binOp op t x y yt =>
    simp only [comp, hop] at hc
    split at hc
    · cases hc; simp only [execOp, hop]; exact bin_ok g he op t x y
    · cases hc; simp only [execOp, hop]; exact bin_ok g he op t x y
    · rename_i d h1 h2 hu
      have hni : ∀ k, P.underlying t ≠ some (.int k) := fun k e => by rw [hu] at e; cases e; exact h1 k rfl
      have hns : P.underlying t ≠ some .string := fun e => by rw [hu] at e; cases e; exact h2 rfl
      split at hc
      · simp only [Option.map_eq_some_iff] at hc
        obtain ⟨q, hq, rfl⟩ := hc
        simp only [execOp, hop]; exact eqb_ok g he hq hni hns false x y
      · simp only [Option.map_eq_some_iff] at hc
        obtain ⟨q, hq, rfl⟩ := hc
        simp only [execOp, hop]; exact eqb_ok g he hq hni hns true x y
      · cases hc
    · cases hc
  | unOp op t x =>
    cases op <;> simp only [comp, hop] at hc <;> cases hc
    · simp only [execOp, hop]; exact neg_ok g he x
    · simp only [execOp, hop]; exact not_ok g he x
  | convert src dst x =>
    simp only [comp, hop] at hc
    split at hc
    · rename_i k' k h1 h2; cases hc; simp only [execOp, hop]; exact conv_ok g he h1 h2 x
    · rename_i h1 h2; cases hc; simp only [execOp, hop]; exact convStr_ok g he h1 h2 x
    · cases hc
    · cases hc
  | sliceToArrayPointer arr x =>
    simp only [comp, hop] at hc
    split at hc
    · rename_i n e hu
      split at hc
      · rename_i h0; cases hc; simp only [execOp, hop]; exact arrPtr_ok g he hu h0 x
      · cases hc
    · cases hc
  | makeFunc fn fi ca =>
    cases fn <;> simp only [comp, hop] at hc <;> cases hc
    simp only [execOp, hop]; exact mkFunc_ok g he _ fi ca
  | makeMap t r =>
    cases r <;> simp only [comp, hop] at hc <;> cases hc
    simp only [execOp, hop]; exact mkMap_ok g t
  | makeSlice t l c =>
    simp only [comp, hop] at hc
    split at hc
    · rename_i e hu
      split at hc
      · rename_i n z i hn hz hi
        split at hc
        · rename_i hcond
          cases hc; simp only [execOp, hop]; exact mkSlice_ok g he hu hn hz hi hcond.1 hcond.2 l c
        · cases hc
      · cases hc
    · cases hc
  | slice t x lo hi mx =>
    simp only [comp, hop] at hc
    split at hc
    · rename_i e hu
      simp only [Option.bind_eq_some_iff] at hc
      obtain ⟨n, hn, hc⟩ := hc
      split at hc
      · rename_i hmx; cases hc; simp only [execOp, hop]; exact sliceSl_ok g he hu hn x lo hi mx hmx
      · cases hc
    · rename_i n e hu
      simp only [Option.bind_eq_some_iff] at hc
      obtain ⟨z, hz, hc⟩ := hc
      split at hc
      · rename_i hcond; cases hc; simp only [execOp, hop]; exact sliceArr_ok g he hu hz hcond.1 x lo hi mx hcond.2
      · cases hc
    · rename_i hu
      split at hc
      · cases hc; simp only [execOp, hop]; exact sliceStr_ok g he hu x lo hi
      · cases hc
    · cases hc
  | fieldAddr t x f =>
    simp only [comp, hop] at hc
    split at hc
    · rename_i fs hu
      split at hc
      · rename_i fd hf
        split at hc
        · rename_i n hn
          split at hc
          · rename_i h0; cases hc; simp only [execOp, hop]; exact fieldAddr_ok g he hu hf hn h0 x
          · cases hc
        · cases hc
      · cases hc
    · cases hc
  | field t x f =>
    simp only [comp, hop] at hc
    split at hc
    · rename_i fs hu
      split at hc
      · rename_i fd hf
        split at hc
        · rename_i n ag hn ha; cases hc; simp only [execOp, hop]; exact field_ok g he hu hf hn ha x
        · cases hc
      · cases hc
    · cases hc
  | indexAddr t x i =>
    simp only [comp, hop] at hc
    split at hc
    · rename_i n e hu
      simp only [Option.map_eq_some_iff] at hc
      obtain ⟨z, hz, rfl⟩ := hc
      simp only [execOp, hop]; exact idxArr_ok g he hu hz x i
    · rename_i e hu
      simp only [Option.map_eq_some_iff] at hc
      obtain ⟨z, hz, rfl⟩ := hc
      simp only [execOp, hop]; exact idxSl_ok g he hu hz x i
    · cases hc
  | index t x i =>
    simp only [comp, hop] at hc
    split at hc
    · rename_i n e hu
      split at hc
      · rename_i z ag hz ha; cases hc; simp only [execOp, hop]; exact idxAgg_ok g he hu hz ha x i
      · cases hc
    · rename_i hu; cases hc; simp only [execOp, hop]; exact idxStr_ok g he hu x i
    · cases hc
  | lookup t m k ok =>
    simp only [comp, hop] at hc
    split at hc
    · rename_i kt e hu
      split at hc
      · rename_i q z hq hz; cases hc; simp only [execOp, hop]; exact lookup_ok g he hu hq hz m k ok
      · cases hc
    · cases hc
  | mapUpdate t m k x =>
    simp only [comp, hop] at hc
    split at hc
    · rename_i kt e hu
      simp only [Option.map_eq_some_iff] at hc
      obtain ⟨q, hq, rfl⟩ := hc
      simp only [execOp, hop]; exact mapUpdate_ok g he hu hq m k x
    · cases hc
  | mapEntry t m k =>
    simp only [comp, hop] at hc
    split at hc
    · rename_i kt e hu
      split at hc
      · rename_i q z hq hz; cases hc; simp only [execOp, hop]; exact mapEntry_ok g he hu hq hz m k
      · cases hc
    · cases hc
  | entryStore t m st x => simp only [comp, hop] at hc; cases hc; simp only [execOp, hop]; exact entryStore_ok g he t m st x
  | range t m =>
    simp only [comp, hop] at hc
    split at hc
    · rename_i a b hu; cases hc; simp only [execOp, hop]; exact range_ok g he hu m
    · cases hc
  | next it isS =>
    cases isS <;> simp only [comp, hop] at hc <;> cases hc
    simp only [execOp, hop]; exact next_ok g he it o.type
  | entry it => simp only [comp, hop] at hc; cases hc; simp only [execOp, hop]; exact entry_ok g he it
  | extract x i => simp only [comp, hop] at hc; cases hc; simp only [execOp, hop]; exact extract_ok g he x i
  | call c =>
    obtain ⟨callee, args, ts⟩ := c
    cases callee with
    | value f => simp only [comp, hop] at hc; cases hc; simp only [execOp, hop]; exact call_ok g he f args ts o.type
    | invoke r m => simp [comp, hop] at hc
    | builtin b =>
      cases b <;> simp only [comp, hop] at hc <;> (try (cases hc; done))
      · -- append
        split at hc
        · rename_i x y t u hx ht
          split at hc
          · rename_i e e' hu hu'
            split at hc
            · rename_i n z i hn hz hi
              split at hc
              · rename_i hcond
                cases hc
                obtain ⟨args⟩ := args; obtain ⟨ts⟩ := ts
                simp only at hx ht; subst hx ht
                simp only [execOp, hop, resolve, invoke, builtin, Sem.run_bind, Sem.run_pure, Result.andThen_ok, List.map_toArray, List.map_cons, List.map_nil]
                have := append_ok (ty := o.type) g he hu hu' hn hz hi hcond.1 hcond.2.1 hcond.2.2 x y
                simpa only [Sem.run_bind, Sem.run_pure] using this
              · cases hc
            · cases hc
          · cases hc
        · cases hc
      · -- len
        split at hc
        · rename_i x t hx ht
          obtain ⟨args⟩ := args; obtain ⟨ts⟩ := ts
          simp only at hx ht; subst hx ht
          split at hc
          · rename_i e hu
            cases hc
            have := lenSl_ok (ty := o.type) g he hu x
            simp only [execOp, hop, resolve, invoke, builtin, Sem.run_bind, Sem.run_pure, Result.andThen_ok, List.map_toArray, List.map_cons, List.map_nil]
            simpa only [Sem.run_bind, Sem.run_pure] using this
          · rename_i hu
            cases hc
            have := lenStr_ok (ty := o.type) g he hu x
            simp only [execOp, hop, resolve, invoke, builtin, Sem.run_bind, Sem.run_pure, Result.andThen_ok, List.map_toArray, List.map_cons, List.map_nil]
            simpa only [Sem.run_bind, Sem.run_pure] using this
          · rename_i a b hu
            cases hc
            have := lenMap_ok (ty := o.type) g he hu x
            simp only [execOp, hop, resolve, invoke, builtin, Sem.run_bind, Sem.run_pure, Result.andThen_ok, List.map_toArray, List.map_cons, List.map_nil]
            simpa only [Sem.run_bind, Sem.run_pure] using this
          · cases hc
        · cases hc
      · -- max
        split at hc
        · rename_i x y hx
          obtain ⟨args⟩ := args
          simp only at hx; subst hx
          cases hc
          have := minmax_ok (P := P) g he ts o.type true x y
          simp only [execOp, hop, resolve, invoke, builtin, Sem.run_bind, Sem.run_pure, Result.andThen_ok, List.map_toArray, List.map_cons, List.map_nil]
          simpa only [Sem.run_bind, Sem.run_pure, if_true] using this
        · cases hc
      · -- min
        split at hc
        · rename_i x y hx
          obtain ⟨args⟩ := args
          simp only at hx; subst hx
          cases hc
          have := minmax_ok (P := P) g he ts o.type false x y
          simp only [execOp, hop, resolve, invoke, builtin, Sem.run_bind, Sem.run_pure, Result.andThen_ok, List.map_toArray, List.map_cons, List.map_nil]
          simpa only [Sem.run_bind, Sem.run_pure, Bool.false_eq_true, if_false] using this
        · cases hc
  | _ => simp [comp, hop] at hc

end
end Go.Vm
