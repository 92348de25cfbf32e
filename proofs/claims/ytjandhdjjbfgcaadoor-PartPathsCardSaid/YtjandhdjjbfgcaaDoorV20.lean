/- Calls whose arguments hold no pointers: from the empty state; the law's own call. -/
import Derived.Test.YtjandhdjjbfgcaaDoorV19
set_option linter.unusedSectionVars false
set_option linter.unusedSimpArgs false
set_option linter.unusedVariables false
/- Calls whose arguments hold no pointers: from the empty state; the law's own call. -/
namespace Go.Vm
open Go.RowKit (Below)
variable [Laid]
variable {P : Program}

def atom : Value → Bool
  | .bool _ | .int _ _ | .string _ => true
  | _ => false
def flat1 : Value → Bool
  | .bool _ | .int _ _ | .string _ | .pointer none | .map none | .nilFunc | .nilIface => true
  | .slice none 0 0 => true
  | .agg cs => cs.toList.all atom
  | _ => false
/-- Values without places. -/
def flat : Value → Bool
  | .bool _ | .int _ _ | .string _ | .pointer none | .map none | .nilFunc | .nilIface => true
  | .slice none 0 0 => true
  | .agg cs => cs.toList.all flat1
  | .tuple cs => cs.toList.all flat1
  | _ => false

theorem rel_atom {κ : Emb} {v v' : Value} (h : VRel κ v v') (ha : atom v = true) : v' = v := by
  cases h <;> first | rfl | cases ha

theorem rel_arr {κ : Emb} {cs cs' : Array Value} (h1 : cs.size = cs'.size) (h2 : ∀ (i : Nat) (v v' : Value), cs[i]? = some v → cs'[i]? = some v' → VRel κ v v') (p : Value → Bool) (hp : ∀ v v', VRel κ v v' → p v = true → v' = v) (ha : cs.toList.all p = true) : cs' = cs := by
  refine Array.ext h1.symm fun i hi hi' => ?_
  have hm : cs[i] ∈ cs.toList := by simp
  exact hp _ _ (h2 i _ _ (Array.getElem?_eq_getElem hi') (Array.getElem?_eq_getElem hi)) (List.all_eq_true.1 ha _ hm)

theorem rel_flat1 {κ : Emb} {v v' : Value} (h : VRel κ v v') (ha : flat1 v = true) : v' = v := by
  cases h <;> try (first | rfl | cases ha)
  case sliceNil c => cases c <;> first | rfl | cases ha
  case agg cs cs' h1 h2 =>
    have := rel_arr h1 h2 _ (fun v v' h hp => rel_atom h hp) ha
    rw [this]
theorem rel_flat {κ : Emb} {v v' : Value} (h : VRel κ v v') (ha : flat v = true) : v' = v := by
  cases h <;> try (first | rfl | cases ha)
  case sliceNil c => cases c <;> first | rfl | cases ha
  case agg cs cs' h1 h2 => rw [rel_arr h1 h2 _ (fun v v' h hp => rel_flat1 h hp) ha]
  case tuple cs cs' h1 h2 => rw [rel_arr h1 h2 _ (fun v v' h hp => rel_flat1 h hp) ha]

theorem atom_rel {κ κ' : Emb} {v v' : Value} (h : VRel κ v v') (hp : atom v = true) : VRel κ' v v' := by
  cases h <;> first | exact .bool _ | exact .int _ _ | exact .string _ | cases hp
theorem flat1_rel {κ κ' : Emb} {v v' : Value} (h : VRel κ v v') (hp : flat1 v = true) : VRel κ' v v' := by
  cases h <;> try (first | exact .bool _ | exact .int _ _ | exact .string _ | exact .ptrNil | exact .mapNil | exact .nilFunc | exact .nilIface | exact .sliceNil _ | (cases hp; done))
  case agg cs cs' h1 h2 =>
    exact .agg h1 fun i v v' e e' => atom_rel (h2 i v v' e e') (List.all_eq_true.1 hp v (Array.mem_toList_iff.2 (Array.mem_of_getElem? e)))
theorem flat_rel {κ κ' : Emb} {v v' : Value} (h : VRel κ v v') (hp : flat v = true) : VRel κ' v v' := by
  cases h <;> try (first | exact .bool _ | exact .int _ _ | exact .string _ | exact .ptrNil | exact .mapNil | exact .nilFunc | exact .nilIface | exact .sliceNil _ | (cases hp; done))
  case agg cs cs' h1 h2 =>
    exact .agg h1 fun i v v' e e' => flat1_rel (h2 i v v' e e') (List.all_eq_true.1 hp v (Array.mem_toList_iff.2 (Array.mem_of_getElem? e)))
  case tuple cs cs' h1 h2 =>
    exact .tuple h1 fun i v v' e e' => flat1_rel (h2 i v v' e e') (List.all_eq_true.1 hp v (Array.mem_toList_iff.2 (Array.mem_of_getElem? e)))

theorem rels_flat {κ : Emb} {vs vs' : List Value} (h : Rels κ vs vs') (ha : vs.all flat = true) : vs' = vs := by
  refine List.ext_getElem h.1.symm fun i hi hi' => ?_
  exact rel_flat (h.2 i _ _ (List.getElem?_eq_getElem hi') (List.getElem?_eq_getElem hi)) (List.all_eq_true.1 ha _ (List.getElem_mem _))
theorem rels_flat' {κ κ' : Emb} {vs : List Value} (h : Rels κ vs vs) (ha : vs.all flat = true) : Rels κ' vs vs :=
  ⟨rfl, fun i v v' e e' => by
    rw [e] at e'; cases e'
    exact flat_rel (h.2 i v v e e) (List.all_eq_true.1 ha v (List.mem_of_getElem? e))⟩

def St.empty : St := ⟨0, .nil⟩
@[simp] theorem St.empty_get (b : Nat) : St.empty.get b = none := rfl

theorem good_empty {w : World} (hl : Laid.says w.heap.size w) : Good (fun _ => none) St.empty w w.heap.size w where
  below := Below.refl _ _
  le := Nat.le_refl _
  fresh := fun _ _ => ⟨rfl, rfl⟩
  blk := fun b o h => by simp at h
  inj := fun b b' o o' p p' h => by simp at h
  dom := fun b p h => by cases h
  laid := hl

/-- A call with plain arguments and a plain result: known from the empty state, it is known from every state, and leaves it. -/
theorem VCalls.pure {f : FuncId} {args : List Value} {Q : Value → Prop} (ha : args.all flat = true) (h : VCalls P f args St.empty fun v _ => flat v = true ∧ Q v) (s : St) : VCalls P f args s fun v t => Q v ∧ t = s := by
  refine ⟨h.1, fun ι base w0 w args' g hr => ?_⟩
  have hargs := rels_flat hr ha
  have g0 := good_empty (Laid.mono g.laid g.below g.le)
  refine (h.2 _ _ _ w args' g0 (by rw [hargs] at hr ⊢; exact rels_flat' hr ha)).mono ?_
  rintro e w' ⟨v, v', s', κ, rfl, ⟨k1, k2⟩, k3, k4, k5⟩
  have hv := rel_flat k4 k1
  subst hv
  exact ⟨v', v', s, ι, rfl, ⟨k2, rfl⟩, Emb.le_refl ι, flat_rel k4 k1, g.grow k5.below⟩

/-- The law's own call, at plain arguments. -/
theorem VCalls.law {f : FuncId} {args : Array Value} (ha : args.toList.all flat = true) (hs : ∀ κ : Emb, Rels κ args.toList args.toList) (h : VCalls P f args.toList St.empty fun v _ => v = .bool true) {w : World} (hl : Laid.says w.heap.size w) :
    Calls P f args w fun e w' => e = .returned (.bool true) ∧ Below w.heap.size w w' := by
  refine (h.2 _ _ _ w args (good_empty hl) (hs _)).mono ?_
  rintro e w' ⟨v, v', s', κ, rfl, rfl, k3, k4, k5⟩
  cases k4
  exact ⟨rfl, k5.below⟩
end Go.Vm
