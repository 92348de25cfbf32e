/- A region that draws its order: one run of ours, in an order of its own, serves every order of the model's. -/
import Derived.Test.YtjandhdjjbfgcaaDoorV11
set_option linter.unusedSectionVars false
set_option linter.unusedSimpArgs false
set_option linter.unusedVariables false
/- A region that draws its order: one run of ours, in an order of its own, serves every order of the model's. -/
namespace Go.Vm
open Go.RowKit (Below)

def optL : Option Operand → List Operand
  | none => []
  | some x => [x]

def VOp.opnds : VOp → List Operand
  | .mov x | .box x | .nilCheck x | .not x | .neg x | .conv _ x | .convStr x | .arrPtr _ x | .fieldAddr _ x | .field _ _ _ x | .extract x _ | .lenSl x | .lenStr x | .range x | .next x | .entry x | .lenMap x | .load _ x => [x]
  | .pick a b c => [a, b, c]
  | .alloc _ | .mkMap | .never => []
  | .build _ ps | .buildSlice _ _ _ ps => ps.map (·.2.2)
  | .store _ a b | .bin _ a b | .eqb _ _ a b | .idxArr _ _ a b | .idxSl _ a b | .idxAgg _ _ _ a b | .idxStr a b | .append _ a b | .minmax _ a b | .lookup _ _ a b _ | .mapEntry _ _ a b | .mkSlice _ _ _ a b => [a, b]
  | .mkFunc _ xs ys => xs ++ ys
  | .sliceSl _ x a b c | .sliceArr _ _ x a b c => [x] ++ optL a ++ optL b ++ optL c
  | .sliceStr x a b => [x] ++ optL a ++ optL b
  | .call f xs => f :: xs
  | .mapUpdate _ a b c | .entryStore a b c => [a, b, c]

theorem getAll_congr {e e' : Operand → Option Value} : ∀ (l : List Operand), (∀ x ∈ l, e x = e' x) → getAll e l = getAll e' l
  | [], _ => rfl
  | x :: l, h => by
    simp only [getAll]
    rw [h x (List.mem_cons_self ..), getAll_congr l fun y hy => h y (List.mem_cons_of_mem _ hy)]
theorem fillV_congr {e e' : Operand → Option Value} : ∀ (l : List (Nat × Nat × Operand)) (cs : List Value), (∀ x ∈ l.map (·.2.2), e x = e' x) → fillV e cs l = fillV e' cs l
  | [], _, _ => rfl
  | (a, b, x) :: l, cs, h => by
    simp only [fillV]
    rw [h x (by simp)]
    cases e' x with
    | none => rfl
    | some v =>
      simp only
      split
      · exact fillV_congr l _ fun y hy => h y (by simp at hy ⊢; exact .inr hy)
      · rfl
theorem optInt_congr {e e' : Operand → Option Value} (d : Nat) (x : Option Operand) (h : ∀ y ∈ optL x, e y = e' y) : optInt e d x = optInt e' d x := by
  cases x with
  | none => rfl
  | some y => simp only [optInt]; rw [h y (by simp [optL])]

theorem vx_congr {o : VOp} {e e' : Operand → Option Value} (s : St) (h : ∀ x ∈ o.opnds, e x = e' x) : vx o e s = vx o e' s := by
  cases o
  case build z ps => simp only [vx]; rw [fillV_congr ps z h]
  case buildSlice a b z ps => simp only [vx]; rw [fillV_congr ps z h]
  case mkFunc f xs ys =>
    simp only [VOp.opnds] at h
    simp only [vx]; rw [getAll_congr xs fun x hx => h x (List.mem_append_left _ hx), getAll_congr ys fun x hx => h x (List.mem_append_right _ hx)]
  case call f xs =>
    simp only [VOp.opnds] at h
    simp only [vx]; rw [h f (List.mem_cons_self ..), getAll_congr xs fun x hx => h x (List.mem_cons_of_mem _ hx)]
  case sliceSl z x a b c =>
    simp only [VOp.opnds] at h
    simp only [vx]
    have h1 : ∀ d, optInt e d a = optInt e' d a := fun d => optInt_congr d a fun y hy => h y (by simp [hy])
    have h2 : ∀ d, optInt e d b = optInt e' d b := fun d => optInt_congr d b fun y hy => h y (by simp [hy])
    have h3 : ∀ d, optInt e d c = optInt e' d c := fun d => optInt_congr d c fun y hy => h y (by simp [hy])
    have h3' : ∀ y, c = some y → optInt e 0 (some y) = optInt e' 0 (some y) := fun y hy => by rw [← hy]; exact h3 0
    rw [h x (by simp)]
    simp only [h1, h2, h3]
    cases c with
    | none => rfl
    | some y => simp only [h3' y rfl]
  case sliceArr n z x a b c =>
    simp only [VOp.opnds] at h
    simp only [vx]
    have h1 : ∀ d, optInt e d a = optInt e' d a := fun d => optInt_congr d a fun y hy => h y (by simp [hy])
    have h2 : ∀ d, optInt e d b = optInt e' d b := fun d => optInt_congr d b fun y hy => h y (by simp [hy])
    have h3 : ∀ d, optInt e d c = optInt e' d c := fun d => optInt_congr d c fun y hy => h y (by simp [hy])
    rw [h x (by simp)]
    simp only [h1, h2, h3]
  case sliceStr x a b =>
    simp only [VOp.opnds] at h
    simp only [vx]
    have h1 : ∀ d, optInt e d a = optInt e' d a := fun d => optInt_congr d a fun y hy => h y (by simp [hy])
    have h2 : ∀ d, optInt e d b = optInt e' d b := fun d => optInt_congr d b fun y hy => h y (by simp [hy])
    rw [h x (by simp)]
    simp only [h1, h2]
  case load n x => cases n <;> (simp only [VOp.opnds, List.mem_singleton, forall_eq] at h; simp only [vx, h])
  all_goals
    simp only [VOp.opnds, List.mem_cons, List.not_mem_nil, or_false, forall_eq_or_imp, forall_eq, List.mem_singleton] at h
    simp only [vx, h]

/-- What it yields hangs on its operands alone. -/
def VOp.stateless : VOp → Bool
  | .mov _ | .pick .. | .build .. | .nilCheck _ | .bin .. | .eqb .. | .not _ | .neg _ | .conv .. | .convStr _ | .arrPtr .. | .mkFunc .. | .sliceSl .. | .sliceStr .. | .fieldAddr .. | .idxArr .. | .idxSl .. | .idxAgg .. | .idxStr .. | .field .. | .extract .. | .lenSl _ | .lenStr _ | .minmax .. => true
  | _ => false

theorem stateless_val {o : VOp} (h : o.stateless = true) (e : Operand → Option Value) {s : St} (s' : St) {v : Value} (hv : vx o e s = .val v s) : vx o e s' = .val v s' := by
  cases o <;> try (simp [VOp.stateless] at h; done)
  case minmax mx x y =>
    simp only [vx] at hv ⊢
    cases h1 : e x with
    | none => simp [h1] at hv
    | some a =>
      cases h2 : e y with
      | none => simp only [h1, h2] at hv; cases a <;> cases hv
      | some b => simp only [h1, h2] at hv ⊢; cases a <;> cases b <;> first | (cases hv; rfl) | (cases hv; done)
  all_goals
    simp only [vx] at hv ⊢
    repeat' split at hv
    all_goals first
      | (cases hv; done)
      | (simp_all; done)


theorem stateless_quiet {o : VOp} (h : o.stateless = true) : o.quiet = true := by
  cases o <;> first | rfl | (simp [VOp.stateless] at h)

/-! ### The order of a region's edges -/

def dirs (o : Oper) : List Nat := (o.after.toList.filter fun e => Region.binds .any e).map (·.on)

inductive Bef (ds : List (List Nat)) : Nat → Nat → Prop
  | dir {i e : Nat} (h : e ∈ ds.getD i []) : Bef ds e i
  | tr {i e j : Nat} (h : e ∈ ds.getD i []) (k : Bef ds j e) : Bef ds j i

def maskOf (acc : List Nat) (d : List Nat) : Nat := d.foldl (fun s e => s ||| 2 ^ e ||| acc.getD e 0) 0
def masks : List (List Nat) → List Nat → List Nat
  | [], acc => acc
  | d :: r, acc => masks r (acc ++ [maskOf acc d])

theorem maskOf_spec (acc : List Nat) (j : Nat) : ∀ (d : List Nat) (s : Nat), (d.foldl (fun s e => s ||| 2 ^ e ||| acc.getD e 0) s).testBit j = true → s.testBit j = true ∨ ∃ e ∈ d, j = e ∨ (acc.getD e 0).testBit j = true
  | [], s, h => .inl h
  | e :: d, s, h => by
    rcases maskOf_spec acc j d _ h with h | ⟨e', h1, h2⟩
    · rw [Nat.testBit_or, Nat.testBit_or, Bool.or_eq_true, Bool.or_eq_true] at h
      rcases h with (h | h) | h
      · exact .inl h
      · rw [Nat.testBit_two_pow] at h
        exact .inr ⟨e, List.mem_cons_self .., .inl (by simpa using (of_decide_eq_true h).symm)⟩
      · exact .inr ⟨e, List.mem_cons_self .., .inr h⟩
    · exact .inr ⟨e', List.mem_cons_of_mem _ h1, h2⟩

theorem masks_spec (ds : List (List Nat)) : ∀ (r pre : List (List Nat)) (acc : List Nat), ds = pre ++ r → acc.length = pre.length → (∀ i j, (acc.getD i 0).testBit j = true → Bef ds j i) → ∀ i j, ((masks r acc).getD i 0).testBit j = true → Bef ds j i
  | [], _, acc, _, _, h => h
  | d :: r, pre, acc, hd, hl, h => by
    have hget : ds.getD acc.length [] = d := by
      rw [hd, List.getD_eq_getElem?_getD, List.getElem?_append_right (by omega), hl]; simp
    refine masks_spec ds r (pre ++ [d]) (acc ++ [maskOf acc d]) (by simp [hd]) (by simp [hl]) ?_
    intro i j hb
    rw [List.getD_eq_getElem?_getD] at hb
    rcases Nat.lt_trichotomy i acc.length with hi | hi | hi
    · rw [List.getElem?_append_left hi, ← List.getD_eq_getElem?_getD] at hb; exact h i j hb
    · subst hi
      rw [List.getElem?_append_right (Nat.le_refl _)] at hb
      simp only [Nat.sub_self, List.getElem?_cons_zero, Option.getD_some] at hb
      rcases maskOf_spec acc j d 0 hb with h0 | ⟨e, h1, h2⟩
      · simp at h0
      · rcases h2 with rfl | h2
        · exact .dir (by rw [hget]; exact h1)
        · exact .tr (by rw [hget]; exact h1) (h e j h2)
    · rw [List.getElem?_eq_none (by simp; omega)] at hb; simp at hb

/-! ### Our own order, and what is asked of it -/

def COp.slots (c : COp) : List Tmp :=
  (c.op.opnds.filterMap fun | .tmp t => some t | _ => none) ++ (match c.guard with | some (some t, _) => [t] | _ => [])

/-- The first (in the order of the text) that may come now: a quiet one, if there is. -/
def pickOp (cs : List COp) (mk : List Nat) (n : Nat) (done : List Nat) : Option Nat :=
  let free := (List.range n).filter fun i => !done.contains i && (List.range n).all fun j => !(mk.getD i 0).testBit j || done.contains j
  match free.find? fun i => (cs.getD i default).op.quiet with
  | some i => some i
  | none => free.head?
def mkPlan (cs : List COp) (mk : List Nat) (n : Nat) : Nat → List Nat → List Nat
  | 0, done => done.reverse
  | f + 1, done => match pickOp cs mk n done with
    | some i => mkPlan cs mk n f (i :: done)
    | none => done.reverse

/-- Those that are asked again behind operation i. -/
def chkOf (cs : List COp) (mk : List Nat) (done : List Nat) (i : Nat) : List Nat :=
  if (cs.getD i default).op.quiet then [] else done.filter fun m => (cs.getD m default).op.quiet && !(mk.getD i 0).testBit m && !(cs.getD m default).op.stateless

/-- Whatever has overwritten what one that is asked again looks at, came before it. -/
def overOK (cs : List COp) (mk : List Nat) (ran : List Nat) (R : List Nat) : Bool :=
  R.all fun m => (cs.getD m default).dst.isSome && ran.all fun k => match (cs.getD k default).dst with | some t => !(cs.getD m default).slots.contains t || (mk.getD m 0).testBit k | none => true

def okPlan (cs : List COp) (mk : List Nat) (n : Nat) : List Nat → List Nat → Bool
  | _, [] => true
  | done, i :: rest =>
    ((List.range n).all fun j => !(mk.getD i 0).testBit j || done.contains j) &&
    ((cs.getD i default).op.quiet || rest.all fun k => (mk.getD k 0).testBit i) &&
    overOK cs mk (i :: done) (chkOf cs mk done i) &&
    okPlan cs mk n (i :: done) rest

def okPairs (cs : List COp) (mk : List Nat) (n : Nat) : Bool :=
  (List.range n).all fun i => match (cs.getD i default).dst with
    | none => true
    | some t => (List.range n).all fun j => i == j || ((cs.getD j default).dst != some t && (!(cs.getD j default).slots.contains t || (mk.getD j 0).testBit i || (mk.getD i 0).testBit j))

/-- The plan's operations, each with those that are asked again. -/
def withChk (cs : List COp) (mk : List Nat) : List Nat → List Nat → List (COp × List COp)
  | _, [] => []
  | done, i :: rest => (cs.getD i default, (chkOf cs mk done i).map fun m => cs.getD m default) :: withChk cs mk (i :: done) rest

def planOf (P : Program) (ops : Array Oper) : Option (List (COp × List COp)) :=
  let cs := ops.toList.map (comp1 P ops)
  let ds := ops.toList.map dirs
  let mk := masks ds []
  let n := ops.size
  let plan := mkPlan cs mk n n []
  if plan.Nodup ∧ ((List.range n).all fun i => plan.contains i) = true ∧ (plan.all fun i => decide (i < n)) = true ∧ okPlan cs mk n [] plan = true ∧ okPairs cs mk n = true ∧ (ds.zipIdx.all fun (d, i) => d.all fun e => decide (e < i)) = true
  then some (withChk cs mk [] plan) else none

end Go.Vm
