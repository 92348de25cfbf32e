/- One operation of a region; calls; regions in the order of their text. -/
import Derived.Test.YtjandhdjjbfgcaaDoorV9
import Derived.RangeFuncLeaves
import Derived.OrdersIn
set_option linter.unusedSectionVars false
set_option linter.unusedSimpArgs false
set_option linter.unusedVariables false
/- One operation of a region; calls; regions in the order of their text. -/
namespace Go.Vm
open Go.RowKit (Below)
variable [Laid]

structure COp where
  dst : Option Tmp
  op : VOp
  guard : Option (Option Tmp × Bool)
  deriving Inhabited

def ev (fr : Fr) : Operand → Option Value
  | .tmp t => fr.get t
  | .const v => if constOkA v = true then some v else none
  | .func f => some (.func (.func f) #[] #[])
  | .global _ => none

def fput (fr : Fr) : Option Tmp → Value → Fr
  | some d, v => fr.set d v
  | none, _ => fr

def cwant (fr : Fr) (c : COp) : Option Bool :=
  match c.guard with
  | none => some true
  | some (none, _) => none
  | some (some t, b) => match fr.get t with
    | some (.bool x) => some (x == b)
    | some _ => some false
    | none => none

/-- The fence within which all goes: no bound; whether in a round. -/
def fence (r : Option Nat) : Fence := { Fence.wide with round := r }

/-- A call of ours: whatever lies in the model's memory, so long as it is related. -/
def VCalls (P : Program) (f : FuncId) (args : List Value) (s : St) (Q : Value → St → Prop) : Prop :=
  (∀ (args' : Array Value) (w : World), (callFunc f args').run P w = .ok (.enter f args') w) ∧
  ∀ (ι : Emb) (base : Nat) (w0 w : World) (args' : Array Value), Good ι s w base w0 → Rels ι args args'.toList →
    Calls P f args' w fun e w' => ∃ v v' s' κ, e = .returned v' ∧ Q v s' ∧ ι.le κ ∧ VRel κ v v' ∧ Good κ s' w' base w0

theorem VCalls.mono {P : Program} {f : FuncId} {args : List Value} {s : St} {Q Q' : Value → St → Prop} (h : VCalls P f args s Q) (hq : ∀ v s, Q v s → Q' v s) : VCalls P f args s Q' :=
  ⟨h.1, fun ι base w0 w args' g r => (h.2 ι base w0 w args' g r).mono fun e w' ⟨v, v', s', κ, h1, h2, h3, h4, h5⟩ => ⟨v, v', s', κ, h1, hq _ _ h2, h3, h4, h5⟩⟩

/-- A call of yield. -/
def VYield (P : Program) (b : Nat) (args : List Value) (s : St) (Q : Value → St → Prop) : Prop :=
  ∀ (ι : Emb) (base : Nat) (w0 w : World) (args' : Array Value) (p : Pl) (r : Option Nat) (n : Nat), Good ι s w base w0 → ι b = some p → Rels ι args args'.toList →
    ∃ fn tmps assign body, (Instr.yield p.B args').run P w = .ok (.round p.B fn tmps assign body) w ∧
      RoundIn (fence r) n P p.B fn tmps assign body w fun e w' => ∃ v v' s' κ, e = .returned v' ∧ Q v s' ∧ ι.le κ ∧ VRel κ v v' ∧ Good κ s' w' base w0

theorem VYield.mono {P : Program} {b : Nat} {args : List Value} {s : St} {Q Q' : Value → St → Prop} (h : VYield P b args s Q) (hq : ∀ v s, Q v s → Q' v s) : VYield P b args s Q' :=
  fun ι base w0 w args' p r n g hp hr => let ⟨fn, tmps, assign, body, e1, e2⟩ := h ι base w0 w args' p r n g hp hr
    ⟨fn, tmps, assign, body, e1, e2.mono fun e w' ⟨v, v', s', κ, h1, h2, h3, h4, h5⟩ => ⟨v, v', s', κ, h1, hq _ _ h2, h3, h4, h5⟩⟩

def vres (P : Program) (o : VOp) (e : Operand → Option Value) (s : St) (K : Value → St → Prop) : Prop :=
  match vx o e s with
  | .val v s' => K v s'
  | .skip s' => K undef s'
  | .call f args => VCalls P f args s K
  | .yield b args => VYield P b args s K
  | .any l => ∀ x ∈ l, K x.1 x.2
  | .bad => False

theorem vres_mono {P : Program} {o : VOp} {e : Operand → Option Value} {s : St} {K K' : Value → St → Prop} (h : vres P o e s K) (hk : ∀ v s, K v s → K' v s) : vres P o e s K' := by
  unfold vres at *
  generalize vx o e s = R at *
  cases R with
  | val v s' => exact hk _ _ h
  | skip s' => exact hk _ _ h
  | call f args => exact VCalls.mono h hk
  | yield b args => exact VYield.mono h hk
  | any l => exact fun x hx => hk _ _ (h x hx)
  | bad => exact h

section
variable {P : Program} {ι : Emb} {s : St} {w : World} {base : Nat} {w0 : World}

theorem comp_no_defer {o : Oper} {vo : VOp} (hc : comp P o = some vo) : ∀ c, o.op ≠ .defer c := by
  intro c h; simp [comp, h] at hc

theorem VRel.undef : VRel ι undef undef := .tuple rfl fun i v v' h => by simp [Go.undef] at h

theorem vres_sound {r : Option Nat} {n : Nat} {o : Oper} {vo : VOp} {e : Operand → Option Value} {a : Act} {K : Value → St → Prop} {next : Act → World → Prop} {Q : Exit → Act → World → Prop}
    (hc : comp P o = some vo) (g : Good ι s w base w0) (he : ∀ x v, e x = some v → VRel ι v (a.eval x)) (h : vres P vo e s K)
    (hn : ∀ v v' s' w' κ, K v s' → ι.le κ → VRel κ v v' → Good κ s' w' base w0 → next (a.put o.dst v') w') : o.wpIn (fence r) n P a w next Q := by
  refine ⟨fun _ _ => trivial, ?_⟩
  rw [Oper.semAt_eq _ _ _ (comp_no_defer hc)]
  have hs := op_sound (P := P) (ρ := a.eval) g he hc
  unfold vres at h
  generalize hr : vx vo e s = R at h hs
  cases R with
  | val v s' =>
    obtain ⟨v', w', κ, h1, h2, h3, h4⟩ := hs
    rw [h1]; exact hn _ _ _ _ _ h h2 h3 h4
  | skip s' =>
    obtain ⟨w', κ, h1, h2, h3⟩ := hs
    rw [h1]; exact hn _ _ _ _ _ h h2 VRel.undef h3
  | call f args =>
    obtain ⟨args', h1, h2⟩ := hs
    rw [h1, h.1 args' w]
    refine ⟨fun hd => (by simp [fence, Fence.wide] at hd), ?_⟩
    have hcall : CallsIn Fence.wide (n - 1) P f args' w _ := callsIn_wide.2 (h.2 ι base w0 w args' g h2)
    refine CallsIn.mono (show CallsIn (fence r) (n - 1) P f args' w _ from hcall) ?_
    rintro e w' ⟨v, v', s', κ, rfl, k1, k2, k3, k4⟩
    exact hn _ _ _ _ _ k1 k2 k3 k4
  | yield b args =>
    obtain ⟨p, args', hp, h1, h2⟩ := hs
    obtain ⟨fn, tmps, assign, body, e1, e2⟩ := h ι base w0 w args' p r (n - 1) g hp h2
    rw [h1, e1]
    refine ⟨fun hd => (by simp [fence, Fence.wide] at hd), ?_⟩
    refine e2.mono ?_
    rintro e w' ⟨v, v', s', κ, rfl, k1, k2, k3, k4⟩
    exact hn _ _ _ _ _ k1 k2 k3 k4
  | any l =>
    obtain ⟨v, s', hm, v', w', κ, h1, h2, h3, h4⟩ := hs
    rw [h1]; exact hn _ _ _ _ _ (h _ hm) h2 h3 h4
  | bad => exact h.elim

/-- The slots that are known, are related. -/
def Slots (ι : Emb) (fr : Fr) (tmps : Array Value) : Prop := ∀ t v, fr.get t = some v → ∃ v', tmps[t]? = some v' ∧ VRel ι v v'
theorem Slots.mono {κ : Emb} {fr : Fr} {tmps : Array Value} (h : Slots ι fr tmps) (hle : ι.le κ) : Slots κ fr tmps := fun t v e => let ⟨v', a, b⟩ := h t v e; ⟨v', a, b.mono hle⟩

theorem Slots.ev {fr : Fr} {a : Act} (h : Slots ι fr a.tmps) : ∀ x v, Vm.ev fr x = some v → VRel ι v (a.eval x) := by
  intro x v e
  cases x with
  | tmp t =>
    obtain ⟨v', h1, h2⟩ := h t v e
    simp only [Act.eval, Array.getD_eq_getD_getElem?, h1, Option.getD_some]; exact h2
  | const c =>
    simp only [Vm.ev] at e
    split at e
    · rename_i hc; cases e; exact .constA hc
    · cases e
  | func f => simp only [Vm.ev] at e; cases e; exact .func rfl (fun i v v' h => by simp at h) rfl (fun i v v' h => by simp at h)
  | global g => simp [Vm.ev] at e

theorem Slots.put {fr : Fr} {a : Act} (h : Slots ι fr a.tmps) {d : Option Tmp} (hd : ∀ t, d = some t → t < a.tmps.size) {v v' : Value} (hv : VRel ι v v') : Slots ι (fput fr d v) (a.put d v').tmps := by
  cases d with
  | none => exact h
  | some t =>
    intro u x e
    simp only [fput, Tr.get_set] at e
    simp only [Act.put, Array.getElem?_setIfInBounds]
    by_cases hu : u = t
    · subst hu
      rw [if_pos rfl] at e; cases e
      rw [if_pos rfl, if_pos (hd u rfl)]
      exact ⟨v', rfl, hv⟩
    · rw [if_neg hu] at e
      rw [if_neg (Ne.symm hu)]
      exact h u x e

@[simp] theorem put_size (a : Act) (d : Option Tmp) (v : Value) : (a.put d v).tmps.size = a.tmps.size := by cases d <;> simp [Act.put]
@[simp] theorem put_defers (a : Act) (d : Option Tmp) (v : Value) : (a.put d v).defers = a.defers := by cases d <;> rfl

/-- How an operation of a region is resolved. -/
def comp1 (P : Program) (ops : Array Oper) (o : Oper) : COp :=
  { dst := o.dst, op := (comp P o).getD .never, guard := match o.guard with
      | none => none
      | some (j, b) => some ((ops[j]?).bind (·.dst), b) }

theorem cwant_spec {ops : Array Oper} {o : Oper} {fr : Fr} {tmps : Array Value} {b : Bool} (hs : ∀ t x, (comp1 P ops o).guard = some (some t, x) → ∀ v, fr.get t = some v → ∃ v', tmps[t]? = some v' ∧ VRel ι v v') (h : cwant fr (comp1 P ops o) = some b) : Region.wanted o (yielded ops tmps) = b := by
  unfold cwant at h
  unfold Region.wanted
  cases hg : o.guard with
  | none => simp [comp1, hg] at h; subst h; rfl
  | some jw =>
    obtain ⟨j, want⟩ := jw
    simp only [comp1, hg] at h hs
    simp only [yielded]
    cases hd : (ops[j]?).bind (·.dst) with
    | none => simp [hd] at h
    | some t =>
      simp only [hd] at h hs
      simp only [Option.bind_some]
      split at h
      · rename_i x hx
        obtain ⟨v', e1, e2⟩ := hs _ _ rfl _ hx
        cases e2
        cases h
        rw [e1]; cases x <;> cases want <;> rfl
      · rename_i v hne hx
        obtain ⟨v', e1, e2⟩ := hs _ _ rfl _ hx
        cases h
        rw [e1]
        cases e2 <;> first | rfl | exact (hne _ rfl).elim
      · cases h
end
end Go.Vm
