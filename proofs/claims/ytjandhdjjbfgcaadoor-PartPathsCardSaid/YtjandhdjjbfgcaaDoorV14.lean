/- Bodies: the resolved code, what it does, and that the model's code does likewise. -/
import Derived.Test.YtjandhdjjbfgcaaDoorV13
import Derived.RangeFuncNested
set_option linter.unusedSectionVars false
set_option linter.unusedSimpArgs false
set_option linter.unusedVariables false
/- Bodies: the resolved code, what it does, and that the model's code does likewise. -/
namespace Go.Vm
open Go.RowKit (Below)
variable [Laid]

inductive VX where
  | normal | exit (id : Nat) | ret
  deriving Inhabited, DecidableEq
def VX.toE : VX → Exit
  | .normal => .normal
  | .exit id => .exit id
  | .ret => .ret

inductive VC where
  | skip
  | reg (l : List (COp × List COp))
  | seq (a b : VC)
  | cond (c : Operand) (t e : VC)
  | block (id : Nat) (c : VC)
  | loop (c : VC)
  | exit (id : Nat)
  | ret
  | rangeF (f : Operand) (ps : Array Tmp) (assign body : Code)
  deriving Inhabited

abbrev VK := VX → Fr → List Nat → St → Prop
def thenK (R : Fr → List Nat → St → Prop) (K : VK) : VK
  | .normal => R
  | .exit id => K (.exit id)
  | .ret => K .ret
def blockK (id : Nat) (K : VK) : VK
  | .exit i => if i = id then K .normal else K (.exit i)
  | .normal => K .normal
  | .ret => K .ret

/-- The end of a range over a function. -/
def rangeK (l : Nat) (K : VK) (fr : Fr) (m : List Nat) (s : St) : Prop :=
  match s.get l with
  | some (.loop st pend fr' N' ps' az' bo') => st ≠ .busy ∧ match pend with
    | none => K .normal fr m (s.set l (.loop .exhausted pend fr' N' ps' az' bo'))
    | some (.exit id) => K (.exit id) fr m (s.set l (.loop .exhausted pend fr' N' ps' az' bo'))
    | some .ret => K .ret fr m (s.set l (.loop .exhausted pend fr' N' ps' az' bo'))
    | _ => False
  | _ => False

/-- Entering a range over a function. -/
def rangeIn (rd : Option Nat) (N : Nat) (ps : Array Tmp) (assign body : Code) (fr : Fr) (m : List Nat) (s : St) : Option (Nat × List Nat × St) :=
  match rd with
  | none => some (s.next + 1, s.next :: m, (s.push .defers).push (.loop .ready none fr N ps assign body))
  | some b => match s.get b with
    | some (.loop ..) => some (s.next, m, s.push (.loop .ready none fr N ps assign body))
    | _ => none

def VC.run (P : Program) (rd : Option Nat) (N : Nat) : VC → VK → Fr → List Nat → St → Prop
  | .skip, K => K .normal
  | .reg l, K => fun fr m s => vrun P l (fun fr s => K .normal fr m s) fr s
  | .seq a b, K => a.run P rd N (thenK (b.run P rd N K) K)
  | .cond c t e, K => fun fr m s => match ev fr c with
    | some (.bool true) => t.run P rd N K fr m s
    | some (.bool false) => e.run P rd N K fr m s
    | _ => False
  | .block id c, K => c.run P rd N (blockK id K)
  | .loop c, K => fun fr m s => ∀ R : Fr → List Nat → St → Prop, (∀ fr m s, c.run P rd N (thenK R K) fr m s → R fr m s) → R fr m s
  | .exit id, K => K (.exit id)
  | .ret, K => K .ret
  | .rangeF f ps assign body, K => fun fr m s => match ev fr f, rangeIn rd N ps assign body fr m s with
    | some (.func (.func g) fi ca), some (l, m', s') => VCalls P g (fi.toList ++ [.func (.yield l) #[] #[]] ++ ca.toList) s' fun _ s3 => rangeK l K fr m' s3
    | _, _ => False

theorem thenK_mono {R R' : Fr → List Nat → St → Prop} {K K' : VK} (h : ∀ fr m s, R fr m s → R' fr m s) (hk : ∀ e fr m s, K e fr m s → K' e fr m s) : ∀ e fr m s, thenK R K e fr m s → thenK R' K' e fr m s
  | .normal, _, _, _, h' => h _ _ _ h'
  | .exit _, _, _, _, h' => hk _ _ _ _ h'
  | .ret, _, _, _, h' => hk _ _ _ _ h'
theorem blockK_mono {id : Nat} {K K' : VK} (hk : ∀ e fr m s, K e fr m s → K' e fr m s) : ∀ e fr m s, blockK id K e fr m s → blockK id K' e fr m s := by
  intro e fr m s h
  cases e with
  | normal => exact hk _ _ _ _ h
  | ret => exact hk _ _ _ _ h
  | exit i =>
    simp only [blockK] at *
    by_cases hi : i = id
    · rw [if_pos hi] at *; exact hk _ _ _ _ h
    · rw [if_neg hi] at *; exact hk _ _ _ _ h
theorem rangeK_mono {l : Nat} {K K' : VK} (hk : ∀ e fr m s, K e fr m s → K' e fr m s) {fr : Fr} {m : List Nat} {s : St} (h : rangeK l K fr m s) : rangeK l K' fr m s := by
  unfold rangeK at *
  split at h
  · obtain ⟨h1, h2⟩ := h
    refine ⟨h1, ?_⟩
    split at h2 <;> first | exact hk _ _ _ _ h2 | exact h2.elim
  · exact h

theorem VC.run_mono {P : Program} {rd : Option Nat} {N : Nat} : ∀ {c : VC} {K K' : VK}, (∀ e fr m s, K e fr m s → K' e fr m s) → ∀ {fr : Fr} {m : List Nat} {s : St}, c.run P rd N K fr m s → c.run P rd N K' fr m s
  | .skip, _, _, hk, _, _, _, h => hk _ _ _ _ h
  | .reg l, _, _, hk, _, _, _, h => vrun_mono (fun _ _ h => hk _ _ _ _ h) l _ _ h
  | .seq a b, _, _, hk, _, _, _, h => VC.run_mono (c := a) (thenK_mono (fun _ _ _ h => VC.run_mono (c := b) hk h) hk) h
  | .cond c t e, _, _, hk, fr, m, s, h => by
    simp only [VC.run] at h ⊢
    split at h
    · exact VC.run_mono (c := t) hk h
    · exact VC.run_mono (c := e) hk h
    · exact h
  | .block id c, _, _, hk, _, _, _, h => VC.run_mono (c := c) (blockK_mono hk) h
  | .loop c, _, _, hk, _, _, _, h => fun R hR => h R fun fr m s h' => hR fr m s (VC.run_mono (c := c) (thenK_mono (fun _ _ _ h => h) hk) h')
  | .exit id, _, _, hk, _, _, _, h => hk _ _ _ _ h
  | .ret, _, _, hk, _, _, _, h => hk _ _ _ _ h
  | .rangeF f ps assign body, _, _, hk, fr, m, s, h => by
    simp only [VC.run] at h ⊢
    split at h
    · exact h.mono fun _ _ h' => rangeK_mono hk h'
    · exact h

/-- One pass of a loop, and on. -/
theorem run_loop_fold {P : Program} {rd : Option Nat} {N : Nat} {c : VC} {K : VK} {fr : Fr} {m : List Nat} {s : St} (h : c.run P rd N (thenK ((VC.loop c).run P rd N K) K) fr m s) : (VC.loop c).run P rd N K fr m s :=
  fun R hR => hR _ _ _ (VC.run_mono (thenK_mono (fun _ _ _ h => h R hR) (fun _ _ _ _ h => h)) h)

/-- A loop by what holds ahead of every pass, and a number that every pass lowers. -/
theorem run_loop_inv {P : Program} {rd : Option Nat} {N : Nat} {c : VC} {K : VK} {fr : Fr} {m : List Nat} {s : St} (I : Nat → Fr → List Nat → St → Prop)
    (h : ∀ n fr m s, I n fr m s → c.run P rd N (thenK (fun fr m s => ∃ k, k < n ∧ I k fr m s) K) fr m s) {n : Nat} (h0 : I n fr m s) : (VC.loop c).run P rd N K fr m s := by
  induction n using Nat.strongRecOn generalizing fr m s with
  | _ n ih => exact run_loop_fold (VC.run_mono (thenK_mono (fun _ _ _ ⟨k, hk, hI⟩ => ih k hk hI) (fun _ _ _ _ h => h)) (h n _ _ _ h0))

/-! ### The resolving -/

def dstOK (N : Nat) (ops : Array Oper) : Bool := ops.toList.all fun o => match o.dst with | some d => decide (d < N) | none => true

def ccReg (P : Program) (N : Nat) (ops : Array Oper) (draw : Bool) : Option VC :=
  if dstOK N ops then
    if draw then (planOf P ops).map .reg else some (.reg (ops.toList.map fun o => (comp1 P ops o, [])))
  else none

def cc (P : Program) (N : Nat) : Code → Option VC
  | .skip => some .skip
  | .label _ => some .skip
  | .region _ ops draw => ccReg P N ops draw
  | .seq a b => match cc P N a, cc P N b with
    | some x, some y => some (.seq x y)
    | _, _ => none
  | .cond c t e => match cc P N t, cc P N e with
    | some x, some y => some (.cond c x y)
    | _, _ => none
  | .block id c => (cc P N c).map (.block id)
  | .loop c => (cc P N c).map .loop
  | .scope c => cc P N c
  | .exit id => some (.exit id)
  | .ret => some .ret
  | .rangeFunc f ps assign body => some (.rangeF f ps assign body)
  | .goto _ => none
  | .refuse _ => none

theorem dstOK_spec {N : Nat} {ops : Array Oper} (h : dstOK N ops = true) : ∀ (i : Nat) (o : Oper) (d : Tmp), ops[i]? = some o → o.dst = some d → d < N := by
  intro i o d hi hd
  have := List.all_eq_true.1 h o (Array.mem_toList_iff.2 (Array.mem_of_getElem? hi))
  rw [hd] at this
  simpa using this

/-! ### The relation of activations -/

def Marks (ι : Emb) : List Nat → List Deferred → Prop
  | [], [] => True
  | b :: m, d :: ds => (∃ p, ι b = some p ∧ d = { target := .collected p.B, args := #[] }) ∧ Marks ι m ds
  | _, _ => False
theorem Marks.mono {ι κ : Emb} (hle : ι.le κ) : ∀ {m : List Nat} {ds : List Deferred}, Marks ι m ds → Marks κ m ds
  | [], [], _ => trivial
  | _ :: _, _ :: _, ⟨⟨p, h1, h2⟩, h3⟩ => ⟨⟨p, hle _ _ h1, h2⟩, Marks.mono hle h3⟩

def RdRel (ι : Emb) : Option Nat → Option Nat → Prop
  | none, none => True
  | some b, some l => ∃ p, ι b = some p ∧ l = p.B
  | _, _ => False
theorem RdRel.mono {ι κ : Emb} (hle : ι.le κ) {rd r : Option Nat} (h : RdRel ι rd r) : RdRel κ rd r := by
  cases rd <;> cases r <;> try exact h
  obtain ⟨p, h1, h2⟩ := h
  exact ⟨p, hle _ _ h1, h2⟩

structure Act3 (ι : Emb) (N : Nat) (base : Nat) (w0 : World) (fr : Fr) (m : List Nat) (s : St) (a : Act) (w : World) : Prop where
  size : a.tmps.size = N
  slots : Slots ι fr a.tmps
  marks : Marks ι m a.defers
  good : Good ι s w base w0

/-! ### Loops and scopes of the model -/

/-- Within a loop, at the head of a pass. -/
def LoopFrom (F : Fence) (n : Nat) (P : Program) (c : Code) (Q : Exit → Act → World → Prop) (a : Act) (w : World) : Prop :=
  ∀ (b : Frame) (k : List Item) (cs : List Frame), b.roundOf = F.round → F.fn b.fn → F.room (cs.length + 1 + n) →
    ∃ e a' w', Q e a' w' ∧ ArrivesIn (Machine.fenced P F) P (lone (b.atR a (.code c :: .inLoop c :: k)) cs w) b k cs e a' w'

section
variable {F : Fence} {n : Nat} {P : Program} {Q : Exit → Act → World → Prop} {a : Act} {w : World}

theorem loopFrom_of {c : Code} (h : c.wpIn F n P (Exit.then (LoopFrom F n P c Q) Q) a w) : LoopFrom F n P c Q a w := by
  intro b k cs hro hb hr
  obtain ⟨e, a₁, w₁, hq, harr⟩ := h b (.inLoop c :: k) cs hro hb hr
  cases e with
  | normal =>
    obtain ⟨e₂, a₂, w₂, hq₂, harr₂⟩ := hq b k cs hro hb hr
    exact ⟨e₂, a₂, w₂, hq₂, .of_steps (StepsIn.trans harr (.one (fenced_calm hb hr rfl) stepR_inLoop)) harr₂⟩
  | exit id => exact ⟨_, a₁, w₁, hq, .pass (x := .inLoop c) rfl (fun _ _ => .inl (by simp)) harr⟩
  | goto l => exact ⟨_, a₁, w₁, hq, .pass (x := .inLoop c) rfl (fun _ _ => .inl (by simp)) harr⟩
  | ret => exact ⟨_, a₁, w₁, hq, .pass (x := .inLoop c) rfl (fun _ _ => .inl (by simp)) harr⟩
  | panic ch => exact ⟨_, a₁, w₁, hq, .pass (x := .inLoop c) rfl (fun _ _ => .inl (by simp)) harr⟩
  | outgrown => exact ⟨_, a₁, w₁, hq, .pass (x := .inLoop c) rfl (fun _ _ => .inl (by simp)) harr⟩

theorem wpIn_loop_of {c : Code} (h : LoopFrom F n P c Q a w) : (Code.loop c).wpIn F n P Q a w := by
  intro b k cs hro hb hr
  obtain ⟨e, a', w', hq, harr⟩ := h b k cs hro hb hr
  exact ⟨e, a', w', hq, .of_steps (.one (fenced_calm hb hr rfl) stepR_loop) harr⟩

theorem stepR_scope {b : Frame} {k : List Item} {cs : List Frame} {c : Code} : step P (lone (b.atR a (.code (.scope c) :: k)) cs w) = .next (lone (b.atR a (.code c :: .inScope c :: k)) cs w) :=
  step_lone_go (by simp [stepG, stepG.exec, Frame.atR])
theorem stepR_inScope {b : Frame} {k : List Item} {cs : List Frame} {c : Code} : step P (lone (b.atR a (.inScope c :: k)) cs w) = .next (lone (b.atR a k) cs w) :=
  step_lone_go (by simp [stepG, stepG.exec, Frame.atR])

theorem wpIn_scope {c : Code} (h : c.wpIn F n P (fun e a w => (∀ l, e ≠ .goto l) ∧ Q e a w) a w) : (Code.scope c).wpIn F n P Q a w := by
  intro b k cs hro hb hr
  have h0 : (lone (b.atR a (.code (.scope c) :: k)) cs w).fenced P F := fenced_calm hb hr rfl
  obtain ⟨e, a₁, w₁, ⟨hng, hq⟩, harr⟩ := h b (.inScope c :: k) cs hro hb hr
  cases e with
  | normal => exact ⟨.normal, a₁, w₁, hq, .head h0 stepR_scope (StepsIn.trans harr (.one (fenced_calm hb hr rfl) stepR_inScope))⟩
  | exit id =>
    have hx : exitTo id (.inScope c :: k) = exitTo id k := by simp [exitTo]
    exact ⟨.exit id, a₁, w₁, hq, fun k' hk => .head h0 stepR_scope (harr.1 k' (by rw [hx]; exact hk)),
      fun hr' hk => let ⟨k₁, h1, h2⟩ := harr.2 hr' (by rw [hx]; exact hk); ⟨k₁, h1, .head h0 stepR_scope h2⟩⟩
  | goto l => exact (hng l rfl).elim
  | ret => exact ⟨_, a₁, w₁, hq, .of_steps (.one h0 stepR_scope) harr⟩
  | panic ch => exact ⟨_, a₁, w₁, hq, .of_steps (.one h0 stepR_scope) harr⟩
  | outgrown => exact ⟨_, a₁, w₁, hq, .of_steps (.one h0 stepR_scope) harr⟩
end


/-! ### That the model does likewise -/

section
variable {P : Program} {base : Nat} {w0 : World}

theorem blk_loop {ι : Emb} {s : St} {w : World} (g : Good ι s w base w0) {b : Nat} {p : Pl} (hp : ι b = some p) {st : LoopState} {pend : Option Code} {fr : Fr} {N : Nat} {ps : Array Tmp} {az bo : Code} (h : s.get b = some (.loop st pend fr N ps az bo)) :
    ∃ fn tmps df, w.heap[p.B]? = some (.loop { state := st, pending := pend, fn, tmps, params := ps, assign := az, body := bo, defers := df }) ∧ LRel ι fr N tmps := by
  obtain ⟨p1, ob, h1, h2, ⟨fn, tmps, df, h3, h4⟩, _⟩ := g.blk b _ h rfl
  rw [hp] at h1; cases h1
  exact ⟨fn, tmps, df, by rw [h2, h3], h4⟩

theorem set_loop {ι : Emb} {s : St} {w : World} (g : Good ι s w base w0) {b : Nat} {p : Pl} (hp : ι b = some p) {st st' : LoopState} {pend pend' : Option Code} {fr : Fr} {N : Nat} {ps : Array Tmp} {az bo : Code} (h : s.get b = some (.loop st pend fr N ps az bo))
    {fn : FuncId} {tmps : Array Value} {df : Nat} (hw : w.heap[p.B]? = some (.loop { state := st, pending := pend, fn, tmps, params := ps, assign := az, body := bo, defers := df })) (hl : LRel ι fr N tmps) :
    Good ι (s.set b (.loop st' pend' fr N ps az bo)) (w.putObj p.B (.loop { state := st', pending := pend', fn, tmps, params := ps, assign := az, body := bo, defers := df })) base w0 := by
  have hlt : p.B < w.heap.size := (Array.getElem?_eq_some_iff.1 hw).1
  exact g.change h rfl hp (.inl rfl) (World.putObj_heap_same hlt) (fun k hk => World.putObj_heap_other hk) World.putObj_size rfl rfl rfl ⟨fn, tmps, df, rfl, hl⟩

theorem run_sound {N : Nat} : ∀ (c : Code) {vc : VC}, cc P N c = some vc → P.follows .mixedOrders = true → ∀ {rd r : Option Nat} {K : VK} {fr : Fr} {m : List Nat} {s : St} {ι : Emb} {a : Act} {w : World} {n : Nat} {Q : Exit → Act → World → Prop},
    vc.run P rd N K fr m s → RdRel ι rd r → Act3 ι N base w0 fr m s a w →
    (∀ e fr m s κ a w, K e fr m s → ι.le κ → Act3 κ N base w0 fr m s a w → Q e.toE a w) → c.wpIn (fence r) n P Q a w := by
  intro c
  induction c with
  | skip => intro vc hc hm rd r K fr m s ι a w n Q h hr ha hQ; cases hc; exact wpIn_skip (hQ _ _ _ _ _ _ _ h (Emb.le_refl _) ha)
  | label l => intro vc hc hm rd r K fr m s ι a w n Q h hr ha hQ; cases hc; exact wpIn_label (hQ _ _ _ _ _ _ _ h (Emb.le_refl _) ha)
  | exit id => intro vc hc hm rd r K fr m s ι a w n Q h hr ha hQ; cases hc; exact wpIn_exit (hQ _ _ _ _ _ _ _ h (Emb.le_refl _) ha)
  | ret => intro vc hc hm rd r K fr m s ι a w n Q h hr ha hQ; cases hc; exact wpIn_ret (hQ _ _ _ _ _ _ _ h (Emb.le_refl _) ha)
  | goto l => intro vc hc; cases hc
  | refuse y => intro vc hc; cases hc
  | region id ops draw =>
    intro vc hc hm rd r K fr m s ι a w n Q h hr ha hQ
    simp only [cc, ccReg] at hc
    split at hc
    · rename_i hd
      have hN := dstOK_spec hd
      cases draw with
      | true =>
        simp only [if_true] at hc
        cases hl : planOf P ops with
        | none => rw [hl] at hc; cases hc
        | some l =>
          rw [hl] at hc; cases hc
          refine region_any hm hl hN ?_ h ha.slots ha.size ha.good
          intro fr' s' κ a' w' hK hle hs hsz hdf hg
          exact hQ _ _ _ _ _ _ _ hK hle ⟨hsz, hs, hdf ▸ ha.marks.mono hle, hg⟩
      | false =>
        simp only [Bool.false_eq_true, if_false] at hc
        cases hc
        refine wpIn_region ?_
        refine region_seq (a0 := a) (ι0 := ι) (K := fun fr s => K .normal fr m s) hN ?_ (List.range ops.size) fr s ι a w (fun i hi => List.mem_range.1 hi) ?_ (Emb.le_refl _) ha.slots ha.size rfl ha.good
        · intro fr' s' κ a' w' hK hle hs hsz hdf hg
          exact hQ _ _ _ _ _ _ _ hK hle ⟨hsz, hs, hdf ▸ ha.marks.mono hle, hg⟩
        · have : ((List.range ops.size).map fun i => (comp1 P ops (ops.getD i default), ([] : List COp))) = ops.toList.map fun o => (comp1 P ops o, []) := by
            refine List.ext_getElem? fun i => ?_
            rw [List.getElem?_map, List.getElem?_map]
            by_cases hi : i < ops.size
            · rw [List.getElem?_range hi, Array.getElem?_toList, Array.getElem?_eq_getElem hi]
              simp [Array.getD_eq_getD_getElem?, Array.getElem?_eq_getElem hi]
            · rw [List.getElem?_eq_none (by simp; omega), List.getElem?_eq_none (by simp; omega)]; rfl
          rw [this]; exact h
    · cases hc
  | seq x y ihx ihy =>
    intro vc hc hm rd r K fr m s ι a w n Q h hr ha hQ
    simp only [cc] at hc
    cases hx : cc P N x with
    | none => simp [hx] at hc
    | some vx =>
      cases hy : cc P N y with
      | none => simp [hx, hy] at hc
      | some vy =>
        simp only [hx, hy] at hc; cases hc
        refine wpIn_seq (ihx hx hm (K := thenK (vy.run P rd N K) K) h hr ha ?_)
        intro e fr' m' s' κ a' w' hK hle ha'
        cases e with
        | normal => exact ihy hy hm hK (hr.mono hle) ha' fun e fr2 m2 s2 μ a2 w2 hK2 hle2 ha2 => hQ _ _ _ _ _ _ _ hK2 (Emb.le_trans hle hle2) ha2
        | exit id => exact hQ _ _ _ _ _ _ _ hK hle ha'
        | ret => exact hQ _ _ _ _ _ _ _ hK hle ha'
  | cond c x y ihx ihy =>
    intro vc hc hm rd r K fr m s ι a w n Q h hr ha hQ
    simp only [cc] at hc
    cases hx : cc P N x with
    | none => simp [hx] at hc
    | some vx =>
      cases hy : cc P N y with
      | none => simp [hx, hy] at hc
      | some vy =>
        simp only [hx, hy] at hc; cases hc
        simp only [VC.run] at h
        split at h
        · rename_i he
          have := ha.slots.ev c _ he
          generalize hF : a.eval c = Fv at this
          cases this
          exact wpIn_cond_true hF (ihx hx hm h hr ha hQ)
        · rename_i he
          have := ha.slots.ev c _ he
          generalize hF : a.eval c = Fv at this
          cases this
          exact wpIn_cond_false hF (ihy hy hm h hr ha hQ)
        · exact h.elim
  | block id x ih =>
    intro vc hc hm rd r K fr m s ι a w n Q h hr ha hQ
    simp only [cc] at hc
    cases hx : cc P N x with
    | none => simp [hx] at hc
    | some vx =>
      simp only [hx, Option.map_some] at hc; cases hc
      refine wpIn_block (ih hx hm (K := blockK id K) h hr ha ?_)
      intro e fr' m' s' κ a' w' hK hle ha'
      cases e with
      | normal => exact hQ _ _ _ _ _ _ _ hK hle ha'
      | ret => exact hQ _ _ _ _ _ _ _ hK hle ha'
      | exit i =>
        simp only [VX.toE, Exit.inBlock, blockK] at hK ⊢
        by_cases hi : i = id
        · rw [if_pos hi] at *; exact hQ _ _ _ _ _ _ _ hK hle ha'
        · rw [if_neg hi] at *; exact hQ _ _ _ _ _ _ _ hK hle ha'
  | loop x ih =>
    intro vc hc hm rd r K fr m s ι a w n Q h hr ha hQ
    simp only [cc] at hc
    cases hx : cc P N x with
    | none => simp [hx] at hc
    | some vx =>
      simp only [hx, Option.map_some] at hc; cases hc
      refine wpIn_loop_of (h (fun fr m s => ∀ κ a w, ι.le κ → Act3 κ N base w0 fr m s a w → LoopFrom (fence r) n P x Q a w) ?_ ι a w (Emb.le_refl _) ha)
      intro fr' m' s' h' κ a' w' hle ha'
      refine loopFrom_of (ih hx hm h' (hr.mono hle) ha' ?_)
      intro e fr2 m2 s2 μ a2 w2 hK hle2 ha2
      cases e with
      | normal => exact hK μ a2 w2 (Emb.le_trans hle hle2) ha2
      | exit id => exact hQ _ _ _ _ _ _ _ hK (Emb.le_trans hle hle2) ha2
      | ret => exact hQ _ _ _ _ _ _ _ hK (Emb.le_trans hle hle2) ha2
  | scope x ih =>
    intro vc hc hm rd r K fr m s ι a w n Q h hr ha hQ
    refine wpIn_scope (ih hc hm h hr ha ?_)
    intro e fr' m' s' κ a' w' hK hle ha'
    exact ⟨fun l => by cases e <;> simp [VX.toE], hQ _ _ _ _ _ _ _ hK hle ha'⟩
  | rangeFunc f ps az bo _ _ =>
    intro vc hc hm rd r K fr m s ι a w n Q h hr ha hQ
    cases hc
    simp only [VC.run] at h
    split at h
    · rename_i g fi ca l m' s' hf hin
      refine wpIn_rangeFunc ?_
      intro fn _
      have hfr := ha.slots.ev f _ hf
      -- the record
      have key : ∃ (L : Nat) (mark : List Deferred) (w₁ : World) (κ : Emb) (p : Pl), (Instr.enterLoop fn a.tmps ps az bo r).run P w = .ok (L, mark) w₁ ∧ ι.le κ ∧ κ l = some p ∧ p.B = L ∧ Good κ s' w₁ base w0 ∧ Marks κ m' (mark ++ a.defers) := by
        unfold rangeIn at hin
        cases rd with
        | none =>
          cases r with
          | some l => exact hr.elim
          | none =>
            simp only [Option.some.injEq, Prod.mk.injEq] at hin
            obtain ⟨rfl, rfl, rfl⟩ := hin
            obtain ⟨κ1, k1, k2, k3⟩ := ha.good.push (o := .defers) (ob := .deferred (some [])) (Z := 0) rfl
            obtain ⟨κ2, k4, k5, k6⟩ := k3.push (o := .loop .ready none fr N ps az bo) (ob := .loop { state := .ready, pending := none, fn, tmps := a.tmps, params := ps, assign := az, body := bo, defers := w.heap.size }) (Z := 0)
              ⟨fn, a.tmps, w.heap.size, rfl, ha.size, (ha.slots.mono k1).mono fun b p hb => by
                have hne : b ≠ (s.push Blk.defers).next := fun e => by have := (k3.fresh b (by omega)).1; rw [this] at hb; cases hb
                simp only [if_neg hne]; exact hb⟩
            refine ⟨w.heap.size + 1, _, _, κ2, _, run_enterLoop_outer fn a.tmps ps az bo, Emb.le_trans k1 k4, k5, by simp, k6, ⟨⟨_, k4 _ _ k2, rfl⟩, (ha.marks.mono k1).mono k4⟩⟩
        | some b =>
          cases r with
          | none => exact hr.elim
          | some l0 =>
            obtain ⟨p0, hp0, rfl⟩ := hr
            simp only at hin
            split at hin
            · rename_i st pend fr0 N0 ps0 as0 bo0 hb
              simp only [Option.some.injEq, Prod.mk.injEq] at hin
              obtain ⟨rfl, rfl, rfl⟩ := hin
              obtain ⟨fn0, tmps0, df0, e1, e2⟩ := blk_loop ha.good hp0 hb
              obtain ⟨κ2, k4, k5, k6⟩ := ha.good.push (o := .loop .ready none fr N ps az bo) (ob := .loop { state := .ready, pending := none, fn, tmps := a.tmps, params := ps, assign := az, body := bo, defers := df0 }) (Z := 0)
                ⟨fn, a.tmps, df0, rfl, ha.size, ha.slots.mono fun b p hb => by
                  have hne : b ≠ s.next := fun e => by have := (ha.good.fresh b (by omega)).1; rw [this] at hb; cases hb
                  simp only [if_neg hne]; exact hb⟩
              exact ⟨w.heap.size, [], _, κ2, _, run_enterLoop_inner e1 fn a.tmps ps az bo, k4, k5, rfl, k6, ha.marks.mono k4⟩
            · cases hin
      obtain ⟨L, mark, w₁, κ, p, k1, k2, k3, rfl, k5, k6⟩ := key
      generalize hF : a.eval f = Fv at hfr
      cases hfr with
      | func e1 e2 e3 e4 =>
        rename_i fi' ca'
        refine ⟨p.B, mark, w₁, { target := .fn (.func g) ca', args := fi' ++ #[.func (.yield p.B) #[] #[]] }, w₁, g, fi' ++ #[.func (.yield p.B) #[] #[]] ++ ca', w₁, k1, ?_, fun _ _ => trivial, ?_, fun hd => (by simp [fence, Fence.wide] at hd), ?_⟩
        · simp only [resolve, rangeCall, hF]; simp [Deferred.ofValue, Act.eval]
        · simp only [invoke]; exact h.1 _ _
        · have hrel : Rels κ (fi.toList ++ [Value.func (.yield l) #[] #[]] ++ ca.toList) (fi' ++ #[Value.func (.yield p.B) #[] #[]] ++ ca').toList := by
            simp only [Array.toList_append]
            refine Rels.append (Rels.append ⟨by simpa using e1, fun i v v' e e' => (e2 i v v' (by simpa using e) (by simpa using e')).mono k2⟩ (Rels.cons (.yield k3) (Rels.nil κ))) ⟨by simpa using e3, fun i v v' e e' => (e4 i v v' (by simpa using e) (by simpa using e')).mono k2⟩
          have hcall : CallsIn Fence.wide (n - 1) P g (fi' ++ #[.func (.yield p.B) #[] #[]] ++ ca') w₁ _ := callsIn_wide.2 (h.2 κ base w0 w₁ _ k5 hrel)
          refine CallsIn.mono (show CallsIn (fence r) (n - 1) P g _ w₁ _ from hcall) ?_
          rintro e w' ⟨v, v', s3, μ, rfl, k7, k8, k9, k10⟩
          unfold rangeK at k7
          split at k7
          · rename_i st pend fr3 N3 ps3 as3 bo3 hl3
            obtain ⟨j1, j2⟩ := k7
            have hpμ := k8 _ _ k3
            obtain ⟨fn3, tmps3, df3, f1, f2⟩ := blk_loop k10 hpμ hl3
            have g4 := set_loop (st' := .exhausted) (pend' := pend) k10 hpμ hl3 f1 f2
            have ha4 : Act3 μ N base w0 fr m' (s3.set l (.loop .exhausted pend fr3 N3 ps3 as3 bo3)) { a with defers := mark ++ a.defers } (w'.putObj p.B (.loop { state := .exhausted, pending := pend, fn := fn3, tmps := tmps3, params := ps3, assign := as3, body := bo3, defers := df3 })) :=
              ⟨ha.size, ha.slots.mono (Emb.le_trans k2 k8), k6.mono k8, g4⟩
            have hle4 := Emb.le_trans k2 k8
            refine ⟨pend, _, run_endLoop f1 j1, ?_⟩
            split at j2
            · exact hQ _ _ _ _ _ _ _ j2 hle4 ha4
            · exact wpIn_exit (hQ _ _ _ _ _ _ _ j2 hle4 ha4)
            · exact wpIn_ret (hQ _ _ _ _ _ _ _ j2 hle4 ha4)
            · exact j2.elim
          · exact k7.elim
    · exact h.elim
end

end Go.Vm
