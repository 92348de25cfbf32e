/- Closed runs by evaluation, whatever order maps are walked in: the answer is asked of every end. -/
import Derived.Test.YtjandhdjjbfgcaaDoorV20
set_option linter.unusedSectionVars false
set_option linter.unusedSimpArgs false
set_option linter.unusedVariables false
/- Closed runs by evaluation, whatever order maps are walked in: the answer is asked of every end. -/
namespace Go.Vm
variable [Laid]

abbrev KV := Value → St → Bool
abbrev KF := Fr → List Nat → St → Bool
abbrev CallB := FuncId → List Value → St → KV → Bool
abbrev YieldB := Nat → List Value → St → KV → Bool
/-- What is done at each way out of a body. -/
structure KX where
  norm : KF
  exit : Nat → KF
  ret : KF

noncomputable def upB (call : CallB) (yld : YieldB) (s : St) (k : KV) (r : VR) : Bool :=
  VR.casesOn (motive := fun _ => Bool) r (fun v s' => k v s') (fun s' => k undef s') (fun f args => call f args s k) (fun b args => yld b args s k) (fun l => l.all fun x => k x.1 x.2) false

noncomputable def stepB (call : CallB) (yld : YieldB) (c : COp) (fr : Fr) (s : St) (k : Fr → St → Bool) : Bool :=
  Option.casesOn (motive := fun _ => Bool) c.guard (upB call yld s (fun v s' => k (fputE fr c.dst v) s') (vxE c.op (evE fr) s))
    (fun _ => match cwant fr c with
      | none => false
      | some b => Bool.rec (motive := fun _ => Bool) (k (fputE fr c.dst undef) s) (upB call yld s (fun v s' => k (fputE fr c.dst v) s') (vxE c.op (evE fr) s)) b)

noncomputable def regB (call : CallB) (yld : YieldB) (k : Fr → St → Bool) (l : List (COp × List COp)) : Fr → St → Bool :=
  List.rec (motive := fun _ => Fr → St → Bool) k
    (fun x _ ih fr s => stepB call yld x.1 fr s fun fr' s' => List.casesOn (motive := fun _ => Bool) x.2 (ih fr' s') fun _ _ => x.2.all (fun m => stableB m fr' s') && ih fr' s') l

noncomputable def loopB (body : KX → KF) (k : KX) (f : Nat) : KF :=
  Nat.rec (motive := fun _ => KF) (fun _ _ _ => false) (fun _ ih => body ⟨ih, k.exit, k.ret⟩) f

noncomputable def condB (c : Operand) (t e : KX → KF) (k : KX) (fr : Fr) (m : List Nat) (s : St) : Bool := match evE fr c with
  | some (.bool b) => Bool.rec (motive := fun _ => Bool) (e k fr m s) (t k fr m s) b
  | _ => false

noncomputable def rangeB (l : Nat) (k : KX) (fr : Fr) (m : List Nat) (s : St) : Bool :=
  match s.get l with
  | some (.loop st pend fr' N' ps' az' bo') => if st = .busy then false else match pend with
    | none => k.norm fr m (s.set l (.loop .exhausted pend fr' N' ps' az' bo'))
    | some (.exit id) => k.exit id fr m (s.set l (.loop .exhausted pend fr' N' ps' az' bo'))
    | some .ret => k.ret fr m (s.set l (.loop .exhausted pend fr' N' ps' az' bo'))
    | _ => false
  | _ => false
noncomputable def rangeFB (call : CallB) (rd : Option Nat) (N : Nat) (f : Operand) (ps : Array Tmp) (az bo : Code) (k : KX) (fr : Fr) (m : List Nat) (s : St) : Bool := match ev fr f, rangeIn rd N ps az bo fr m s with
  | some (.func (.func g) fi ca), some (l, m', s') => call g (fi.toList ++ [.func (.yield l) #[] #[]] ++ ca.toList) s' fun _ s3 => rangeB l k fr m' s3
  | _, _ => false

noncomputable def runB (call : CallB) (yld : YieldB) (rd : Option Nat) (N : Nat) (c : VC) : KX → KF :=
  VC.rec (motive := fun _ => KX → KF) (fun k => k.norm) (fun l k fr m s => regB call yld (fun fr s => k.norm fr m s) l fr s) (fun _ _ a b k => a ⟨b k, k.exit, k.ret⟩) (fun c _ _ t e => condB c t e)
    (fun id _ c k => c ⟨k.norm, fun i fr m s => Bool.rec (motive := fun _ => Bool) (k.exit i fr m s) (k.norm fr m s) (Nat.beq i id), k.ret⟩)
    (fun _ c k => loopB c k loopFuel) (fun id k => k.exit id) (fun k => k.ret) (rangeFB call rd N) c

noncomputable def endB (b : Nat) (st : LoopState) (pend : Option Code) (v : Bool) (k : KV) (s : St) : Bool :=
  match s.get b with
  | some (.loop _ _ fr2 N2 ps2 as2 bo2) => k (.bool v) (s.set b (.loop st pend fr2 N2 ps2 as2 bo2))
  | _ => false
noncomputable def beginB (b : Nat) (body : KF) (fr : Fr) (m : List Nat) (s : St) : Bool :=
  match s.get b with
  | some (.loop .ready pend fr' N' ps' az' bo') => body fr m (s.set b (.loop .busy pend fr' N' ps' az' bo'))
  | _ => false
noncomputable def yieldB (P : Program) (call : CallB) (yld : YieldB) (b : Nat) (args : List Value) (s : St) (k : KV) : Bool :=
  match s.get b with
  | some (.loop _ _ fr N ps az bo) =>
    if args.length = ps.size ∧ (ps.toList.all fun t => decide (t < N)) = true then
      match cc P N az, cc P N bo with
      | some va, some vb => runB call yld (some b) N va ⟨beginB b (runB call yld (some b) N vb ⟨fun _ _ s => endB b .ready none true k s, fun id _ _ s => endB b .done (some (.exit id)) false k s, fun _ _ s => endB b .done (some .ret) false k s⟩), fun _ _ _ _ => false, fun _ _ _ => false⟩ (setAll fr ps.toList args) [] s
      | _, _ => false
    else false
  | _ => false

noncomputable def leaveB (f : VFn) (k : KV) (fr : Fr) (m : List Nat) (s : St) : Bool := match shut m s with
  | some s2 => match vresAll fr s2 f.res with
    | some vs => k (packV vs) s2
    | none => false
  | none => false
noncomputable def fnB (call : CallB) (yld : YieldB) (f : VFn) (args : List Value) (s : St) (k : KV) : Bool :=
  Bool.rec (motive := fun _ => Bool) false (runB call yld none f.N f.code ⟨leaveB f k, fun _ _ _ _ => false, leaveB f k⟩ (argsFr 0 args .nil) [] s) (Nat.ble args.length f.N)

noncomputable def callB (P : Program) (ov : FuncId → Option (List Value → St → Option (Value × St))) (tbl : FuncId → Option VFn) (d : Nat) : CallB × YieldB :=
  Nat.rec (motive := fun _ => CallB × YieldB) (fun _ _ _ _ => false, fun _ _ _ _ => false) (fun _ cy =>
    (fun f args s k => match ov f with
      | some g => (match g args s with
        | some (v, s') => k v s'
        | none => false)
      | none => match tbl f with
        | some vf => fnB cy.1 cy.2 vf args s k
        | none => false,
     fun b args s k => yieldB P cy.1 cy.2 b args s k)) d

section
variable {P : Program} {call : CallB} {yld : YieldB}

def CallBOK (P : Program) (call : CallB) : Prop := ∀ f args s k, call f args s k = true → VCalls P f args s fun v t => k v t = true
def YieldBOK (P : Program) (yld : YieldB) : Prop := ∀ b args s k, yld b args s k = true → VYield P b args s fun v t => k v t = true

theorem upB_sound (hc : CallBOK P call) (hy : YieldBOK P yld) {o : VOp} {fr : Fr} {s : St} {k : KV} (h : upB call yld s k (vxE o (evE fr) s) = true) : vres P o (ev fr) s fun v t => k v t = true := by
  rw [vxE_eq, evE_eq] at h
  unfold vres
  generalize vx o (ev fr) s = R at *
  cases R with
  | val u t => exact h
  | skip t => exact h
  | call f args => exact hc _ _ _ _ h
  | yield b args => exact hy _ _ _ _ h
  | any l => exact fun x hx => List.all_eq_true.1 h x hx
  | bad => cases h

theorem stepB_sound (hc : CallBOK P call) (hy : YieldBOK P yld) {c : COp} {fr : Fr} {s : St} {k : Fr → St → Bool} (h : stepB call yld c fr s k = true) : vstep P c (fun fr s => k fr s = true) fr s := by
  unfold stepB at h
  unfold vstep
  have key : upB call yld s (fun v s' => k (fputE fr c.dst v) s') (vxE c.op (evE fr) s) = true → vres P c.op (ev fr) s fun v s' => k (fput fr c.dst v) s' = true := by
    intro h
    refine vres_mono (upB_sound hc hy h) fun v t h' => ?_
    rw [fputE_eq] at h'; exact h'
  cases hg : c.guard with
  | none =>
    have hw : cwant fr c = some true := by unfold cwant; rw [hg]
    rw [hg] at h; rw [hw]; exact key h
  | some g =>
    rw [hg] at h
    simp only at h
    split at h
    · cases h
    · rename_i b hw; rw [hw]
      cases b with
      | false => simp only [fputE_eq] at h; exact h
      | true => exact key h

theorem regB_sound (hc : CallBOK P call) (hy : YieldBOK P yld) {k : Fr → St → Bool} : ∀ {l : List (COp × List COp)} {fr : Fr} {s : St}, regB call yld k l fr s = true → vrun P l (fun fr s => k fr s = true) fr s
  | [], fr, s, h => h
  | (c, []) :: rest, fr, s, h => by
    have h : stepB call yld c fr s (fun fr' s' => regB call yld k rest fr' s') = true := h
    refine vstep_mono (stepB_sound hc hy h) fun fr' s' h' => ⟨fun m hm => (by cases hm), regB_sound hc hy h'⟩
  | (c, x :: xs) :: rest, fr, s, h => by
    have h : stepB call yld c fr s (fun fr' s' => (x :: xs).all (fun m => stableB m fr' s') && regB call yld k rest fr' s') = true := h
    refine vstep_mono (stepB_sound hc hy h) fun fr' s' h' => ?_
    rw [Bool.and_eq_true] at h'
    exact ⟨fun m hm => stableB_sound (List.all_eq_true.1 h'.1 m hm), regB_sound hc hy h'.2⟩

def KX.to (k : KX) : VK
  | .normal => fun fr m s => k.norm fr m s = true
  | .exit id => fun fr m s => k.exit id fr m s = true
  | .ret => fun fr m s => k.ret fr m s = true

theorem loopB_sound {rd : Option Nat} {N : Nat} {c : VC} {body : KX → KF} (hb : ∀ {k fr m s}, body k fr m s = true → c.run P rd N k.to fr m s) {k : KX} :
    ∀ (n : Nat) {fr m s}, loopB body k n fr m s = true → (VC.loop c).run P rd N k.to fr m s
  | 0, _, _, _, h => by cases h
  | n + 1, fr, m, s, h => by
    have h : body ⟨loopB body k n, k.exit, k.ret⟩ fr m s = true := h
    refine run_loop_fold (VC.run_mono ?_ (hb h))
    intro e fr m s h
    cases e with
    | normal => exact loopB_sound hb n h
    | exit id => exact h
    | ret => exact h

theorem runB_sound (hc : CallBOK P call) (hy : YieldBOK P yld) {rd : Option Nat} {N : Nat} : ∀ (c : VC) {k : KX} {fr : Fr} {m : List Nat} {s : St}, runB call yld rd N c k fr m s = true → c.run P rd N k.to fr m s
  | .skip, k, fr, m, s, h => h
  | .exit id, k, fr, m, s, h => h
  | .ret, k, fr, m, s, h => h
  | .reg l, k, fr, m, s, h => regB_sound hc hy (k := fun fr s => k.norm fr m s) h
  | .seq a b, k, fr, m, s, h => by
    have h : runB call yld rd N a ⟨runB call yld rd N b k, k.exit, k.ret⟩ fr m s = true := h
    simp only [VC.run]
    refine VC.run_mono ?_ (runB_sound hc hy a h)
    intro e fr m s h
    cases e with
    | normal => exact runB_sound hc hy b h
    | exit id => exact h
    | ret => exact h
  | .cond c t f, k, fr, m, s, h => by
    have h : condB c (runB call yld rd N t) (runB call yld rd N f) k fr m s = true := h
    unfold condB at h
    rw [evE_eq] at h
    simp only [VC.run]
    split at h
    · rename_i b hb; rw [hb]; cases b
      · exact runB_sound hc hy f h
      · exact runB_sound hc hy t h
    · cases h
  | .block id c, k, fr, m, s, h => by
    have h : runB call yld rd N c ⟨k.norm, fun i fr m s => Bool.rec (motive := fun _ => Bool) (k.exit i fr m s) (k.norm fr m s) (Nat.beq i id), k.ret⟩ fr m s = true := h
    simp only [VC.run]
    refine VC.run_mono ?_ (runB_sound hc hy c h)
    intro e fr m s h
    cases e with
    | normal => exact h
    | ret => exact h
    | exit i =>
      simp only [blockK]
      have h : Bool.rec (motive := fun _ => Bool) (k.exit i fr m s) (k.norm fr m s) (Nat.beq i id) = true := h
      by_cases hi : i = id
      · rw [if_pos hi]; subst hi
        rw [show Nat.beq i i = true from Nat.beq_refl i] at h; exact h
      · rw [if_neg hi]
        have hb : Nat.beq i id = false := by cases hb : Nat.beq i id with | false => rfl | true => exact (hi (Nat.eq_of_beq_eq_true hb)).elim
        rw [hb] at h; exact h
  | .loop c, k, fr, m, s, h => by
    have h : loopB (runB call yld rd N c) k loopFuel fr m s = true := h
    exact loopB_sound (fun h => runB_sound hc hy c h) loopFuel h
  | .rangeF f ps az bo, k, fr, m, s, h => by
    have h : rangeFB call rd N f ps az bo k fr m s = true := h
    unfold rangeFB at h
    simp only [VC.run]
    split at h
    · rename_i g fi ca l m1 s1 hf hin
      rw [hf, hin]
      refine VCalls.mono (hc _ _ _ _ h) ?_
      intro v s3 h3
      unfold rangeB at h3
      unfold rangeK
      split at h3
      · rename_i st pend fr2 N2 ps2 as2 bo2 hl
        rw [hl]
        split at h3
        · cases h3
        · rename_i hst
          refine ⟨hst, ?_⟩
          split at h3 <;> first | exact h3 | cases h3
      · cases h3
    · cases h

theorem yieldB_sound (hm : P.follows .mixedOrders = true) (hc : CallBOK P call) (hy : YieldBOK P yld) : YieldBOK P (yieldB P call yld) := by
  intro b args s k h
  refine yield_sound hm ?_
  unfold yieldB at h
  unfold yieldRun
  split at h
  · rename_i st pend fr N ps az bo hb
    rw [hb]
    split at h
    · rename_i h12
      refine ⟨h12.1, h12.2, ?_⟩
      split at h
      · rename_i va vb hva hvb
        rw [hva, hvb]
        refine VC.run_mono ?_ (runB_sound hc hy va h)
        intro e fr1 m1 s1 h1
        cases e with
        | exit id => cases h1
        | ret => cases h1
        | normal =>
          simp only [thenK, beginK]
          simp only [KX.to, beginB] at h1
          split at h1
          · rename_i pend2 fr2 N2 ps2 as2 bo2 hb2
            rw [hb2]
            refine VC.run_mono ?_ (runB_sound hc hy vb h1)
            intro e fr3 m3 s3 h3
            cases e <;>
            · simp only [KX.to, endB] at h3
              simp only [endK]
              split at h3
              · rename_i hb4; rw [hb4]; exact h3
              · cases h3
          · cases h1
      · cases h
    · cases h
  · cases h

theorem fnB_sound (hm : P.follows .mixedOrders = true) (hc : CallBOK P call) (hy : YieldBOK P yld) {f : FuncId} {fn : Func} {vf : VFn} (hf : P.funcs[f]? = some fn) (hcf : cfn P fn = some vf)
    (henter : ∀ (args' : Array Value) (w : World), (callFunc f args').run P w = .ok (.enter f args') w) {args : List Value} {s : St} {k : KV} (h : fnB call yld vf args s k = true) : VCalls P f args s fun v t => k v t = true := by
  refine fn_sound hm hf hcf henter ?_
  unfold fnB at h
  cases hN : Nat.ble args.length vf.N with
  | false => rw [hN] at h; cases h
  | true =>
    rw [hN] at h
    refine ⟨Nat.le_of_ble_eq_true hN, VC.run_mono ?_ (runB_sound hc hy _ h)⟩
    intro e fr m s1 h1
    cases e with
    | exit id => cases h1
    | normal =>
      simp only [KX.to, leaveB] at h1
      simp only [retK]
      split at h1
      · rename_i s2 h2
        rw [h2]
        split at h1
        · rename_i vs hvs; simp only [hvs]; exact h1
        · cases h1
      · cases h1
    | ret =>
      simp only [KX.to, leaveB] at h1
      simp only [retK]
      split at h1
      · rename_i s2 h2
        rw [h2]
        split at h1
        · rename_i vs hvs; simp only [hvs]; exact h1
        · cases h1
      · cases h1

theorem callB_sound (hm : P.follows .mixedOrders = true) {ov : FuncId → Option (List Value → St → Option (Value × St))} (ho : OverOK P ov) {tbl : FuncId → Option VFn} (ht : TblOK P tbl) : ∀ (d : Nat), CallBOK P (callB P ov tbl d).1 ∧ YieldBOK P (callB P ov tbl d).2
  | 0 => ⟨fun f args s k h => (by cases h), fun b args s k h => (by cases h)⟩
  | d + 1 => by
    obtain ⟨ih1, ih2⟩ := callB_sound hm ho ht d
    refine ⟨fun f args s k h => ?_, yieldB_sound hm ih1 ih2⟩
    have h : (match ov f with
      | some g => (match g args s with
        | some (v, s') => k v s'
        | none => false)
      | none => match tbl f with
        | some vf => fnB (callB P ov tbl d).1 (callB P ov tbl d).2 vf args s k
        | none => false) = true := h
    split at h
    · rename_i g hg
      split at h
      · rename_i v s' hv
        exact (ho f g hg args s v s' hv).mono fun u t ⟨h1, h2⟩ => by subst h1; subst h2; exact h
      · cases h
    · split at h
      · rename_i vf hvf
        obtain ⟨⟨fn, h1, h2⟩, h3⟩ := ht f vf hvf
        exact fnB_sound hm ih1 ih2 h1 h2 h3 h
      · cases h
end
end Go.Vm
