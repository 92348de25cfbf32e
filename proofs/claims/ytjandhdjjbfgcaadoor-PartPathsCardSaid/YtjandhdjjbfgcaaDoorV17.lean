/- Closed runs, by evaluation. -/
import Derived.Test.YtjandhdjjbfgcaaDoorV16
set_option linter.unusedSectionVars false
set_option linter.unusedSimpArgs false
set_option linter.unusedVariables false
/- Closed runs, by evaluation. -/
namespace Go.Vm
variable [Laid]

/-- What is called, and yielded, within. -/
abbrev CallF := FuncId → List Value → St → Option (Value × St)
abbrev YieldF := Nat → List Value → St → Option (Value × St)

noncomputable def evOp (call : CallF) (yld : YieldF) (o : VOp) (fr : Fr) (s : St) : Option (Value × St) :=
  match vxE o (evE fr) s with
  | .val v s' => some (v, s')
  | .skip s' => some (undef, s')
  | .call f args => call f args s
  | .yield b args => yld b args s
  | .any [x] => some x
  | .any _ => none
  | .bad => none

/-- Simple values that are the same. -/
def sameV : Value → Value → Bool
  | .bool a, .bool b => a == b
  | .int k a, .int k' b => decide (k = k') && a == b
  | .string a, .string b => decide (a = b)
  | .pointer none, .pointer none => true
  | .pointer (some ⟨b, o, none⟩), .pointer (some ⟨b', o', none⟩) => b == b' && o == o'
  | .slice none n c, .slice none n' c' => n == n' && c == c'
  | .slice (some ⟨b, o, none⟩) n c, .slice (some ⟨b', o', none⟩) n' c' => b == b' && o == o' && n == n' && c == c'
  | .map a, .map b => a == b
  | .nilFunc, .nilFunc => true
  | .nilIface, .nilIface => true
  | _, _ => false
theorem sameV_spec {u v : Value} (h : sameV u v = true) : u = v := by
  unfold sameV at h
  split at h <;> simp_all

def stableB (c : COp) (fr : Fr) (s : St) : Bool :=
  match cwant fr c with
  | none => false
  | some false => true
  | some true => c.op.quiet && match vx c.op (ev fr) s with
    | .val v _ => match c.dst with
      | none => true
      | some d => match fr.get d with
        | some u => sameV u v
        | none => false
    | _ => false

noncomputable def evStep (call : CallF) (yld : YieldF) (c : COp) (fr : Fr) (s : St) : Option (Fr × St) :=
  match c.guard with
  | none => match evOp call yld c.op fr s with
    | some (v, s') => some (fputE fr c.dst v, s')
    | none => none
  | some _ => match cwant fr c with
    | none => none
    | some false => some (fputE fr c.dst undef, s)
    | some true => match evOp call yld c.op fr s with
      | some (v, s') => some (fputE fr c.dst v, s')
      | none => none

noncomputable def evReg (call : CallF) (yld : YieldF) (l : List (COp × List COp)) : Fr → St → Option (Fr × St) :=
  List.rec (motive := fun _ => Fr → St → Option (Fr × St)) (fun fr s => some (fr, s))
    (fun x _ ih fr s => match evStep call yld x.1 fr s with
      | some (fr', s') => match x.2 with
        | [] => ih fr' s'
        | chk => if chk.all (fun m => stableB m fr' s') then ih fr' s' else none
      | none => none) l

abbrev Res := Option (VX × Fr × List Nat × St)

def loopFuel : Nat := 100000

noncomputable def evLoop (body : Fr → List Nat → St → Res) (f : Nat) : Fr → List Nat → St → Res :=
  Nat.rec (motive := fun _ => Fr → List Nat → St → Res) (fun _ _ _ => none) (fun _ ih fr m s => match body fr m s with
    | some (.normal, fr', m', s') => ih fr' m' s'
    | r => r) f

noncomputable def eReg (call : CallF) (yld : YieldF) (l : List (COp × List COp)) (fr : Fr) (m : List Nat) (s : St) : Res := match evReg call yld l fr s with
  | some (fr', s') => some (.normal, fr', m, s')
  | none => none
noncomputable def eSeq (a b : Fr → List Nat → St → Res) (fr : Fr) (m : List Nat) (s : St) : Res := match a fr m s with
  | some (.normal, fr', m', s') => b fr' m' s'
  | r => r
noncomputable def eCond (c : Operand) (t e : Fr → List Nat → St → Res) (fr : Fr) (m : List Nat) (s : St) : Res := match evE fr c with
  | some (.bool b) => Bool.rec (motive := fun _ => Res) (e fr m s) (t fr m s) b
  | _ => none
noncomputable def eBlock (id : Nat) (c : Fr → List Nat → St → Res) (fr : Fr) (m : List Nat) (s : St) : Res := match c fr m s with
  | some (.exit i, fr', m', s') => if i = id then some (.normal, fr', m', s') else some (.exit i, fr', m', s')
  | r => r
noncomputable def eRange (call : CallF) (rd : Option Nat) (N : Nat) (f : Operand) (ps : Array Tmp) (az bo : Code) (fr : Fr) (m : List Nat) (s : St) : Res := match ev fr f, rangeIn rd N ps az bo fr m s with
  | some (.func (.func g) fi ca), some (l, m', s') => match call g (fi.toList ++ [.func (.yield l) #[] #[]] ++ ca.toList) s' with
    | some (_, s3) => match s3.get l with
      | some (.loop st pend fr' N' ps' az' bo') => if st = .busy then none else match pend with
        | none => some (.normal, fr, m', s3.set l (.loop .exhausted pend fr' N' ps' az' bo'))
        | some (.exit id) => some (.exit id, fr, m', s3.set l (.loop .exhausted pend fr' N' ps' az' bo'))
        | some .ret => some (.ret, fr, m', s3.set l (.loop .exhausted pend fr' N' ps' az' bo'))
        | _ => none
      | _ => none
    | none => none
  | _, _ => none

noncomputable def evC (call : CallF) (yld : YieldF) (rd : Option Nat) (N : Nat) (c : VC) : Fr → List Nat → St → Res :=
  VC.rec (motive := fun _ => Fr → List Nat → St → Res) (fun fr m s => some (.normal, fr, m, s)) (eReg call yld) (fun _ _ a b => eSeq a b) (fun c _ _ t e => eCond c t e) (fun id _ c => eBlock id c)
    (fun _ c => evLoop c loopFuel) (fun id fr m s => some (.exit id, fr, m, s)) (fun fr m s => some (.ret, fr, m, s)) (eRange call rd N) c

noncomputable def evYield (P : Program) (call : CallF) (yld : YieldF) (b : Nat) (args : List Value) (s : St) : Option (Value × St) :=
  match s.get b with
  | some (.loop _ _ fr N ps az bo) =>
    if args.length = ps.size ∧ (ps.toList.all fun t => decide (t < N)) = true then
      match cc P N az, cc P N bo with
      | some va, some vb => match evC call yld (some b) N va (setAll fr ps.toList args) [] s with
        | some (.normal, fr1, m1, s1) => match s1.get b with
          | some (.loop .ready pend fr' N' ps' az' bo') => match evC call yld (some b) N vb fr1 m1 (s1.set b (.loop .busy pend fr' N' ps' az' bo')) with
            | some (e, _, _, s2) => match s2.get b with
              | some (.loop _ _ fr2 N2 ps2 as2 bo2) => match e with
                | .normal => some (.bool true, s2.set b (.loop .ready none fr2 N2 ps2 as2 bo2))
                | .exit id => some (.bool false, s2.set b (.loop .done (some (.exit id)) fr2 N2 ps2 as2 bo2))
                | .ret => some (.bool false, s2.set b (.loop .done (some .ret) fr2 N2 ps2 as2 bo2))
              | _ => none
            | none => none
          | _ => none
        | _ => none
      | _, _ => none
    else none
  | _ => none

noncomputable def evFn (call : CallF) (yld : YieldF) (f : VFn) (args : List Value) (s : St) : Option (Value × St) :=
  if args.length ≤ f.N then
    match evC call yld none f.N f.code (argsFr 0 args .nil) [] s with
    | some (.ret, fr, m, s') | some (.normal, fr, m, s') => match shut m s' with
      | some s2 => match vresAll fr s2 f.res with
        | some vs => some (packV vs, s2)
        | none => none
      | none => none
    | _ => none
  else none

/-- Calls, to a depth: 'ov' knows some functions without their code. -/
noncomputable def evCall (P : Program) (ov : FuncId → Option (List Value → St → Option (Value × St))) (tbl : FuncId → Option VFn) : Nat → CallF × YieldF
  | 0 => (fun _ _ _ => none, fun _ _ _ => none)
  | d + 1 => let (c, y) := evCall P ov tbl d
    (fun f args s => match ov f with
      | some g => g args s
      | none => match tbl f with
        | some vf => evFn c y vf args s
        | none => none,
     fun b args s => evYield P c y b args s)

/-! ### That an evaluation is a run -/

section
variable {P : Program} {call : CallF} {yld : YieldF}

/-- What is called, and yielded, is sound. -/
def CallOK (P : Program) (call : CallF) : Prop := ∀ f args s v s', call f args s = some (v, s') → VCalls P f args s fun u t => u = v ∧ t = s'
def YieldOK (P : Program) (yld : YieldF) : Prop := ∀ b args s v s', yld b args s = some (v, s') → VYield P b args s fun u t => u = v ∧ t = s'

theorem evOp_sound (hc : CallOK P call) (hy : YieldOK P yld) {o : VOp} {fr : Fr} {s s' : St} {v : Value} (h : evOp call yld o fr s = some (v, s')) : vres P o (ev fr) s fun u t => u = v ∧ t = s' := by
  unfold evOp at h
  rw [vxE_eq, evE_eq] at h
  unfold vres
  generalize vx o (ev fr) s = R at *
  cases R with
  | val u t => cases h; exact ⟨rfl, rfl⟩
  | skip t => cases h; exact ⟨rfl, rfl⟩
  | call f args => exact hc _ _ _ _ _ h
  | yield b args => exact hy _ _ _ _ _ h
  | any l =>
    match l, h with
    | [x], h => cases h; intro y hy; rw [List.mem_singleton.1 hy]; exact ⟨rfl, rfl⟩
    | [], h => cases h
    | _ :: _ :: _, h => cases h
  | bad => cases h

theorem evStep_sound (hc : CallOK P call) (hy : YieldOK P yld) {c : COp} {fr fr' : Fr} {s s' : St} (h : evStep call yld c fr s = some (fr', s')) : vstep P c (fun fr2 s2 => fr2 = fr' ∧ s2 = s') fr s := by
  unfold evStep at h
  unfold vstep
  have key : (match evOp call yld c.op fr s with
      | some (v, s') => some (fputE fr c.dst v, s')
      | none => none) = some (fr', s') → vres P c.op (ev fr) s fun v s2 => fput fr c.dst v = fr' ∧ s2 = s' := by
    intro h
    split at h
    · rename_i v s1 he
      rw [fputE_eq] at h
      cases h
      exact vres_mono (evOp_sound hc hy he) fun u t ⟨h1, h2⟩ => by subst h1; subst h2; exact ⟨rfl, rfl⟩
    · cases h
  cases hg : c.guard with
  | none =>
    have hw : cwant fr c = some true := by unfold cwant; rw [hg]
    rw [hg] at h; rw [hw]; exact key h
  | some g =>
    rw [hg] at h
    simp only at h
    split at h
    · cases h
    · rename_i hw; rw [hw]; rw [fputE_eq] at h; cases h; exact ⟨rfl, rfl⟩
    · rename_i hw; rw [hw]; exact key h

theorem stableB_sound {c : COp} {fr : Fr} {s : St} (h : stableB c fr s = true) : stable c fr s := by
  unfold stableB at h
  unfold stable
  split at h
  · cases h
  · rename_i hw; rw [hw]; trivial
  · rename_i hw; rw [hw]
    rw [Bool.and_eq_true] at h
    obtain ⟨hq, h⟩ := h
    rcases quiet_val hq (ev fr) s with ⟨v, e⟩ | e
    · rw [e] at h
      refine ⟨v, e, fun d hd => ?_⟩
      rw [hd] at h
      simp only at h
      split at h
      · rename_i u hu; rw [hu, sameV_spec h]
      · cases h
    · rw [e] at h; cases h

theorem evReg_cons {c : COp} {chk : List COp} {rest : List (COp × List COp)} {fr : Fr} {s : St} : evReg call yld ((c, chk) :: rest) fr s = match evStep call yld c fr s with
      | some (fr', s') => match chk with
        | [] => evReg call yld rest fr' s'
        | chk => if chk.all (fun m => stableB m fr' s') then evReg call yld rest fr' s' else none
      | none => none := rfl

theorem evReg_sound (hc : CallOK P call) (hy : YieldOK P yld) : ∀ {l : List (COp × List COp)} {fr fr' : Fr} {s s' : St}, evReg call yld l fr s = some (fr', s') → vrun P l (fun fr2 s2 => fr2 = fr' ∧ s2 = s') fr s
  | [], fr, fr', s, s', h => by cases h; exact ⟨rfl, rfl⟩
  | (c, chk) :: rest, fr, fr', s, s', h => by
    rw [evReg_cons] at h
    split at h
    · rename_i fr1 s1 he
      refine vstep_mono (evStep_sound hc hy he) ?_
      rintro _ _ ⟨rfl, rfl⟩
      split at h
      · exact ⟨fun m hm => (by cases hm), evReg_sound hc hy h⟩
      · split at h
        · rename_i hch
          exact ⟨fun m hm => stableB_sound (List.all_eq_true.1 hch m hm), evReg_sound hc hy h⟩
        · cases h
    · cases h

/-- The post that says: so it ends. -/
def isK (e : VX) (fr : Fr) (m : List Nat) (s : St) : VK := fun e' fr' m' s' => e' = e ∧ fr' = fr ∧ m' = m ∧ s' = s

theorem run_of_is {rd : Option Nat} {N : Nat} {c : VC} {e : VX} {fr fr' : Fr} {m m' : List Nat} {s s' : St} {K : VK} (h : c.run P rd N (isK e fr' m' s') fr m s) (hk : K e fr' m' s') : c.run P rd N K fr m s :=
  VC.run_mono (by rintro _ _ _ _ ⟨rfl, rfl, rfl, rfl⟩; exact hk) h

theorem evLoop_succ {body : Fr → List Nat → St → Res} {k : Nat} {fr : Fr} {m : List Nat} {s : St} : evLoop body (k + 1) fr m s = match body fr m s with
    | some (.normal, fr', m', s') => evLoop body k fr' m' s'
    | r => r := rfl

theorem evLoop_sound {rd : Option Nat} {N : Nat} {c : VC} {body : Fr → List Nat → St → Res} (hb : ∀ {fr m s e fr' m' s'}, body fr m s = some (e, fr', m', s') → c.run P rd N (isK e fr' m' s') fr m s) :
    ∀ (k : Nat) {fr m s e fr' m' s'}, evLoop body k fr m s = some (e, fr', m', s') → e ≠ .normal ∧ (VC.loop c).run P rd N (isK e fr' m' s') fr m s
  | 0, _, _, _, _, _, _, _, h => by cases h
  | k + 1, fr, m, s, e, fr', m', s', h => by
    rw [evLoop_succ] at h
    split at h
    · rename_i fr1 m1 s1 he
      obtain ⟨h1, h2⟩ := evLoop_sound hb k h
      exact ⟨h1, run_loop_fold (run_of_is (hb he) h2)⟩
    · rename_i r hne
      cases e with
      | normal => exact (hne _ _ _ h).elim
      | exit id => exact ⟨by simp, run_loop_fold (run_of_is (hb h) ⟨rfl, rfl, rfl, rfl⟩)⟩
      | ret => exact ⟨by simp, run_loop_fold (run_of_is (hb h) ⟨rfl, rfl, rfl, rfl⟩)⟩

theorem evC_sound (hc : CallOK P call) (hy : YieldOK P yld) {rd : Option Nat} {N : Nat} : ∀ (c : VC) {fr fr' : Fr} {m m' : List Nat} {s s' : St} {e : VX}, evC call yld rd N c fr m s = some (e, fr', m', s') → c.run P rd N (isK e fr' m' s') fr m s
  | .skip, fr, fr', m, m', s, s', e, h => by cases h; exact ⟨rfl, rfl, rfl, rfl⟩
  | .exit id, fr, fr', m, m', s, s', e, h => by cases h; exact ⟨rfl, rfl, rfl, rfl⟩
  | .ret, fr, fr', m, m', s, s', e, h => by cases h; exact ⟨rfl, rfl, rfl, rfl⟩
  | .reg l, fr, fr', m, m', s, s', e, h => by
    have h : eReg call yld l fr m s = _ := h
    unfold eReg at h
    split at h
    · rename_i fr1 s1 he
      cases h
      exact vrun_mono (by rintro _ _ ⟨rfl, rfl⟩; exact ⟨rfl, rfl, rfl, rfl⟩) _ _ _ (evReg_sound hc hy he)
    · cases h
  | .seq a b, fr, fr', m, m', s, s', e, h => by
    have h : eSeq (evC call yld rd N a) (evC call yld rd N b) fr m s = _ := h
    unfold eSeq at h
    simp only [VC.run]
    split at h
    · rename_i fr1 m1 s1 he
      exact run_of_is (evC_sound hc hy a he) (evC_sound hc hy b h)
    · rename_i r hne
      cases e with
      | normal => exact (hne _ _ _ h).elim
      | exit id => exact run_of_is (evC_sound hc hy a h) ⟨rfl, rfl, rfl, rfl⟩
      | ret => exact run_of_is (evC_sound hc hy a h) ⟨rfl, rfl, rfl, rfl⟩
  | .cond c t f, fr, fr', m, m', s, s', e, h => by
    have h : eCond c (evC call yld rd N t) (evC call yld rd N f) fr m s = _ := h
    unfold eCond at h
    rw [evE_eq] at h
    simp only [VC.run]
    split at h
    · rename_i b hb; rw [hb]; cases b
      · exact evC_sound hc hy f h
      · exact evC_sound hc hy t h
    · cases h
  | .block id c, fr, fr', m, m', s, s', e, h => by
    have h : eBlock id (evC call yld rd N c) fr m s = _ := h
    unfold eBlock at h
    simp only [VC.run]
    split at h
    · rename_i i fr1 m1 s1 he
      refine run_of_is (evC_sound hc hy c he) ?_
      simp only [blockK]
      split at h
      · rename_i hi; cases h; rw [if_pos hi]; exact ⟨rfl, rfl, rfl, rfl⟩
      · rename_i hi; cases h; rw [if_neg hi]; exact ⟨rfl, rfl, rfl, rfl⟩
    · rename_i r hne
      cases e with
      | normal => exact run_of_is (evC_sound hc hy c h) ⟨rfl, rfl, rfl, rfl⟩
      | exit id => exact (hne _ _ _ _ h).elim
      | ret => exact run_of_is (evC_sound hc hy c h) ⟨rfl, rfl, rfl, rfl⟩
  | .loop c, fr, fr', m, m', s, s', e, h => by
    have h : evLoop (evC call yld rd N c) loopFuel fr m s = _ := h
    exact (evLoop_sound (fun h => evC_sound hc hy c h) loopFuel h).2
  | .rangeF f ps az bo, fr, fr', m, m', s, s', e, h => by
    have h : eRange call rd N f ps az bo fr m s = _ := h
    unfold eRange at h
    simp only [VC.run]
    split at h
    · rename_i g fi ca l m1 s1 hf hin
      rw [hf, hin]
      split at h
      · rename_i v s3 hcall
        refine VCalls.mono (hc _ _ _ _ _ hcall) ?_
        rintro u t ⟨rfl, rfl⟩
        unfold rangeK
        split at h
        · rename_i st pend fr2 N2 ps2 as2 bo2 hl
          rw [hl]
          split at h
          · cases h
          · rename_i hst
            refine ⟨hst, ?_⟩
            split at h <;> first | (cases h; exact ⟨rfl, rfl, rfl, rfl⟩) | cases h
        · cases h
      · cases h
    · cases h

theorem evYield_sound (hm : P.follows .mixedOrders = true) (hc : CallOK P call) (hy : YieldOK P yld) : YieldOK P (evYield P call yld) := by
  intro b args s v s' h
  refine yield_sound hm ?_
  unfold evYield at h
  unfold yieldRun
  split at h
  · rename_i st pend fr N ps az bo hb
    rw [hb]
    split at h
    · rename_i h12
      refine ⟨h12.1, h12.2, ?_⟩
      split at h
      · rename_i va vb hva hvb
        rw [hva, hvb]
        split at h
        · rename_i fr1 m1 s1 h1
          refine run_of_is (evC_sound hc hy va h1) ?_
          simp only [thenK, beginK]
          split at h
          · rename_i pend2 fr2 N2 ps2 as2 bo2 hb2
            rw [hb2]
            split at h
            · rename_i e fr3 m3 s3 h3
              refine run_of_is (evC_sound hc hy vb h3) ?_
              split at h
              · rename_i st4 pend4 fr4 N4 ps4 as4 bo4 hb4
                cases e <;> (simp only at h; cases h; simp only [endK, hb4]; exact ⟨trivial, trivial⟩)
              · cases h
            · cases h
          · cases h
        · cases h
      · cases h
    · cases h
  · cases h

theorem evFn_sound (hm : P.follows .mixedOrders = true) (hc : CallOK P call) (hy : YieldOK P yld) {f : FuncId} {fn : Func} {vf : VFn} (hf : P.funcs[f]? = some fn) (hcf : cfn P fn = some vf)
    (henter : ∀ (args' : Array Value) (w : World), (callFunc f args').run P w = .ok (.enter f args') w) {args : List Value} {s s' : St} {v : Value} (h : evFn call yld vf args s = some (v, s')) : VCalls P f args s fun u t => u = v ∧ t = s' := by
  refine fn_sound hm hf hcf henter ?_
  unfold evFn at h
  split at h
  · rename_i hN
    refine ⟨hN, ?_⟩
    split at h
    · rename_i fr m s1 h1
      refine run_of_is (evC_sound hc hy _ h1) ?_
      simp only [retK]
      split at h
      · rename_i s2 h2
        rw [h2]
        split at h
        · rename_i vs hvs; simp only [hvs]; cases h; exact ⟨rfl, rfl⟩
        · cases h
      · cases h
    · rename_i fr m s1 h1
      refine run_of_is (evC_sound hc hy _ h1) ?_
      simp only [retK]
      split at h
      · rename_i s2 h2
        rw [h2]
        split at h
        · rename_i vs hvs; simp only [hvs]; cases h; exact ⟨rfl, rfl⟩
        · cases h
      · cases h
    · cases h
  · cases h

/-- Every function of a table is the program's, resolved, and is called as it is. -/
def TblOK (P : Program) (tbl : FuncId → Option VFn) : Prop := ∀ f vf, tbl f = some vf → (∃ fn, P.funcs[f]? = some fn ∧ cfn P fn = some vf) ∧ ∀ (args' : Array Value) (w : World), (callFunc f args').run P w = .ok (.enter f args') w

/-- What is known of functions without their code, is so. -/
def OverOK (P : Program) (ov : FuncId → Option (List Value → St → Option (Value × St))) : Prop :=
  ∀ f g, ov f = some g → ∀ args s v s', g args s = some (v, s') → VCalls P f args s fun u t => u = v ∧ t = s'

theorem evCall_sound (hm : P.follows .mixedOrders = true) {ov : FuncId → Option (List Value → St → Option (Value × St))} (ho : OverOK P ov) {tbl : FuncId → Option VFn} (ht : TblOK P tbl) : ∀ (d : Nat), CallOK P (evCall P ov tbl d).1 ∧ YieldOK P (evCall P ov tbl d).2
  | 0 => ⟨fun f args s v s' h => by simp [evCall] at h, fun b args s v s' h => by simp [evCall] at h⟩
  | d + 1 => by
    obtain ⟨ih1, ih2⟩ := evCall_sound hm ho ht d
    refine ⟨fun f args s v s' h => ?_, evYield_sound hm ih1 ih2⟩
    simp only [evCall] at h
    split at h
    · rename_i g hg; exact ho f g hg args s v s' h
    · split at h
      · rename_i vf hvf
        obtain ⟨⟨fn, h1, h2⟩, h3⟩ := ht f vf hvf
        exact evFn_sound hm ih1 ih2 h1 h2 h3 h
      · cases h
end
end Go.Vm
