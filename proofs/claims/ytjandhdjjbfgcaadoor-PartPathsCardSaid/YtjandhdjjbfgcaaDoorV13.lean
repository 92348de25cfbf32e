/- A region that draws its order: the proof that our order serves all. -/
import Derived.Test.YtjandhdjjbfgcaaDoorV12
set_option linter.unusedSectionVars false
set_option linter.unusedSimpArgs false
set_option linter.unusedVariables false
/- A region that draws its order: the proof that our order serves all. -/
namespace Go.Vm
open Go.RowKit (Below)
variable [Laid]

def evG (g : Tmp → Option Value) : Operand → Option Value
  | .tmp t => g t
  | .const v => if constOkA v = true then some v else none
  | .func f => some (.func (.func f) #[] #[])
  | .global _ => none
theorem ev_eq (fr : Fr) : ev fr = evG fr.get := by funext x; cases x <;> rfl

def cwantG (g : Tmp → Option Value) (c : COp) : Option Bool :=
  match c.guard with
  | none => some true
  | some (none, _) => none
  | some (some t, b) => match g t with
    | some (.bool x) => some (x == b)
    | some _ => some false
    | none => none
theorem cwant_eq (fr : Fr) (c : COp) : cwant fr c = cwantG fr.get c := rfl

theorem evG_congr {c : COp} {g g' : Tmp → Option Value} (h : ∀ t ∈ c.slots, g t = g' t) : ∀ x ∈ c.op.opnds, evG g x = evG g' x := by
  intro x hx
  cases x with
  | tmp t => exact h t (List.mem_append_left _ (List.mem_filterMap.2 ⟨_, hx, rfl⟩))
  | _ => rfl
theorem vxG_congr {c : COp} {g g' : Tmp → Option Value} (h : ∀ t ∈ c.slots, g t = g' t) (s : St) : vx c.op (evG g) s = vx c.op (evG g') s := vx_congr s (evG_congr h)
theorem cwantG_congr {c : COp} {g g' : Tmp → Option Value} (h : ∀ t ∈ c.slots, g t = g' t) : cwantG g c = cwantG g' c := by
  unfold cwantG
  cases hg : c.guard with
  | none => rfl
  | some jb =>
    obtain ⟨j, b⟩ := jb
    cases j with
    | none => rfl
    | some t => simp only; rw [h t (List.mem_append_right _ (by simp [hg]))]

def vstepG (P : Program) (c : COp) (K : Value → St → Prop) (g : Tmp → Option Value) (s : St) : Prop :=
  match cwantG g c with
  | none => False
  | some false => K undef s
  | some true => vres P c.op (evG g) s K
theorem vstep_eq {P : Program} {c : COp} {K : Fr → St → Prop} {fr : Fr} {s : St} : vstep P c K fr s = vstepG P c (fun v s' => K (fput fr c.dst v) s') fr.get s := by
  unfold vstep vstepG; rw [cwant_eq, ev_eq]; rfl
theorem vstepG_congr {P : Program} {c : COp} {K : Value → St → Prop} {g g' : Tmp → Option Value} {s : St} (h : ∀ t ∈ c.slots, g t = g' t) : vstepG P c K g s = vstepG P c K g' s := by
  unfold vstepG vres; rw [cwantG_congr h, vxG_congr h]

/-- What a quiet operation does. -/
def outG (c : COp) (g : Tmp → Option Value) (s : St) (u : Value) : Prop :=
  match cwantG g c with
  | none => False
  | some false => u = undef
  | some true => vx c.op (evG g) s = .val u s
theorem outG_congr {c : COp} {g g' : Tmp → Option Value} {s : St} {u : Value} (h : ∀ t ∈ c.slots, g t = g' t) : outG c g s u = outG c g' s u := by
  unfold outG; rw [cwantG_congr h, vxG_congr h]
theorem outG_step {P : Program} {c : COp} {g : Tmp → Option Value} {s : St} {u : Value} (h : outG c g s u) : vstepG P c (fun v s' => v = u ∧ s' = s) g s := by
  unfold outG at h; unfold vstepG
  cases hw : cwantG g c with
  | none => rw [hw] at h; exact h
  | some b => cases b <;> rw [hw] at h <;> simp_all [vres]
theorem quiet_out {P : Program} {c : COp} {K : Value → St → Prop} {g : Tmp → Option Value} {s : St} (hq : c.op.quiet = true) (h : vstepG P c K g s) : ∃ u, outG c g s u ∧ K u s := by
  unfold vstepG at h; unfold outG
  cases hw : cwantG g c with
  | none => rw [hw] at h; exact h.elim
  | some b =>
    cases b <;> rw [hw] at h
    · exact ⟨undef, rfl, h⟩
    · rcases quiet_val hq (evG g) s with ⟨v, e⟩ | e
      · simp only [vres, e] at h; exact ⟨v, e, h⟩
      · simp only [vres, e] at h

section
variable {P : Program} {ι : Emb} {s : St} {w : World} {base : Nat} {w0 : World}

theorem stepG_sound {r : Option Nat} {n : Nat} {ops : Array Oper} {i : Nat} {o : Oper} {g : Tmp → Option Value} {a : Act} {K : Value → St → Prop} {K' : Act → World → Prop} {Q : Exit → Act → World → Prop}
    (hi : ops[i]? = some o) (gd : Good ι s w base w0)
    (hg : ∀ t ∈ (comp1 P ops o).slots, ∀ v, g t = some v → ∃ v', a.tmps[t]? = some v' ∧ VRel ι v v')
    (h : vstepG P (comp1 P ops o) K g s)
    (hn : ∀ v v' s' w' κ, K v s' → ι.le κ → VRel κ v v' → Good κ s' w' base w0 → K' (a.put o.dst v') w') : wpOpIn (fence r) n P ops Q i K' a w := by
  unfold wpOpIn
  simp only [hi]
  unfold vstepG at h
  have hguard : ∀ t x, (comp1 P ops o).guard = some (some t, x) → ∀ v, g t = some v → ∃ v', a.tmps[t]? = some v' ∧ VRel ι v v' :=
    fun t x hx v e => hg t (List.mem_append_right _ (by rw [hx]; simp)) v e
  cases hw : cwantG g (comp1 P ops o) with
  | none => simp [hw] at h
  | some b =>
    have hwant : Region.wanted o (yielded ops a.tmps) = b := by
      unfold cwantG at hw
      unfold Region.wanted
      cases hgd : o.guard with
      | none => simp [comp1, hgd] at hw; subst hw; rfl
      | some jw =>
        obtain ⟨j, want⟩ := jw
        simp only [comp1, hgd] at hw hguard
        simp only [yielded]
        cases hd : (ops[j]?).bind (·.dst) with
        | none => simp [hd] at hw
        | some t =>
          simp only [hd] at hw hguard
          simp only [Option.bind_some]
          split at hw
          · rename_i x hx
            obtain ⟨v', e1, e2⟩ := hguard _ _ rfl _ hx
            cases e2
            cases hw
            rw [e1]; cases x <;> cases want <;> rfl
          · rename_i v hne hx
            obtain ⟨v', e1, e2⟩ := hguard _ _ rfl _ hx
            cases hw
            rw [e1]
            cases e2 <;> first | rfl | exact (hne _ rfl).elim
          · cases hw
    cases b with
    | false =>
      simp only [hw] at h
      rw [if_neg (by rw [hwant]; simp)]
      exact ⟨fun _ _ => trivial, hn undef undef s w ι h (Emb.le_refl _) VRel.undef gd⟩
    | true =>
      simp only [hw] at h
      rw [if_pos hwant]
      cases hc : comp P o with
      | none => simp [comp1, hc, vres, vx] at h
      | some vo =>
        have hvo : (comp1 P ops o).op = vo := by simp [comp1, hc]
        rw [hvo] at h
        let _ : ∀ x, Decidable (x ∈ vo.opnds) := fun x => Classical.propDecidable _
        let e : Operand → Option Value := fun x => if x ∈ vo.opnds then evG g x else none
        have hee : vx vo e s = vx vo (evG g) s := vx_congr s fun x hx => if_pos hx
        have h' : vres P vo e s K := by unfold vres at h ⊢; rw [hee]; exact h
        refine vres_sound hc gd ?_ h' hn
        intro x v hx
        show VRel ι v (a.eval x)
        have hx' : (if x ∈ vo.opnds then evG g x else none) = some v := hx
        split at hx'
        · rename_i hm
          cases x with
          | tmp t =>
            obtain ⟨v', h1, h2⟩ := hg t (List.mem_append_left _ (List.mem_filterMap.2 ⟨_, hvo ▸ hm, rfl⟩)) v hx'
            simp only [Act.eval, Array.getD_eq_getD_getElem?, h1, Option.getD_some]; exact h2
          | const c =>
            simp only [evG] at hx'
            split at hx'
            · rename_i hc; cases hx'; exact .constA hc
            · cases hx'
          | func f => simp only [evG] at hx'; cases hx'; exact .func rfl (fun i v v' h => by simp at h) rfl (fun i v v' h => by simp at h)
          | global g => simp [evG] at hx'
        · cases hx'

/-! ### The static facts -/

structure PlanOK (cs : List COp) (mk : List Nat) (ds : List (List Nat)) (n : Nat) : Prop where
  bef : ∀ i j, (mk.getD i 0).testBit j = true → Bef ds j i
  small : ∀ i e, e ∈ ds.getD i [] → e < i
  one : ∀ (i j : Nat) (t : Tmp), i < n → j < n → (cs.getD i default).dst = some t → (cs.getD j default).dst = some t → i = j
  look : ∀ (i j : Nat) (t : Tmp), i < n → j < n → i ≠ j → (cs.getD i default).dst = some t → t ∈ (cs.getD j default).slots → (mk.getD j 0).testBit i = true ∨ (mk.getD i 0).testBit j = true

def wr (cs : List COp) (n : Nat) (t : Tmp) : Option Nat := (List.range n).find? fun i => (cs.getD i default).dst == some t

theorem wr_spec {cs : List COp} {mk : List Nat} {ds : List (List Nat)} {n : Nat} (hp : PlanOK cs mk ds n) {t : Tmp} {i : Nat} : wr cs n t = some i ↔ i < n ∧ (cs.getD i default).dst = some t := by
  constructor
  · intro h
    have h1 := List.find?_some h
    have h2 := List.mem_of_find?_eq_some h
    exact ⟨List.mem_range.1 h2, by simpa using h1⟩
  · rintro ⟨h1, h2⟩
    cases h : wr cs n t with
    | none =>
      have := List.find?_eq_none.1 h i (List.mem_range.2 h1)
      rw [h2] at this; simp at this
    | some j =>
      have h1' := List.mem_range.1 (List.mem_of_find?_eq_some h)
      have h2' := List.find?_some h
      rw [hp.one i j t h1 h1' h2 (by simpa using h2')]

/-- The slots, when those of D have been done. -/
def cur (cs : List COp) (n : Nat) (fr0 : Fr) (val : Nat → Value) (D : Nat → Prop) [DecidablePred D] (t : Tmp) : Option Value :=
  match wr cs n t with
  | some i => if D i then some (val i) else fr0.get t
  | none => fr0.get t

theorem cur_congr {cs : List COp} {mk : List Nat} {ds : List (List Nat)} {n : Nat} (hp : PlanOK cs mk ds n) {fr0 : Fr} {val val' : Nat → Value} {D D' : Nat → Prop} [DecidablePred D] [DecidablePred D'] {t : Tmp}
    (h : ∀ i, i < n → (cs.getD i default).dst = some t → (D i ↔ D' i) ∧ (D i → val i = val' i)) : cur cs n fr0 val D t = cur cs n fr0 val' D' t := by
  unfold cur
  cases hw : wr cs n t with
  | none => rfl
  | some i =>
    obtain ⟨h1, h2⟩ := (wr_spec hp).1 hw
    obtain ⟨h3, h4⟩ := h i h1 h2
    simp only
    by_cases hd : D i
    · rw [if_pos hd, if_pos (h3.1 hd), h4 hd]
    · rw [if_neg hd, if_neg (fun h => hd (h3.2 h))]


structure VI (P : Program) (cs : List COp) (mk : List Nat) (ds : List (List Nat)) (n : Nat) (K : Fr → St → Prop) (fr0 : Fr) (L done : List Nat) (listed : Nat → Bool) (val : Nat → Value) (fr : Fr) (s : St) : Prop where
  run : vrun P (withChk cs mk done L) K fr s
  ok : okPlan cs mk n done L = true
  all : ∀ i, i < n → i ∈ done ∨ i ∈ L
  apart : ∀ i, i ∈ done → i ∉ L
  nodup : L.Nodup
  ltL : ∀ i, i ∈ L → i < n
  ltD : ∀ i, i ∈ done → i < n
  down : ∀ i, i ∈ done → ∀ j, (mk.getD i 0).testBit j = true → j < n → j ∈ done
  frame : ∀ t, fr.get t = cur cs n fr0 val (· ∈ done) t
  sub : ∀ i, listed i = true → i ∈ done
  ldown : ∀ i, listed i = true → ∀ j, (mk.getD i 0).testBit j = true → listed j = true
  pend : ∀ m, m ∈ done → listed m = false → (cs.getD m default).op.quiet = true ∧ outG (cs.getD m default) (cur cs n fr0 val (fun j => (mk.getD m 0).testBit j = true)) s (val m)

variable {cs : List COp} {mk : List Nat} {ds : List (List Nat)} {n : Nat} {K : Fr → St → Prop} {fr0 : Fr} {L done : List Nat} {listed : Nat → Bool} {val : Nat → Value} {fr : Fr}

/-- What an operation looks at: before it has run, behind those that it waits for. -/
theorem look_eq (hp : PlanOK cs mk ds n) {D : Nat → Prop} [DecidablePred D] {i : Nat} (hi : i < n) (h1 : ∀ j, (mk.getD i 0).testBit j = true → j < n → D j) (h2 : ∀ j, D j → (mk.getD j 0).testBit i = true → False) (h3 : ¬ D i) :
    ∀ t ∈ (cs.getD i default).slots, cur cs n fr0 val (fun j => (mk.getD i 0).testBit j = true) t = cur cs n fr0 val D t := by
  intro t ht
  refine cur_congr hp fun j hj hd => ⟨⟨fun h => h1 j h hj, fun h => ?_⟩, fun _ => rfl⟩
  by_cases hij : j = i
  · subst hij; exact (h3 h).elim
  · rcases hp.look j i t hj hi hij hd ht with h' | h'
    · exact h'
    · exact (h2 j h h').elim

theorem fput_cur (hp : PlanOK cs mk ds n) {i : Nat} (hi : i < n) (hid : i ∉ done) (hf : ∀ t, fr.get t = cur cs n fr0 val (· ∈ done) t) (v : Value) (t : Tmp) :
    (fput fr (cs.getD i default).dst v).get t = cur cs n fr0 (fun j => if j = i then v else val j) (· ∈ i :: done) t := by
  have hold : (∀ d, (cs.getD i default).dst = some d → d ≠ t) → cur cs n fr0 val (· ∈ done) t = cur cs n fr0 (fun j => if j = i then v else val j) (· ∈ i :: done) t := by
    intro hne
    refine cur_congr hp fun j hj hd => ?_
    have hji : j ≠ i := fun h => hne t (h ▸ hd) rfl
    exact ⟨by simp [hji], fun _ => by simp [hji]⟩
  cases hd : (cs.getD i default).dst with
  | none => rw [fput, hf]; exact hold fun d h => by rw [hd] at h; cases h
  | some d =>
    rw [fput, Tr.get_set]
    by_cases htd : t = d
    · subst htd
      rw [if_pos rfl]
      unfold cur
      rw [(wr_spec hp).2 ⟨hi, hd⟩]
      simp
    · rw [if_neg htd, hf]; exact hold fun d' h => by rw [hd] at h; cases h; exact Ne.symm htd

theorem ok_cons {i : Nat} (h : okPlan cs mk n done (i :: L) = true) : (∀ j, j < n → (mk.getD i 0).testBit j = true → j ∈ done) ∧ ((cs.getD i default).op.quiet = true ∨ ∀ k ∈ L, (mk.getD k 0).testBit i = true) ∧ overOK cs mk (i :: done) (chkOf cs mk done i) = true ∧ okPlan cs mk n (i :: done) L = true := by
  rw [okPlan, Bool.and_eq_true, Bool.and_eq_true, Bool.and_eq_true, Bool.or_eq_true, List.all_eq_true, List.all_eq_true] at h
  obtain ⟨⟨⟨h1, h2⟩, h3⟩, h4⟩ := h
  refine ⟨fun j hj hb => ?_, h2, h3, h4⟩
  have := h1 j (List.mem_range.2 hj)
  rw [Bool.or_eq_true] at this
  rcases this with h | h
  · rw [hb] at h; cases h
  · simpa using h

theorem no_self (hp : PlanOK cs mk ds n) {i : Nat} : (mk.getD i 0).testBit i = true → False := by
  intro h
  have : ∀ j i, Bef ds j i → j < i := fun j i hb => by
    induction hb with
    | dir h => exact hp.small _ _ h
    | tr h _ ih => exact Nat.lt_trans ih (hp.small _ _ h)
  exact Nat.lt_irrefl _ (this _ _ (hp.bef _ _ h))

/-- The pending ones do not mind what is done behind them. -/
theorem pend_val (hp : PlanOK cs mk ds n) {i m : Nat} (hid : i ∉ done) (hm : m ∈ done) (hdown : ∀ i, i ∈ done → ∀ j, (mk.getD i 0).testBit j = true → j < n → j ∈ done) (v : Value) :
    ∀ t, cur cs n fr0 val (fun j => (mk.getD m 0).testBit j = true) t = cur cs n fr0 (fun j => if j = i then v else val j) (fun j => (mk.getD m 0).testBit j = true) t := by
  intro t
  refine cur_congr hp fun j hj hd => ⟨Iff.rfl, fun hb => ?_⟩
  rw [if_neg]
  rintro rfl
  exact hid (hdown m hm j hb hj)

theorem VI.pull (hp : PlanOK cs mk ds n) {k : Nat} (h : VI P cs mk ds n K fr0 (k :: L) done listed val fr s) (hq : (cs.getD k default).op.quiet = true) :
    ∃ val' fr', VI P cs mk ds n K fr0 L (k :: done) listed val' fr' s ∧ ∀ i ∈ done, val' i = val i := by
  have hkn : k < n := h.ltL k (List.mem_cons_self ..)
  have hkd : k ∉ done := fun h' => h.apart k h' (List.mem_cons_self ..)
  obtain ⟨o1, o2, o3, o4⟩ := ok_cons h.ok
  have hr := h.run
  rw [withChk, vrun, vstep_eq] at hr
  have hlook : ∀ t ∈ (cs.getD k default).slots, cur cs n fr0 val (fun j => (mk.getD k 0).testBit j = true) t = fr.get t := by
    intro t ht
    rw [h.frame]
    exact look_eq hp hkn (fun j hb hj => o1 j hj hb) (fun j hj hb => hkd (h.down j hj k hb hkn)) hkd t ht
  obtain ⟨u, hu, _, hrun⟩ := quiet_out hq hr
  refine ⟨fun j => if j = k then u else val j, fput fr (cs.getD k default).dst u, ?_, fun i hi => if_neg fun e => hkd (by subst e; exact hi)⟩
  exact {
    run := hrun
    ok := o4
    all := fun i hi => by
      rcases h.all i hi with h' | h'
      · exact .inl (List.mem_cons_of_mem _ h')
      · rcases List.mem_cons.1 h' with rfl | h'
        · exact .inl (List.mem_cons_self ..)
        · exact .inr h'
    apart := fun i hi hL => by
      rcases List.mem_cons.1 hi with rfl | hi
      · exact (List.nodup_cons.1 h.nodup).1 hL
      · exact h.apart i hi (List.mem_cons_of_mem _ hL)
    nodup := (List.nodup_cons.1 h.nodup).2
    ltL := fun i hi => h.ltL i (List.mem_cons_of_mem _ hi)
    ltD := fun i hi => by
      rcases List.mem_cons.1 hi with rfl | hi
      · exact hkn
      · exact h.ltD i hi
    down := fun i hi j hb hj => by
      rcases List.mem_cons.1 hi with rfl | hi
      · exact List.mem_cons_of_mem _ (o1 j hj hb)
      · exact List.mem_cons_of_mem _ (h.down i hi j hb hj)
    frame := fput_cur hp hkn hkd h.frame u
    sub := fun i hi => List.mem_cons_of_mem _ (h.sub i hi)
    ldown := h.ldown
    pend := fun m hm hl => by
      rcases List.mem_cons.1 hm with rfl | hm
      · refine ⟨hq, ?_⟩
        have : ∀ t ∈ (cs.getD m default).slots, fr.get t = cur cs n fr0 (fun j => if j = m then u else val j) (fun j => (mk.getD m 0).testBit j = true) t := by
          intro t ht
          rw [← hlook t ht]
          exact cur_congr hp fun j hj hd => ⟨Iff.rfl, fun hb => by rw [if_neg]; rintro rfl; exact no_self hp hb⟩
        rw [if_pos rfl, ← outG_congr this]; exact hu
      · obtain ⟨p1, p2⟩ := h.pend m hm hl
        refine ⟨p1, ?_⟩
        rw [if_neg (fun e => hkd (by rw [← e]; exact hm)), ← outG_congr fun t _ => pend_val hp hkd hm h.down u t]; exact p2 }

theorem VI.pullTo (hp : PlanOK cs mk ds n) {i : Nat} : ∀ (L done : List Nat) (val : Nat → Value) (fr : Fr), VI P cs mk ds n K fr0 L done listed val fr s → i ∈ L → (∀ j, (mk.getD i 0).testBit j = true → listed j = true) →
    ∃ L' done' val' fr', VI P cs mk ds n K fr0 (i :: L') done' listed val' fr' s ∧ (∀ j, listed j = true → val' j = val j)
  | [], _, _, _, _, hi, _ => by cases hi
  | k :: L, done, val, fr, h, hi, hr => by
    by_cases hk : k = i
    · subst hk; exact ⟨L, done, val, fr, h, fun _ _ => rfl⟩
    · have hiL : i ∈ L := (List.mem_cons.1 hi).resolve_left (Ne.symm hk)
      have hkd : k ∉ done := fun h' => h.apart k h' (List.mem_cons_self ..)
      have hq : (cs.getD k default).op.quiet = true := by
        rcases (ok_cons h.ok).2.1 with hq | hq
        · exact hq
        · exact (hkd (h.sub k (hr k (hq i hiL)))).elim
      obtain ⟨val1, fr1, h1, e1⟩ := h.pull hp hq
      obtain ⟨L', done', val', fr', h2, e2⟩ := VI.pullTo hp L (k :: done) val1 fr1 h1 hiL hr
      exact ⟨L', done', val', fr', h2, fun j hj => (e2 j hj).trans (e1 j (h.sub j hj))⟩

def setL (listed : Nat → Bool) (i : Nat) : Nat → Bool := fun j => if j = i then true else listed j

theorem VI.exec (hp : PlanOK cs mk ds n) {i : Nat} (h : VI P cs mk ds n K fr0 (i :: L) done listed val fr s) (hr : ∀ j, (mk.getD i 0).testBit j = true → listed j = true) (hq : (cs.getD i default).op.quiet = false) :
    vstepG P (cs.getD i default) (fun v s' => ∃ fr', VI P cs mk ds n K fr0 L (i :: done) (setL listed i) (fun j => if j = i then v else val j) fr' s') (cur cs n fr0 val (fun j => listed j = true)) s := by
  have hin : i < n := h.ltL i (List.mem_cons_self ..)
  have hid : i ∉ done := fun h' => h.apart i h' (List.mem_cons_self ..)
  obtain ⟨o1, o2, o3, o4⟩ := ok_cons h.ok
  have hrun := h.run
  rw [withChk, vrun, vstep_eq] at hrun
  have hlook : ∀ t ∈ (cs.getD i default).slots, cur cs n fr0 val (fun j => listed j = true) t = fr.get t := by
    intro t ht
    rw [h.frame, ← look_eq hp hin (fun j hb hj => o1 j hj hb) (fun j hj hb => hid (h.down j hj i hb hin)) hid t ht]
    exact (look_eq hp hin (fun j hb hj => hr j hb) (fun j hj hb => hid (h.sub i (h.ldown j hj i hb))) (fun hl => hid (h.sub i hl)) t ht).symm
  rw [vstepG_congr hlook]
  have mono : ∀ (K' K'' : Value → St → Prop), (∀ v s, K' v s → K'' v s) → vstepG P (cs.getD i default) K' fr.get s → vstepG P (cs.getD i default) K'' fr.get s := by
    intro K' K'' hk hh
    unfold vstepG at *
    split at hh
    · exact hh
    · exact hk _ _ hh
    · exact vres_mono hh hk
  refine mono _ _ ?_ hrun
  rintro v s' ⟨hchk, hrest⟩
  refine ⟨fput fr (cs.getD i default).dst v, ?_⟩
  exact {
    run := hrest
    ok := o4
    all := fun i hi => by
      rcases h.all i hi with h' | h'
      · exact .inl (List.mem_cons_of_mem _ h')
      · rcases List.mem_cons.1 h' with rfl | h'
        · exact .inl (List.mem_cons_self ..)
        · exact .inr h'
    apart := fun i hi hL => by
      rcases List.mem_cons.1 hi with rfl | hi
      · exact (List.nodup_cons.1 h.nodup).1 hL
      · exact h.apart i hi (List.mem_cons_of_mem _ hL)
    nodup := (List.nodup_cons.1 h.nodup).2
    ltL := fun i hi => h.ltL i (List.mem_cons_of_mem _ hi)
    ltD := fun i hi => by
      rcases List.mem_cons.1 hi with rfl | hi
      · exact hin
      · exact h.ltD i hi
    down := fun i hi j hb hj => by
      rcases List.mem_cons.1 hi with rfl | hi
      · exact List.mem_cons_of_mem _ (o1 j hj hb)
      · exact List.mem_cons_of_mem _ (h.down i hi j hb hj)
    frame := fput_cur hp hin hid h.frame v
    sub := fun j hj => by
      simp only [setL] at hj
      by_cases e : j = i
      · subst e; exact List.mem_cons_self ..
      · rw [if_neg e] at hj; exact List.mem_cons_of_mem _ (h.sub j hj)
    ldown := fun k hk j hb => by
      simp only [setL] at hk ⊢
      by_cases e : j = i
      · rw [if_pos e]
      · rw [if_neg e]
        by_cases e' : k = i
        · subst e'; exact hr j hb
        · rw [if_neg e'] at hk; exact h.ldown k hk j hb
    pend := fun m hm hl => by
      have hmi : m ≠ i := fun e => by simp [setL, e] at hl
      simp only [setL, if_neg hmi] at hl
      replace hm : m ∈ done := (List.mem_cons.1 hm).resolve_left hmi
      obtain ⟨p1, p2⟩ := h.pend m hm hl
      refine ⟨p1, ?_⟩
      rw [outG_congr fun t _ => pend_val hp hid hm h.down v t] at p2
      rw [if_neg hmi]
      unfold outG at p2 ⊢
      generalize hcw : cwantG (cur cs n fr0 (fun j => if j = i then v else val j) (fun j => (mk.getD m 0).testBit j = true)) (cs.getD m default) = cw at p2 ⊢
      cases cw with
      | none => exact p2
      | some b =>
        cases b with
        | false => exact p2
        | true =>
          simp only at p2 ⊢
          by_cases hst : (cs.getD m default).op.stateless = true
          · exact stateless_val hst _ s' p2
          · have hmem : m ∈ chkOf cs mk done i := by
              unfold chkOf
              rw [if_neg (by rw [hq]; simp)]
              refine List.mem_filter.2 ⟨hm, ?_⟩
              have : (mk.getD i 0).testBit m = false := by
                cases hb : (mk.getD i 0).testBit m with
                | false => rfl
                | true => rw [hr m hb] at hl; cases hl
              rw [p1, this]; simpa using hst
            have hstab := hchk _ (List.mem_map.2 ⟨m, hmem, rfl⟩)
            have hov : ∀ k ∈ i :: done, ∀ t, (cs.getD k default).dst = some t → t ∈ (cs.getD m default).slots → (mk.getD m 0).testBit k = true := by
              intro k hk t hd ht
              have := List.all_eq_true.1 (Bool.and_eq_true_iff.1 (List.all_eq_true.1 o3 m hmem)).2 k hk
              rw [hd] at this
              simp only [Bool.or_eq_true, Bool.not_eq_true'] at this
              rcases this with h' | h'
              · rw [List.contains_eq_mem, decide_eq_false_iff_not] at h'; exact (h' ht).elim
              · exact h'
            have hl' : ∀ t ∈ (cs.getD m default).slots, cur cs n fr0 (fun j => if j = i then v else val j) (fun j => (mk.getD m 0).testBit j = true) t = (fput fr (cs.getD i default).dst v).get t := by
              intro t ht
              rw [fput_cur hp hin hid h.frame v]
              exact cur_congr hp fun j hj hd => ⟨⟨fun hb => List.mem_cons_of_mem _ (h.down m hm j hb hj), fun hk => hov j hk t hd ht⟩, fun _ => rfl⟩
            unfold stable at hstab
            rw [cwant_eq, ← cwantG_congr hl', hcw] at hstab
            obtain ⟨x, e1, e2⟩ := hstab
            rw [ev_eq, ← vxG_congr hl'] at e1
            rw [e1]
            cases hd : (cs.getD m default).dst with
            | none => have := (Bool.and_eq_true_iff.1 (List.all_eq_true.1 o3 m hmem)).1; rw [hd] at this; cases this
            | some d =>
              have e2 := e2 d hd
              rw [fput_cur hp hin hid h.frame v] at e2
              unfold cur at e2
              rw [(wr_spec hp).2 ⟨h.ltD m hm, hd⟩] at e2
              simp only [List.mem_cons, hm, or_true, if_true, if_neg hmi, Option.some.injEq] at e2
              rw [e2] }

theorem VI.quietly (hp : PlanOK cs mk ds n) {i : Nat} (h : VI P cs mk ds n K fr0 L done listed val fr s) (hi : i ∈ done) (hl : listed i = false) (hr : ∀ j, (mk.getD i 0).testBit j = true → listed j = true) :
    VI P cs mk ds n K fr0 L done (setL listed i) val fr s ∧ vstepG P (cs.getD i default) (fun v s' => v = val i ∧ s' = s) (cur cs n fr0 val (fun j => listed j = true)) s := by
  obtain ⟨p1, p2⟩ := h.pend i hi hl
  refine ⟨{ h with
    sub := fun j hj => by
      simp only [setL] at hj
      by_cases e : j = i
      · subst e; exact hi
      · rw [if_neg e] at hj; exact h.sub j hj
    ldown := fun k hk j hb => by
      simp only [setL] at hk ⊢
      by_cases e : j = i
      · rw [if_pos e]
      · rw [if_neg e]
        by_cases e' : k = i
        · subst e'; exact hr j hb
        · rw [if_neg e'] at hk; exact h.ldown k hk j hb
    pend := fun m hm hl' => by
      simp only [setL] at hl'
      by_cases e : m = i
      · rw [if_pos e] at hl'; cases hl'
      · rw [if_neg e] at hl'; exact h.pend m hm hl' }, ?_⟩
  rw [outG_congr (look_eq hp (h.ltD i hi) (fun j hb _ => hr j hb) (fun j hj hb => by rw [h.ldown j hj i hb] at hl; cases hl) (by simp [hl]))] at p2
  exact outG_step p2

/-- The frame of the model, when those that are listed have run. -/
def Rel (cs : List COp) (n : Nat) (fr0 : Fr) (ι : Emb) (val : Nat → Value) (listed : Nat → Bool) (tmps : Array Value) : Prop :=
  ∀ t v, cur cs n fr0 val (fun j => listed j = true) t = some v → ∃ v', tmps[t]? = some v' ∧ VRel ι v v'

theorem Rel.put (hp : PlanOK cs mk ds n) {i : Nat} {a : Act} {κ : Emb} {val' : Nat → Value} {v' : Value} (hr : Rel cs n fr0 ι val listed a.tmps) (hin : i < n) (hle : ι.le κ) (hsz : ∀ t, (cs.getD i default).dst = some t → t < a.tmps.size)
    (hsame : ∀ j, listed j = true → j ≠ i → val' j = val j) (hv : VRel κ (val' i) v') : Rel cs n fr0 κ val' (setL listed i) (a.put (cs.getD i default).dst v').tmps := by
  intro t x hx
  have hold : (∀ d, (cs.getD i default).dst = some d → d ≠ t) → ∃ v', a.tmps[t]? = some v' ∧ VRel κ x v' := by
    intro hne
    have : cur cs n fr0 val' (fun j => setL listed i j = true) t = cur cs n fr0 val (fun j => listed j = true) t := by
      refine cur_congr hp fun j hj hd => ?_
      have hji : j ≠ i := fun h => hne t (by subst h; exact hd) rfl
      exact ⟨by simp [setL, hji], fun h => hsame j (by simpa [setL, hji] using h) hji⟩
    rw [this] at hx
    obtain ⟨y, h1, h2⟩ := hr t x hx
    exact ⟨y, h1, h2.mono hle⟩
  cases hd : (cs.getD i default).dst with
  | none => exact hold fun d h => by rw [hd] at h; cases h
  | some d =>
    simp only [Act.put, Array.getElem?_setIfInBounds]
    by_cases htd : t = d
    · subst htd
      rw [if_pos rfl, if_pos (hsz t hd)]
      unfold cur at hx
      rw [(wr_spec hp).2 ⟨hin, hd⟩] at hx
      simp only [setL, if_true, Option.some.injEq] at hx
      subst hx
      exact ⟨v', rfl, hv⟩
    · rw [if_neg (Ne.symm htd)]
      exact hold fun d' h => by rw [hd] at h; cases h; exact Ne.symm htd


theorem setL_eq {la : Array Bool} {i : Nat} (hi : i < la.size) : (fun j => (la.setIfInBounds i true).getD j false) = setL (fun j => la.getD j false) i := by
  funext j
  simp only [setL, Array.getD_eq_getD_getElem?, Array.getElem?_setIfInBounds]
  by_cases e : j = i
  · subst e; simp [hi]
  · rw [if_neg (Ne.symm e), if_neg e]

theorem bef_listed {ds : List (List Nat)} {listed : Nat → Bool} (hd : ∀ i, listed i = true → ∀ j ∈ ds.getD i [], listed j = true) {j i : Nat} (h : Bef ds j i) : (∀ j ∈ ds.getD i [], listed j = true) → listed j = true := by
  induction h with
  | dir h => exact fun hh => hh _ h
  | tr h _ ih => exact fun hh => ih (hd _ (hh _ h))

theorem not_listed {ops : Array Oper} {la : Array Bool} (hsz : la.size = ops.size) {i : Nat} (hi : i < ops.size) : la.getD i true = la.getD i false := by
  have : i < la.size := by rw [hsz]; exact hi
  simp only [Array.getD, this, dite_true]

theorem ready_nil {ops : Array Oper} {ds : List (List Nat)} {la : Array Bool} (hsz : la.size = ops.size) (hds : ∀ (i : Nat) (o : Oper), ops[i]? = some o → ds.getD i [] = dirs o) (hsm : ∀ i e, e ∈ ds.getD i [] → e < i) (h : Region.ready .any ops la = []) :
    ∀ i, i < ops.size → la.getD i false = true := by
  intro i
  induction i using Nat.strongRecOn with
  | _ i ih =>
    intro hi
    cases hb : la.getD i false with
    | true => rfl
    | false =>
      have : i ∈ Region.ready .any ops la := by
        refine mem_ready.2 ⟨by rw [not_listed hsz hi]; exact hb, ops[i], Array.getElem?_eq_getElem hi, fun e he hbd => ?_⟩
        have hm : e.on ∈ ds.getD i [] := by
          rw [hds i ops[i] (Array.getElem?_eq_getElem hi)]
          exact List.mem_map.2 ⟨e, List.mem_filter.2 ⟨Array.mem_toList_iff.2 he, hbd⟩, rfl⟩
        have := hsm i _ hm
        exact ih _ this (Nat.lt_trans this hi)
      rw [h] at this; cases this

theorem any_fin {N : Nat} {ops : Array Oper} {Q : Exit → Act → World → Prop} {a0 : Act} {ι0 : Emb}
    (hp : PlanOK cs mk ds ops.size) (hcs : ∀ (i : Nat) (o : Oper), ops[i]? = some o → cs.getD i default = comp1 P ops o) (hds : ∀ (i : Nat) (o : Oper), ops[i]? = some o → ds.getD i [] = dirs o)
    (hN : ∀ (i : Nat) (o : Oper) (d : Tmp), ops[i]? = some o → o.dst = some d → d < N)
    (hQ : ∀ fr s ι a w, K fr s → ι0.le ι → Slots ι fr a.tmps → a.tmps.size = N → a.defers = a0.defers → Good ι s w base w0 → Q .normal a w) :
    ∀ (L done : List Nat) (la : Array Bool) (val : Nat → Value) (fr : Fr) (s : St) (ι : Emb) (a : Act) (w : World), (∀ i, i < ops.size → la.getD i false = true) →
      VI P cs mk ds ops.size K fr0 L done (fun i => la.getD i false) val fr s → 
      Rel cs ops.size fr0 ι val (fun i => la.getD i false) a.tmps → ι0.le ι → a.tmps.size = N → a.defers = a0.defers → Good ι s w base w0 → Q .normal a w := by
  intro L done la val fr s ι a w hall hv hrel hle h3 h4 g
  have hLnil : L = [] := by
    cases L with
    | nil => rfl
    | cons i L =>
      have hi := hv.ltL i (List.mem_cons_self ..)
      exact (hv.apart i (hv.sub i (hall i hi)) (List.mem_cons_self ..)).elim
  subst hLnil
  refine hQ fr s ι a w hv.run hle ?_ h3 h4 g
  intro t v e
  rw [hv.frame] at e
  refine hrel t v (e ▸ cur_congr hp fun j hj _ => ⟨⟨fun h => hv.sub j h, fun _ => hall j hj⟩, fun _ => rfl⟩)

theorem any_sound {r : Option Nat} {nn N : Nat} {ops : Array Oper} {Q : Exit → Act → World → Prop} {a0 : Act} {ι0 : Emb}
    (hp : PlanOK cs mk ds ops.size) (hcs : ∀ (i : Nat) (o : Oper), ops[i]? = some o → cs.getD i default = comp1 P ops o) (hds : ∀ (i : Nat) (o : Oper), ops[i]? = some o → ds.getD i [] = dirs o)
    (hN : ∀ (i : Nat) (o : Oper) (d : Tmp), ops[i]? = some o → o.dst = some d → d < N)
    (hQ : ∀ fr s ι a w, K fr s → ι0.le ι → Slots ι fr a.tmps → a.tmps.size = N → a.defers = a0.defers → Good ι s w base w0 → Q .normal a w) :
    ∀ (fuel : Nat) (U L done : List Nat) (la : Array Bool) (val : Nat → Value) (fr : Fr) (s : St) (ι : Emb) (a : Act) (w : World),
      U.length ≤ fuel → (∀ i, i < ops.size → la.getD i false = false → i ∈ U) → la.size = ops.size →
      VI P cs mk ds ops.size K fr0 L done (fun i => la.getD i false) val fr s → (∀ i, la.getD i false = true → ∀ j ∈ ds.getD i [], la.getD j false = true) →
      Rel cs ops.size fr0 ι val (fun i => la.getD i false) a.tmps → ι0.le ι → a.tmps.size = N → a.defers = a0.defers → Good ι s w base w0 →
      wpAnyIn (fence r) nn P .any ops Q fuel la a w := by
  intro fuel
  induction fuel with
  | zero =>
    intro U L done la val fr s ι a w hU hU' hsz hv hd hrel hle h3 h4 g
    have hall : ∀ i, i < ops.size → la.getD i false = true := by
      intro i hi
      cases hb : la.getD i false with
      | true => rfl
      | false =>
        have := hU' i hi hb
        cases U with
        | nil => cases this
        | cons x xs => simp at hU
    have hready : Region.ready .any ops la = [] := by
      refine List.eq_nil_iff_forall_not_mem.2 fun j hj => ?_
      obtain ⟨h1, o, ho, _⟩ := mem_ready.1 hj
      have hjn := (Array.getElem?_eq_some_iff.1 ho).1
      have hj := hall j hjn
      rw [not_listed hsz hjn, hj] at h1; cases h1
    exact ⟨hready, any_fin hp hcs hds hN hQ L done la val fr s ι a w hall hv hrel hle h3 h4 g⟩
  | succ fuel ih =>
    intro U L done la val fr s ι a w hU hU' hsz hv hd hrel hle h3 h4 g
    refine ⟨fun hnil => any_fin hp hcs hds hN hQ L done la val fr s ι a w (ready_nil hsz hds hp.small hnil) hv hrel hle h3 h4 g, fun i hi => ?_⟩
    obtain ⟨h1, o, ho, hedges⟩ := mem_ready.1 hi
    have hin := (Array.getElem?_eq_some_iff.1 ho).1
    have hil : la.getD i false = false := by rw [← not_listed hsz hin]; exact h1
    have hila : i < la.size := by rw [hsz]; exact hin
    have hdi : ∀ j ∈ ds.getD i [], la.getD j false = true := by
      intro j hj
      rw [hds i o ho] at hj
      obtain ⟨e, he, rfl⟩ := List.mem_map.1 hj
      obtain ⟨he1, he2⟩ := List.mem_filter.1 he
      exact hedges e (Array.mem_toList_iff.1 he1) he2
    have hpre : ∀ j, (mk.getD i 0).testBit j = true → la.getD j false = true := fun j hb =>
      bef_listed (listed := fun i => la.getD i false) hd (hp.bef i j hb) hdi
    have hc := hcs i o ho
    have hsl := setL_eq hila
    have hU2 : (U.erase i).length ≤ fuel := by
      rw [List.length_erase_of_mem (hU' i hin hil)]; omega
    have hU3 : ∀ k, k < ops.size → (la.setIfInBounds i true).getD k false = false → k ∈ U.erase i := by
      intro k hk hkl
      have : setL (fun j => la.getD j false) i k = false := by rw [← hsl]; exact hkl
      simp only [setL] at this
      by_cases e : k = i
      · rw [if_pos e] at this; cases this
      · rw [if_neg e] at this
        exact (List.mem_erase_of_ne e).2 (hU' k hk this)
    have hd2 : ∀ k, (la.setIfInBounds i true).getD k false = true → ∀ j ∈ ds.getD k [], (la.setIfInBounds i true).getD j false = true := by
      intro k hk j hj
      have hk' : setL (fun j => la.getD j false) i k = true := by rw [← hsl]; exact hk
      have : setL (fun j => la.getD j false) i j = true := by
        simp only [setL] at hk' ⊢
        by_cases e : j = i
        · rw [if_pos e]
        · rw [if_neg e]
          by_cases e' : k = i
          · subst e'; exact hdi j hj
          · rw [if_neg e'] at hk'; exact hd k hk' j hj
      rw [← hsl] at this; exact this
    have hdst : (comp1 P ops o).dst = o.dst := rfl
    -- one that we have done
    have key : ∀ (L done : List Nat) (val : Nat → Value) (fr : Fr), VI P cs mk ds ops.size K fr0 L done (fun i => la.getD i false) val fr s → i ∈ done → Rel cs ops.size fr0 ι val (fun i => la.getD i false) a.tmps →
        wpOpIn (fence r) nn P ops Q i (wpAnyIn (fence r) nn P .any ops Q fuel (la.setIfInBounds i true)) a w := by
      intro L done val fr hv hid hrel
      obtain ⟨hv2, hst⟩ := hv.quietly hp hid hil hpre
      rw [hc] at hst
      refine stepG_sound ho g (fun t _ v e => hrel t v e) hst ?_
      rintro v v' s' w' κ ⟨rfl, rfl⟩ hle' hvr g'
      refine ih (U.erase i) L done _ val fr s' κ _ w' hU2 hU3 (by simp [hsz]) (hsl ▸ hv2) hd2 ?_ (Emb.le_trans hle hle') (by simp [h3]) (by simp [h4]) g'
      have := hrel.put hp hin hle' (fun t ht => by rw [hc] at ht; rw [h3]; exact hN i o t ho ht) (fun _ _ _ => rfl) hvr
      rw [hc, hdst] at this
      rw [hsl]; exact this
    by_cases hid : i ∈ done
    · exact key L done val fr hv hid hrel
    · have hiL := (hv.all i hin).resolve_left hid
      obtain ⟨L', done', val', fr', hv', hsame⟩ := VI.pullTo hp L done val fr hv hiL hpre
      have hrel' : Rel cs ops.size fr0 ι val' (fun i => la.getD i false) a.tmps := by
        intro t x e
        refine hrel t x (e ▸ cur_congr hp fun j hj _ => ⟨Iff.rfl, fun h => (hsame j h).symm⟩)
      cases hq : (cs.getD i default).op.quiet with
      | true =>
        obtain ⟨val2, fr2, hv2, hs2⟩ := hv'.pull hp hq
        refine key L' (i :: done') val2 fr2 hv2 (List.mem_cons_self ..) ?_
        intro t x e
        refine hrel' t x (e ▸ cur_congr hp fun j hj _ => ⟨Iff.rfl, fun h => (hs2 j (hv'.sub j h)).symm⟩)
      | false =>
        have hst := hv'.exec hp hpre hq
        rw [hc] at hst
        refine stepG_sound ho g (fun t _ v e => hrel' t v e) hst ?_
        rintro v v' s' w' κ ⟨fr2, hv2⟩ hle' hvr g'
        refine ih (U.erase i) L' (i :: done') _ _ fr2 s' κ _ w' hU2 hU3 (by simp [hsz]) (hsl ▸ hv2) hd2 ?_ (Emb.le_trans hle hle') (by simp [h3]) (by simp [h4]) g'
        have := hrel'.put (val' := fun j => if j = i then v else val' j) hp hin hle' (fun t ht => by rw [hc] at ht; rw [h3]; exact hN i o t ho ht) (fun j _ hj => if_neg hj) (by rw [if_pos rfl]; exact hvr)
        rw [hc, hdst] at this
        rw [hsl]; exact this

theorem comp1_at {ops : Array Oper} {i : Nat} {o : Oper} (h : ops[i]? = some o) : (ops.toList.map (comp1 P ops)).getD i default = comp1 P ops o := by
  simp [List.getD_eq_getElem?_getD, List.getElem?_map, Array.getElem?_toList, h]
theorem dirs_at {ops : Array Oper} {i : Nat} {o : Oper} (h : ops[i]? = some o) : (ops.toList.map dirs).getD i [] = dirs o := by
  simp [List.getD_eq_getElem?_getD, List.getElem?_map, Array.getElem?_toList, h]

theorem planOf_spec {ops : Array Oper} {l : List (COp × List COp)} (h : planOf P ops = some l) : ∃ cs mk ds plan, PlanOK cs mk ds ops.size ∧ cs = ops.toList.map (comp1 P ops) ∧ ds = ops.toList.map dirs ∧ l = withChk cs mk [] plan ∧
    plan.Nodup ∧ okPlan cs mk ops.size [] plan = true ∧ (∀ i, i < ops.size → i ∈ plan) ∧ (∀ i ∈ plan, i < ops.size) := by
  unfold planOf at h
  simp only at h
  split at h
  · rename_i hh
    obtain ⟨h1, h2, h3, h4, h5, h6⟩ := hh
    cases h
    refine ⟨_, _, _, _, ?_, rfl, rfl, rfl, h1, h4, ?_, ?_⟩
    · have hpair : ∀ (i j : Nat) (t : Tmp), i < ops.size → j < ops.size → i ≠ j → ((ops.toList.map (comp1 P ops)).getD i default).dst = some t →
          ((ops.toList.map (comp1 P ops)).getD j default).dst ≠ some t ∧ (t ∈ ((ops.toList.map (comp1 P ops)).getD j default).slots → ((masks (ops.toList.map dirs) []).getD j 0).testBit i = true ∨ ((masks (ops.toList.map dirs) []).getD i 0).testBit j = true) := by
        intro i j t hi hj hij hd
        have := List.all_eq_true.1 h5 i (List.mem_range.2 hi)
        rw [hd] at this
        have := List.all_eq_true.1 this j (List.mem_range.2 hj)
        simp only [Bool.or_eq_true, Bool.and_eq_true, beq_iff_eq, bne_iff_ne, ne_eq, Bool.not_eq_true', List.contains_eq_mem, decide_eq_false_iff_not] at this
        rcases this with h | ⟨h1, h2⟩
        · exact (hij h).elim
        · exact ⟨h1, fun ht => by
            rcases h2 with (h2 | h2) | h2
            · exact (h2 ht).elim
            · exact .inl h2
            · exact .inr h2⟩
      exact {
        bef := masks_spec _ _ [] [] rfl rfl (fun i j hb => by simp at hb)
        small := fun i e he => by
          have hi : i < (ops.toList.map dirs).length := by
            rcases Nat.lt_or_ge i (ops.toList.map dirs).length with h | h
            · exact h
            · rw [List.getD_eq_getElem?_getD, List.getElem?_eq_none h] at he; simp at he
          have := List.all_eq_true.1 h6 ((ops.toList.map dirs)[i], i) (by
            rw [List.mem_iff_getElem?]; exact ⟨i, by rw [List.getElem?_zipIdx, List.getElem?_eq_getElem hi]; simp⟩)
          rw [List.getD_eq_getElem?_getD, List.getElem?_eq_getElem hi] at he
          simpa using List.all_eq_true.1 this e he
        one := fun i j t hi hj hd hd' => Classical.byContradiction fun hij => (hpair i j t hi hj hij hd).1 hd'
        look := fun i j t hi hj hij hd ht => (hpair i j t hi hj hij hd).2 ht }
    · intro i hi
      simpa using List.all_eq_true.1 h2 i (List.mem_range.2 hi)
    · exact fun k hk => by simpa using List.all_eq_true.1 h3 k hk
  · cases h

theorem region_any {r : Option Nat} {nn N id : Nat} {ops : Array Oper} {l : List (COp × List COp)} {Q : Exit → Act → World → Prop} {a : Act}
    (hm : P.follows .mixedOrders = true) (hl : planOf P ops = some l)
    (hN : ∀ (i : Nat) (o : Oper) (d : Tmp), ops[i]? = some o → o.dst = some d → d < N)
    (hQ : ∀ fr s κ a' w, K fr s → ι.le κ → Slots κ fr a'.tmps → a'.tmps.size = N → a'.defers = a.defers → Good κ s w base w0 → Q .normal a' w)
    (h : vrun P l K fr0 s) (hs : Slots ι fr0 a.tmps) (hsz : a.tmps.size = N) (g : Good ι s w base w0) : (Code.region id ops true).wpIn (fence r) nn P Q a w := by
  obtain ⟨cs, mk, ds, plan, hp, rfl, rfl, rfl, h1, h4, h5, h6⟩ := planOf_spec hl
  refine wpIn_region_any hm ?_
  have hrep : ∀ (i : Nat), (Array.replicate ops.size false).getD i false = false := by
    intro i; simp only [Array.getD]; split <;> simp
  refine any_sound (a0 := a) (ι0 := ι) (fr0 := fr0) hp (fun i o => comp1_at) (fun i o => dirs_at) hN hQ ops.size (List.range ops.size) plan [] _ (fun _ => undef) fr0 s ι a _ (by simp) (fun i hi _ => List.mem_range.2 hi) (by simp) ?_ (fun i hi => by rw [hrep] at hi; cases hi) ?_ (Emb.le_refl _) hsz rfl g.drew
  · exact {
      run := h
      ok := h4
      all := fun i hi => .inr (h5 i hi)
      apart := fun i hi => by cases hi
      nodup := h1
      ltL := h6
      ltD := fun i hi => by cases hi
      down := fun i hi => by cases hi
      frame := fun t => by unfold cur; split <;> simp
      sub := fun i hi => by rw [hrep] at hi; cases hi
      ldown := fun i hi => by rw [hrep] at hi; cases hi
      pend := fun i hi => by cases hi }
  · intro t v e
    have : cur (ops.toList.map (comp1 P ops)) ops.size fr0 (fun _ => undef) (fun j => (Array.replicate ops.size false).getD j false = true) t = fr0.get t := by
      unfold cur; split
      · rw [if_neg (fun h => by have h := h; rw [show (fun j => (Array.replicate ops.size false).getD j false = true) _ = ((Array.replicate ops.size false).getD _ false = true) from rfl, hrep] at h; cases h)]
      · rfl
    rw [this] at e
    exact hs t v e
end
end Go.Vm
