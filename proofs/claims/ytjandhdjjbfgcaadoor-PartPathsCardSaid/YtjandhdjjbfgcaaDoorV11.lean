/- Regions: in the order of the text, and in whatever order their edges allow. -/
import Derived.Test.YtjandhdjjbfgcaaDoorV10
set_option linter.unusedSectionVars false
set_option linter.unusedSimpArgs false
set_option linter.unusedVariables false
/- Regions: in the order of the text, and in whatever order their edges allow. -/
namespace Go.Vm
open Go.RowKit (Below)
variable [Laid]

def vstep (P : Program) (c : COp) (K : Fr → St → Prop) (fr : Fr) (s : St) : Prop :=
  match cwant fr c with
  | none => False
  | some false => K (fput fr c.dst undef) s
  | some true => vres P c.op (ev fr) s fun v s' => K (fput fr c.dst v) s'

/-- The operation would yield the same again. -/
def stable (c : COp) (fr : Fr) (s : St) : Prop :=
  match cwant fr c with
  | none => False
  | some false => True
  | some true => ∃ v, vx c.op (ev fr) s = .val v s ∧ ∀ d, c.dst = some d → fr.get d = some v

/-- The operations of a region, each with those that are asked again behind it. -/
def vrun (P : Program) : List (COp × List COp) → (Fr → St → Prop) → Fr → St → Prop
  | [], K, fr, s => K fr s
  | (c, chk) :: rest, K, fr, s => vstep P c (fun fr' s' => (∀ m ∈ chk, stable m fr' s') ∧ vrun P rest K fr' s') fr s

theorem vstep_mono {P : Program} {c : COp} {K K' : Fr → St → Prop} {fr : Fr} {s : St} (h : vstep P c K fr s) (hk : ∀ fr s, K fr s → K' fr s) : vstep P c K' fr s := by
  unfold vstep at *
  split <;> simp_all
  exact vres_mono h fun v s' h' => hk _ _ h'

theorem vrun_mono {P : Program} {K K' : Fr → St → Prop} (hk : ∀ fr s, K fr s → K' fr s) : ∀ (l : List (COp × List COp)) (fr : Fr) (s : St), vrun P l K fr s → vrun P l K' fr s
  | [], fr, s, h => hk _ _ h
  | (c, chk) :: rest, fr, s, h => vstep_mono h fun fr' s' ⟨h1, h2⟩ => ⟨h1, vrun_mono hk rest fr' s' h2⟩

section
variable {P : Program} {ι : Emb} {s : St} {w : World} {base : Nat} {w0 : World}

/-- One operation of a region, on both sides. What is known of the slots that it looks at is enough. -/
theorem vstep_sound {r : Option Nat} {n : Nat} {ops : Array Oper} {i : Nat} {o : Oper} {fr : Fr} {e : Operand → Option Value} {a : Act} {K : Fr → St → Prop} {K' : Act → World → Prop} {Q : Exit → Act → World → Prop}
    (hi : ops[i]? = some o) (g : Good ι s w base w0) (he : ∀ x v, e x = some v → VRel ι v (a.eval x))
    (hg : ∀ t x, (comp1 P ops o).guard = some (some t, x) → ∀ v, fr.get t = some v → ∃ v', a.tmps[t]? = some v' ∧ VRel ι v v')
    (hee : vx (comp1 P ops o).op e s = vx (comp1 P ops o).op (ev fr) s)
    (h : vstep P (comp1 P ops o) K fr s)
    (hn : ∀ v v' s' w' κ, K (fput fr o.dst v) s' → ι.le κ → VRel κ v v' → Good κ s' w' base w0 → K' (a.put o.dst v') w') : wpOpIn (fence r) n P ops Q i K' a w := by
  unfold wpOpIn
  simp only [hi]
  unfold vstep at h
  cases hw : cwant fr (comp1 P ops o) with
  | none => simp [hw] at h
  | some b =>
    have hwant := cwant_spec (P := P) hg hw
    cases b with
    | false =>
      simp only [hw] at h
      rw [if_neg (by rw [hwant]; simp)]
      exact ⟨fun _ _ => trivial, hn undef undef s w ι h (Emb.le_refl _) VRel.undef g⟩
    | true =>
      simp only [hw] at h
      rw [if_pos hwant]
      cases hc : comp P o with
      | none => simp [comp1, hc, vres, vx] at h
      | some vo =>
        have hvo : (comp1 P ops o).op = vo := by simp [comp1, hc]
        rw [hvo] at h hee
        have h' : vres P vo e s fun v s' => K (fput fr o.dst v) s' := by unfold vres at h ⊢; rw [hee]; exact h
        exact vres_sound hc g he h' hn

theorem wpOpIn_of_stepped {r : Option Nat} {n : Nat} {ops : Array Oper} {Q : Exit → Act → World → Prop} {i : Nat} {K' : Act → World → Prop} {a : Act} {w : World} (hi : ops[i]? = none) (h : K' a w) : wpOpIn (fence r) n P ops Q i K' a w := by
  unfold wpOpIn; simp [hi, h]

/-- A region in the order of its text. -/
theorem region_seq {r : Option Nat} {n N : Nat} {ops : Array Oper} {K : Fr → St → Prop} {Q : Exit → Act → World → Prop} {a0 : Act} (hN : ∀ (i : Nat) (o : Oper) (d : Tmp), ops[i]? = some o → o.dst = some d → d < N)
    {ι0 : Emb} (hQ : ∀ fr s ι a w, K fr s → ι0.le ι → Slots ι fr a.tmps → a.tmps.size = N → a.defers = a0.defers → Good ι s w base w0 → Q .normal a w) :
    ∀ (idx : List Nat) (fr : Fr) (s : St) (ι : Emb) (a : Act) (w : World), (∀ i ∈ idx, i < ops.size) → vrun P (idx.map fun i => (comp1 P ops (ops.getD i default), [])) K fr s → ι0.le ι → Slots ι fr a.tmps → a.tmps.size = N → a.defers = a0.defers → Good ι s w base w0 →
      wpOpsIn (fence r) n P ops Q idx a w
  | [], fr, s, ι, a, w, _, h, h1, h2, h3, h4, g => hQ _ _ _ _ _ h h1 h2 h3 h4 g
  | i :: idx, fr, s, ι, a, w, hidx, h, h1, h2, h3, h4, g => by
    rw [wpOpsIn_cons]
    have hi : i < ops.size := hidx i (List.mem_cons_self ..)
    have ho : ops[i]? = some ops[i] := Array.getElem?_eq_getElem hi
    simp only [List.map_cons, vrun, Array.getD_eq_getD_getElem?, ho, Option.getD_some] at h
    refine vstep_sound ho g (e := ev fr) h2.ev (fun t x _ v e => h2 t v e) rfl h ?_
    rintro v v' s' w' κ ⟨_, hK⟩ hle hv g'
    refine region_seq hN hQ idx _ s' κ _ w' (fun j hj => hidx j (List.mem_cons_of_mem _ hj)) (by simpa only [Array.getD_eq_getD_getElem?] using hK) (Emb.le_trans h1 hle) ?_ (by simp [h3]) (by simp [h4]) g'
    exact (h2.mono hle).put (fun t ht => by rw [h3]; exact hN i _ t ho ht) hv

end

/-! ### Whatever order -/

def VOp.quiet : VOp → Bool
  | .mov _ | .pick .. | .build .. | .load .. | .nilCheck _ | .bin .. | .eqb .. | .not _ | .neg _ | .conv .. | .convStr _ | .arrPtr .. | .mkFunc .. | .sliceSl .. | .sliceArr .. | .sliceStr .. | .fieldAddr .. | .idxArr .. | .idxSl .. | .idxAgg .. | .idxStr .. | .field .. | .extract .. | .lenSl _ | .lenStr _ | .minmax .. | .lookup .. | .entry _ | .lenMap _ => true
  | _ => false

/-- A quiet operation yields a value and leaves all as it was, or fails. -/
theorem quiet_val {o : VOp} (h : o.quiet = true) (e : Operand → Option Value) (s : St) : (∃ v, vx o e s = .val v s) ∨ vx o e s = .bad := by
  cases o <;> try (simp [VOp.quiet] at h; done)
  case load n a =>
    cases n <;> simp only [vx] <;> repeat' split
    all_goals first
      | exact .inr rfl
      | exact .inl ⟨_, rfl⟩
  all_goals
    simp only [vx]
    repeat' split
    all_goals first
      | exact .inr rfl
      | exact .inl ⟨_, rfl⟩

end Go.Vm
