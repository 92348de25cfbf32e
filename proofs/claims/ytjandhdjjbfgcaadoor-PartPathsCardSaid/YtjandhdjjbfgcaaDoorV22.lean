/- Steps of a proof by hand: rewriting from the head on. What comes later (and the frame) stands as an argument that simp leaves alone: a later argument's type hangs on it. -/
import Derived.Test.YtjandhdjjbfgcaaDoorV21
set_option linter.unusedSectionVars false
set_option linter.unusedSimpArgs false
set_option linter.unusedVariables false
/- Steps of a proof by hand: rewriting from the head on. What comes later (and the frame) stands as an argument that simp leaves alone: a later argument's type hangs on it. -/
namespace Go.Vm
variable [Laid]

/-- Holds an argument fast. -/
structure Tag {α : Type} (x : α) : Type where
def tg {α : Type} (x : α) : Tag x := ⟨⟩

section
variable {P : Program} {fr : Fr} {s s' : St} {e : Operand → Option Value} {m : List Nat} {rd : Option Nat} {N : Nat} {K : VK}

def runW (P : Program) (rd : Option Nat) (N : Nat) (c : VC) (K : VK) (fr : Fr) (m : List Nat) (s : St) (_ : Tag (c, K, fr, s)) : Prop := VC.run P rd N c K fr m s
def apW (K : VK) (x : VX) (fr : Fr) (m : List Nat) (s : St) (_ : Tag (K, fr, s)) : Prop := K x fr m s
def vrunW (P : Program) (l : List (COp × List COp)) (K : VK) (m : List Nat) (fr : Fr) (s : St) (_ : Tag (l, K, fr, s)) : Prop := vrun P l (fun fr s => K .normal fr m s) fr s
def resW (P : Program) (r : VR) (d : Option Tmp) (l : List (COp × List COp)) (K : VK) (m : List Nat) (fr : Fr) (s : St) (_ : Tag (l, K, fr, s)) : Prop :=
  match r with
  | .val v s' => vrun P l (fun fr s => K .normal fr m s) (fput fr d v) s'
  | .skip s' => vrun P l (fun fr s => K .normal fr m s) (fput fr d undef) s'
  | .call f args => VCalls P f args s fun v s' => vrun P l (fun fr s => K .normal fr m s) (fput fr d v) s'
  | .yield b args => VYield P b args s fun v s' => vrun P l (fun fr s => K .normal fr m s) (fput fr d v) s'
  | .any xs => ∀ x ∈ xs, vrun P l (fun fr s => K .normal fr m s) (fput fr d x.1) x.2
  | .bad => False
def callW (P : Program) (f : FuncId) (args : List Value) (d : Option Tmp) (l : List (COp × List COp)) (K : VK) (m : List Nat) (fr : Fr) (s : St) (_ : Tag (l, K, fr, s)) : Prop :=
  VCalls P f args s fun v s' => vrun P l (fun fr s => K .normal fr m s) (fput fr d v) s'
def guardW (P : Program) (o : Option Value) (b : Bool) (d : Option Tmp) (op : VOp) (l : List (COp × List COp)) (K : VK) (m : List Nat) (fr : Fr) (s : St) (_ : Tag (op, l, K, fr, s)) : Prop :=
  match o with
  | some (.bool x) => if (x == b) = true then resW P (vx op (ev fr) s) d l K m fr s (tg _) else vrunW P l K m (fput fr d undef) s (tg _)
  | some _ => vrunW P l K m (fput fr d undef) s (tg _)
  | none => False
def condW (P : Program) (rd : Option Nat) (N : Nat) (o : Option Value) (a b : VC) (K : VK) (fr : Fr) (m : List Nat) (s : St) (_ : Tag (a, b, K, fr, s)) : Prop :=
  match o with
  | some (.bool true) => runW P rd N a K fr m s (tg _)
  | some (.bool false) => runW P rd N b K fr m s (tg _)
  | _ => False
def retW (o : Option (List Value)) (Q : Value → St → Prop) (s : St) (_ : Tag (Q, s)) : Prop :=
  match o with
  | some vs => Q (packV vs) s
  | none => False
def thenW (P : Program) (rd : Option Nat) (N : Nat) (c : VC) (K : VK) : VK := thenK (VC.run P rd N c K) K

theorem runW_in {c : VC} : VC.run P rd N c K fr m s = runW P rd N c K fr m s (tg _) := rfl
theorem runW_skip {t} : runW P rd N .skip K fr m s t = apW K .normal fr m s (tg _) := rfl
theorem runW_reg {l : List (COp × List COp)} {t} : runW P rd N (.reg l) K fr m s t = vrunW P l K m fr s (tg _) := rfl
theorem runW_seq {a b : VC} {t} : runW P rd N (.seq a b) K fr m s t = runW P rd N a (thenW P rd N b K) fr m s (tg _) := rfl
theorem runW_cond {c : Operand} {a b : VC} {t} : runW P rd N (.cond c a b) K fr m s t = condW P rd N (ev fr c) a b K fr m s (tg _) := rfl
theorem runW_block {id : Nat} {c : VC} {t} : runW P rd N (.block id c) K fr m s t = runW P rd N c (blockK id K) fr m s (tg _) := rfl
theorem runW_exit {id : Nat} {t} : runW P rd N (.exit id) K fr m s t = apW K (.exit id) fr m s (tg _) := rfl
theorem runW_ret {t} : runW P rd N .ret K fr m s t = apW K .ret fr m s (tg _) := rfl
theorem condW_true {a b : VC} {t} : condW P rd N (some (.bool true)) a b K fr m s t = runW P rd N a K fr m s (tg _) := rfl
theorem condW_false {a b : VC} {t} : condW P rd N (some (.bool false)) a b K fr m s t = runW P rd N b K fr m s (tg _) := rfl
theorem apW_then_normal {b : VC} {t} : apW (thenW P rd N b K) .normal fr m s t = runW P rd N b K fr m s (tg _) := rfl
theorem apW_then_exit {b : VC} {i : Nat} {t} : apW (thenW P rd N b K) (.exit i) fr m s t = apW K (.exit i) fr m s (tg _) := rfl
theorem apW_then_ret {b : VC} {t} : apW (thenW P rd N b K) .ret fr m s t = apW K .ret fr m s (tg _) := rfl
theorem apW_thenK_normal {R : Fr → List Nat → St → Prop} {t} : apW (thenK R K) .normal fr m s t = R fr m s := rfl
theorem apW_thenK_exit {R : Fr → List Nat → St → Prop} {i : Nat} {t} : apW (thenK R K) (.exit i) fr m s t = apW K (.exit i) fr m s (tg _) := rfl
theorem apW_thenK_ret {R : Fr → List Nat → St → Prop} {t} : apW (thenK R K) .ret fr m s t = apW K .ret fr m s (tg _) := rfl
theorem apW_block_normal {id : Nat} {t} : apW (blockK id K) .normal fr m s t = apW K .normal fr m s (tg _) := rfl
theorem apW_block_ret {id : Nat} {t} : apW (blockK id K) .ret fr m s t = apW K .ret fr m s (tg _) := rfl
theorem apW_block_exit {id i : Nat} {t} : apW (blockK id K) (.exit i) fr m s t = if i = id then apW K .normal fr m s (tg _) else apW K (.exit i) fr m s (tg _) := by
  simp only [apW, blockK]; split <;> rfl
theorem apW_ret {rs : List VRes} {Q : Value → St → Prop} {t} : apW (retK rs Q) .ret fr [] s t = retW (vresAll fr s rs) Q s (tg _) := rfl
theorem apW_fall {rs : List VRes} {Q : Value → St → Prop} {t} : apW (retK rs Q) .normal fr [] s t = retW (vresAll fr s rs) Q s (tg _) := rfl
theorem retW_some {vs : List Value} {Q : Value → St → Prop} {t} : retW (some vs) Q s t = Q (packV vs) s := rfl

theorem vrunW_nil {t} : vrunW P [] K m fr s t = apW K .normal fr m s (tg _) := rfl
theorem vrunW_plain {d : Option Tmp} {op : VOp} {l : List (COp × List COp)} {t} : vrunW P ((⟨d, op, none⟩, []) :: l) K m fr s t = resW P (vx op (ev fr) s) d l K m fr s (tg _) := by
  simp only [vrunW, vrun, List.not_mem_nil, false_imp_iff, implies_true, true_and]
  rfl
theorem vrunW_guard {d : Option Tmp} {op : VOp} {t : Tmp} {b : Bool} {l : List (COp × List COp)} {t'} : vrunW P ((⟨d, op, some (some t, b)⟩, []) :: l) K m fr s t' = guardW P (fr.get t) b d op l K m fr s (tg _) := by
  simp only [vrunW, vrun, List.not_mem_nil, false_imp_iff, implies_true, true_and]
  unfold vstep cwant guardW
  simp only
  cases h : fr.get t with
  | none => rfl
  | some v =>
    cases v <;> try rfl
    rename_i x
    simp only
    cases hx : x == b
    · rfl
    · rw [if_pos rfl]; rfl
theorem resW_val {v : Value} {d : Option Tmp} {l : List (COp × List COp)} {t} : resW P (.val v s') d l K m fr s t = vrunW P l K m (fput fr d v) s' (tg _) := rfl
theorem resW_skip {d : Option Tmp} {l : List (COp × List COp)} {t} : resW P (.skip s') d l K m fr s t = vrunW P l K m (fput fr d undef) s' (tg _) := rfl
theorem resW_call {f : FuncId} {args : List Value} {d : Option Tmp} {l : List (COp × List COp)} {t} : resW P (.call f args) d l K m fr s t = callW P f args d l K m fr s (tg _) := rfl
theorem guardW_tt {d : Option Tmp} {op : VOp} {l : List (COp × List COp)} {t} : guardW P (some (.bool true)) true d op l K m fr s t = resW P (vx op (ev fr) s) d l K m fr s (tg _) := by simp [guardW]
theorem guardW_ff {d : Option Tmp} {op : VOp} {l : List (COp × List COp)} {t} : guardW P (some (.bool false)) false d op l K m fr s t = resW P (vx op (ev fr) s) d l K m fr s (tg _) := by simp [guardW]
theorem guardW_tf {d : Option Tmp} {op : VOp} {l : List (COp × List COp)} {t} : guardW P (some (.bool true)) false d op l K m fr s t = vrunW P l K m (fput fr d undef) s (tg _) := by simp [guardW]
theorem guardW_ft {d : Option Tmp} {op : VOp} {l : List (COp × List COp)} {t} : guardW P (some (.bool false)) true d op l K m fr s t = vrunW P l K m (fput fr d undef) s (tg _) := by simp [guardW]
theorem guardW_undef {b : Bool} {d : Option Tmp} {op : VOp} {l : List (COp × List COp)} {t} : guardW P (some undef) b d op l K m fr s t = vrunW P l K m (fput fr d undef) s (tg _) := rfl

/-- On behind a call, by its contract. -/
theorem callW_of {f : FuncId} {args : List Value} {d : Option Tmp} {l : List (COp × List COp)} {t} {R : Value → St → Prop} (h : VCalls P f args s R) (hk : ∀ v s', R v s' → vrunW P l K m (fput fr d v) s' (tg _)) : callW P f args d l K m fr s t :=
  VCalls.mono h hk

theorem ev_tmp {t : Tmp} : ev fr (.tmp t) = fr.get t := rfl
theorem ev_int {k : IntKind} {n : Int} : ev fr (.const (.int k n)) = some (.int k n) := rfl
theorem ev_bool {b : Bool} : ev fr (.const (.bool b)) = some (.bool b) := rfl
theorem ev_str {x : ByteArray} : ev fr (.const (.string x)) = some (.string x) := rfl
theorem ev_nil : ev fr (.const (.slice none 0 0)) = some (.slice none 0 0) := rfl
theorem ev_map : ev fr (.const (.map none)) = some (.map none) := rfl
theorem ev_fn {f : FuncId} : ev fr (.func f) = some (.func (.func f) #[] #[]) := rfl
theorem fput_some {t : Tmp} {v : Value} : fput fr (some t) v = fr.set t v := rfl
theorem fput_none {v : Value} : fput fr none v = fr := rfl
end
end Go.Vm
