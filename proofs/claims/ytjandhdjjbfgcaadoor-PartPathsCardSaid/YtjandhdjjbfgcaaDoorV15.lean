/- Yield; functions. -/
import Derived.Test.YtjandhdjjbfgcaaDoorV14
set_option linter.unusedSectionVars false
set_option linter.unusedSimpArgs false
set_option linter.unusedVariables false
/- Yield; functions. -/
namespace Go.Vm
open Go.RowKit (Below)
variable [Laid]

def setAll (fr : Fr) : List Tmp → List Value → Fr
  | t :: ts, v :: vs => setAll (fr.set t v) ts vs
  | _, _ => fr

/-- Where a round begins. -/
def beginK (b : Nat) (R : Fr → List Nat → St → Prop) (fr : Fr) (m : List Nat) (s : St) : Prop :=
  match s.get b with
  | some (.loop .ready pend fr' N' ps' az' bo') => R fr m (s.set b (.loop .busy pend fr' N' ps' az' bo'))
  | _ => False
/-- Where a round ends. -/
def endK (b : Nat) (Q : Value → St → Prop) : VK
  | .normal, _, _, s => match s.get b with
    | some (.loop _ _ fr' N' ps' az' bo') => Q (.bool true) (s.set b (.loop .ready none fr' N' ps' az' bo'))
    | _ => False
  | .exit id, _, _, s => match s.get b with
    | some (.loop _ _ fr' N' ps' az' bo') => Q (.bool false) (s.set b (.loop .done (some (.exit id)) fr' N' ps' az' bo'))
    | _ => False
  | .ret, _, _, s => match s.get b with
    | some (.loop _ _ fr' N' ps' az' bo') => Q (.bool false) (s.set b (.loop .done (some .ret) fr' N' ps' az' bo'))
    | _ => False
def noK : VK := fun _ _ _ _ => False

/-- A call of yield, by the record. -/
def yieldRun (P : Program) (b : Nat) (args : List Value) (s : St) (Q : Value → St → Prop) : Prop :=
  match s.get b with
  | some (.loop _ _ fr N ps az bo) => args.length = ps.size ∧ (ps.toList.all fun t => decide (t < N)) = true ∧
    match cc P N az, cc P N bo with
    | some va, some vb => va.run P (some b) N (thenK (beginK b (vb.run P (some b) N (endK b Q))) noK) (setAll fr ps.toList args) [] s
    | _, _ => False
  | _ => False

theorem Slots.setAll {ι : Emb} : ∀ (ps : List Tmp) (vs vs' : List Value) (fr : Fr) (tmps : Array Value), Slots ι fr tmps → Rels ι vs vs' → (∀ t ∈ ps, t < tmps.size) →
    Slots ι (Vm.setAll fr ps vs) ((ps.zip vs').foldl (fun tmps (t, a) => tmps.setIfInBounds t a) tmps) ∧ ((ps.zip vs').foldl (fun tmps (t, a) => tmps.setIfInBounds t a) tmps).size = tmps.size
  | [], vs, vs', fr, tmps, h, _, _ => by cases vs <;> exact ⟨h, rfl⟩
  | t :: ps, [], vs', fr, tmps, h, hr, _ => by
    have : vs' = [] := List.eq_nil_of_length_eq_zero (by rw [← hr.1]; rfl)
    subst this; exact ⟨h, rfl⟩
  | t :: ps, v :: vs, vs', fr, tmps, h, hr, ht => by
    cases vs' with
    | nil => exact absurd hr.1 (by simp)
    | cons v' vs' =>
      have hv : VRel ι v v' := hr.2 0 v v' rfl rfl
      have hr' : Rels ι vs vs' := ⟨by simpa using hr.1, fun i x x' e e' => hr.2 (i + 1) x x' (by simpa using e) (by simpa using e')⟩
      have h1 : Slots ι (fr.set t v) (tmps.setIfInBounds t v') := (h.put (a := { tmps := tmps, defers := [] }) (d := some t) (fun u hu => by cases hu; exact ht t (List.mem_cons_self ..)) hv)
      obtain ⟨k1, k2⟩ := Slots.setAll ps vs vs' _ _ h1 hr' (fun u hu => by simpa using ht u (List.mem_cons_of_mem _ hu))
      exact ⟨k1, by simpa using k2⟩

theorem zip_foldl (ps : Array Tmp) (vs : Array Value) (tmps : Array Value) : (ps.zip vs).foldl (fun tmps (x : Tmp × Value) => tmps.setIfInBounds x.1 x.2) tmps = (ps.toList.zip vs.toList).foldl (fun tmps (x : Tmp × Value) => tmps.setIfInBounds x.1 x.2) tmps := by
  rw [← Array.foldl_toList, Array.toList_zip]

theorem yield_sound {P : Program} {b : Nat} {args : List Value} {s : St} {Q : Value → St → Prop} (hm : P.follows .mixedOrders = true) (h : yieldRun P b args s Q) : VYield P b args s Q := by
  intro ι base w0 w args' p r n g hp hrel
  unfold yieldRun at h
  split at h
  · rename_i st pend fr N ps az bo hb
    obtain ⟨h1, h2, h3⟩ := h
    split at h3
    · rename_i va vb hva hvb
      obtain ⟨fn, tmps, df, e1, e2⟩ := blk_loop g hp hb
      have hsz : args'.size = ps.size := by have := hrel.1; simp at this; omega
      refine ⟨fn, _, az, bo, run_yield e1 hsz, roundIn_of_wpIn trivial ?_⟩
      have hps : ∀ t ∈ ps.toList, t < tmps.size := fun t ht => by rw [e2.1]; simpa using List.all_eq_true.1 h2 t ht
      obtain ⟨k1, k2⟩ := Slots.setAll ps.toList args args'.toList fr tmps e2.2 hrel hps
      have hfold := zip_foldl ps args' tmps
      have ha : Act3 ι N base w0 (setAll fr ps.toList args) [] s { tmps := (ps.zip args').foldl (fun tmps (x : Tmp × Value) => tmps.setIfInBounds x.1 x.2) tmps, defers := [] } w := by
        refine ⟨?_, ?_, trivial, g⟩
        · show Array.size (Array.foldl _ _ _) = N
          rw [hfold]; rw [← e2.1]; exact k2
        · show Slots ι _ (Array.foldl _ _ _)
          rw [hfold]; exact k1
      refine run_sound az hva hm h3 (r := some p.B) ⟨p, hp, rfl⟩ ha ?_
      intro e fr1 m1 s1 κ a1 w1 hK hle ha1
      cases e with
      | exit id => exact hK.elim
      | ret => exact hK.elim
      | normal =>
        simp only [thenK, beginK] at hK
        split at hK
        · rename_i pend1 fr2 N2 ps2 as2 bo2 hb1
          have hpκ := hle _ _ hp
          obtain ⟨fn2, tmps2, df2, f1, f2⟩ := blk_loop ha1.good hpκ hb1
          refine ⟨_, run_beginRound f1 rfl, ?_⟩
          have g2 := set_loop (st' := .busy) (pend' := pend1) ha1.good hpκ hb1 f1 f2
          refine run_sound bo hvb hm hK (r := some p.B) ⟨p, hpκ, rfl⟩ ⟨ha1.size, ha1.slots, ha1.marks, g2⟩ ?_
          intro e fr3 m3 s3 μ a3 w3 hK3 hle3 ha3
          have hpμ := hle3 _ _ hpκ
          have fin : ∀ {st pend fr' N' ps' az' bo'}, s3.get b = some (.loop st pend fr' N' ps' az' bo') → ∀ (jump : Option Code),
              Q (.bool jump.isNone) (s3.set b (.loop (if jump.isNone then .ready else .done) jump fr' N' ps' az' bo')) →
              ∃ v w', (Instr.endRound p.B jump).run P w3 = .ok v w' ∧ ∃ v1 v' s' κ, Ending.returned v = .returned v' ∧ Q v1 s' ∧ ι.le κ ∧ VRel κ v1 v' ∧ Good κ s' w' base w0 := by
            intro st pend fr' N' ps' az' bo' hb3 jump hq
            obtain ⟨fn4, tmps4, df4, j1, j2⟩ := blk_loop ha3.good hpμ hb3
            exact ⟨_, _, run_endRound jump j1, _, _, _, μ, rfl, hq, Emb.le_trans hle hle3, .bool _, set_loop (st' := if jump.isNone then .ready else .done) (pend' := jump) ha3.good hpμ hb3 j1 j2⟩
          cases e with
          | normal =>
            simp only [endK] at hK3
            split at hK3
            · rename_i hb3; exact fin hb3 none hK3
            · exact hK3.elim
          | exit id =>
            simp only [endK] at hK3
            split at hK3
            · rename_i hb3; exact fin hb3 (some (.exit id)) hK3
            · exact hK3.elim
          | ret =>
            simp only [endK] at hK3
            split at hK3
            · rename_i hb3; exact fin hb3 (some .ret) hK3
            · exact hK3.elim
        · exact hK.elim
    · exact h3.elim
  · exact h.elim

/-! ### Functions -/

/-- What a function hands back. -/
inductive VRes where
  | tmp (t : Tmp)
  | cell (n : Option Nat) (a : Tmp)
  deriving Inhabited

def cres (P : Program) : ResultVar → Option VRes
  | .tmp t => some (.tmp t)
  | .cell a t => match aggOf P t, szOf P t with
    | some true, some n => some (.cell (some n) a)
    | some false, some _ => some (.cell none a)
    | _, _ => none
def cresAll (P : Program) : List ResultVar → Option (List VRes)
  | [] => some []
  | r :: rs => match cres P r, cresAll P rs with
    | some x, some xs => some (x :: xs)
    | _, _ => none

def vres1 (fr : Fr) (s : St) : VRes → Option Value
  | .tmp t => fr.get t
  | .cell none a => match fr.get a with
    | some (.pointer (some ⟨b, o, none⟩)) => load1 s b o
    | _ => none
  | .cell (some n) a => match fr.get a with
    | some (.pointer (some ⟨b, o, none⟩)) => (loadN s b o n).map fun vs => .agg vs.toArray
    | _ => none
def vresAll (fr : Fr) (s : St) : List VRes → Option (List Value)
  | [] => some []
  | r :: rs => match vres1 fr s r, vresAll fr s rs with
    | some x, some xs => some (x :: xs)
    | _, _ => none
def packV : List Value → Value
  | [v] => v
  | vs => .tuple vs.toArray

/-- The blocks for deferred calls are shut. -/
def shut : List Nat → St → Option St
  | [], s => some s
  | b :: m, s => match s.get b with
    | some .defers => shut m (s.set b .dead)
    | _ => none

/-- The end of a function's body. -/
def retK (rs : List VRes) (Q : Value → St → Prop) : VK
  | .exit _, _, _, _ => False
  | .normal, fr, m, s | .ret, fr, m, s => match shut m s with
    | some s' => match vresAll fr s' rs with
      | some vs => Q (packV vs) s'
      | none => False
    | none => False

structure VFn where
  N : Nat
  nargs : Nat
  res : List VRes
  code : VC
  deriving Inhabited

def frameOf (args : List Value) : Fr := (args.zipIdx).foldl (fun fr (v, i) => fr.set i v) .nil
def argsFr : Nat → List Value → Fr → Fr
  | _, [], fr => fr
  | i, v :: vs, fr => argsFr (i + 1) vs (fr.set i v)

def VFn.run (P : Program) (f : VFn) (args : List Value) (s : St) (Q : Value → St → Prop) : Prop :=
  args.length ≤ f.N ∧ f.code.run P none f.N (retK f.res Q) (argsFr 0 args .nil) [] s

def cfn (P : Program) (fn : Func) : Option VFn :=
  match fn.body with
  | some c => match cc P fn.ntmps c, cresAll P fn.results.toList with
    | some vc, some rs => some { N := fn.ntmps, nargs := fn.params.size, res := rs, code := vc }
    | _, _ => none
  | none => none

section
variable {P : Program} {ι : Emb} {s : St} {w : World} {base : Nat} {w0 : World}

theorem argsFr_get : ∀ (vs : List Value) (i : Nat) (fr : Fr) (t : Nat), (argsFr i vs fr).get t = if t < i then fr.get t else match vs[t - i]? with | some v => some v | none => fr.get t
  | [], i, fr, t => by simp [argsFr]
  | v :: vs, i, fr, t => by
    rw [argsFr, argsFr_get vs (i + 1)]
    by_cases h : t < i
    · rw [if_pos (by omega), if_pos h, Tr.get_set_ne _ _ (by omega)]
    · rw [if_neg h]
      by_cases h1 : t = i
      · subst h1; rw [if_pos (by omega)]; simp
      · rw [if_neg (by omega), Tr.get_set_ne _ _ h1]
        obtain ⟨k, rfl⟩ : ∃ k, t = i + 1 + k := ⟨t - (i + 1), by omega⟩
        rw [show i + 1 + k - (i + 1) = k from by omega, show i + 1 + k - i = k + 1 from by omega]
        rfl

theorem slots_args {args : List Value} {args' : Array Value} {N : Nat} (h : Rels ι args args'.toList) : Slots ι (argsFr 0 args .nil) (args' ++ Array.replicate (N - args'.size) undef) := by
  intro t v e
  rw [argsFr_get] at e
  simp only [Nat.not_lt_zero, if_false, Nat.sub_zero] at e
  cases hv : args[t]? with
  | none => rw [hv] at e; simp only at e; rw [show (Tr.nil : Fr).get t = none from rfl] at e; cases e
  | some x =>
    rw [hv] at e; cases e
    obtain ⟨v', h1, h2⟩ := h.get hv
    have h1' : args'[t]? = some v' := by simpa using h1
    have hlt : t < args'.size := (Array.getElem?_eq_some_iff.1 h1').1
    exact ⟨v', by rw [Array.getElem?_append_left hlt]; exact h1', h2⟩

def resOne (tmps : Array Value) : ResultVar → Sem Value
  | .tmp t => pure (tmps.getD t undef)
  | .cell a t => do loadVar t (← asAddr (tmps.getD a undef))
theorem results_eq (fn : Func) (tmps : Array Value) : results fn tmps = (do
    let vs ← fn.results.mapM (resOne tmps)
    pure (if h : vs.size = 1 then vs[0] else .tuple vs)) := by
  unfold results
  congr 1

theorem vres1_sound {fr : Fr} {tmps : Array Value} (g : Good ι s w base w0) (hs : Slots ι fr tmps) {r : ResultVar} {x : VRes} (hc : cres P r = some x) {v : Value} (h : vres1 fr s x = some v) :
    ∃ v', (resOne tmps r).run P w = .ok v' w ∧ VRel ι v v' := by
  cases r with
  | tmp t =>
    cases hc
    obtain ⟨v', h1, h2⟩ := hs t v h
    exact ⟨v', by simp [resOne, Array.getD_eq_getD_getElem?, h1], h2⟩
  | cell a t =>
    simp only [cres] at hc
    split at hc
    · rename_i n ha hn
      cases hc
      simp only [vres1] at h
      split at h
      · rename_i b o hb
        obtain ⟨p', h1, h2⟩ := hs a _ hb
        cases h2 with
        | ptr hp =>
          cases hl : Vm.loadN s b o n with
          | none => rw [hl] at h; cases h
          | some vs =>
            rw [hl] at h; cases h
            obtain ⟨hlen, vs', e1, e2⟩ := g.loadN hl hp
            have := run_loadCells (P := P) (w := w) (n := n) (by rw [← e1.1, hlen]) e2
            refine ⟨.agg vs'.toArray, ?_, ?_⟩
            · simp [resOne, Array.getD_eq_getD_getElem?, h1, asAddr, loadVar, isAgg_run ha, sizeOf_run hn, this]
            · exact .agg (by simp [e1.1]) (fun i v v' h h' => e1.2 i v v' (by simpa using h) (by simpa using h'))
      · cases h
    · rename_i n ha hn
      cases hc
      simp only [vres1] at h
      split at h
      · rename_i b o hb
        obtain ⟨p', h1, h2⟩ := hs a _ hb
        cases h2 with
        | ptr hp =>
          obtain ⟨v', e1, e2⟩ := g.load1 h hp
          exact ⟨v', by simp [resOne, Array.getD_eq_getD_getElem?, h1, asAddr, loadVar, isAgg_run ha, e1], e2⟩
      · cases h
    · cases hc

theorem vresAll_sound {fr : Fr} {tmps : Array Value} (g : Good ι s w base w0) (hs : Slots ι fr tmps) : ∀ {rs : List ResultVar} {xs : List VRes} {vs : List Value}, cresAll P rs = some xs → vresAll fr s xs = some vs →
    ∃ vs', (rs.mapM (resOne tmps)).run P w = .ok vs' w ∧ Rels ι vs vs'
  | [], xs, vs, hc, h => by cases hc; cases h; exact ⟨[], by simp, Rels.nil ι⟩
  | r :: rs, xs, vs, hc, h => by
    simp only [cresAll] at hc
    split at hc
    · rename_i x xs' h1 h2
      cases hc
      simp only [vresAll] at h
      split at h
      · rename_i v vs1 k1 k2
        cases h
        obtain ⟨v', e1, e2⟩ := vres1_sound g hs h1 k1
        obtain ⟨vs', e3, e4⟩ := vresAll_sound g hs h2 k2
        refine ⟨v' :: vs', ?_, Rels.cons e2 e4⟩
        rw [List.mapM_cons, Sem.run_bind, e1]
        simp only [Result.andThen, Sem.run_bind, e3, Sem.run_pure]
      · cases h
    · cases hc

theorem results_sound {fr : Fr} {tmps : Array Value} {fn : Func} (g : Good ι s w base w0) (hs : Slots ι fr tmps) {xs : List VRes} {vs : List Value} (hc : cresAll P fn.results.toList = some xs) (h : vresAll fr s xs = some vs) :
    ∃ v', (results fn tmps).run P w = .ok v' w ∧ VRel ι (packV vs) v' := by
  obtain ⟨vs', h1, h2⟩ := vresAll_sound g hs hc h
  refine ⟨packV vs', ?_, ?_⟩
  · rw [results_eq]
    rw [Array.mapM_eq_mapM_toList, Sem.run_bind, Sem.run_map, h1]
    simp only [Result.andThen, Sem.run_pure]
    congr 1
    match vs' with
    | [] => rfl
    | [v] => rfl
    | v :: u :: r => simp [packV]
  · match vs, vs', h2 with
    | [], [], _ => exact .tuple rfl fun i v v' e => by simp [packV] at e
    | [v], [v'], h2 => exact h2.2 0 _ _ rfl rfl
    | v :: u :: r, v' :: u' :: r', h2 => exact .tuple (by simpa using h2.1) (fun i x x' e e' => h2.2 i x x' (by simpa [packV] using e) (by simpa [packV] using e'))
    | [], _ :: _, h2 => exact absurd h2.1 (by simp)
    | [_], [], h2 => exact absurd h2.1 (by simp)
    | [_], _ :: _ :: _, h2 => exact absurd h2.1 (by simp)
    | _ :: _ :: _, [], h2 => exact absurd h2.1 (by simp)
    | _ :: _ :: _, [_], h2 => exact absurd h2.1 (by simp)

theorem shut_sound {n : Nat} {F : Fence} {fn : Func} {tmps : Array Value} {R : Ending → World → Prop} : ∀ (m : List Nat) (ds : List Deferred) (s s' : St) (w : World), Good ι s w base w0 → Marks ι m ds → shut m s = some s' →
    (∀ w', Good ι s' w' base w0 → LeavesInM F n P fn tmps R [] .returning w') → LeavesInM F n P fn tmps R ds .returning w
  | [], [], s, s', w, g, _, h, k => by cases h; exact k w g
  | [], _ :: _, _, _, _, _, h, _, _ => h.elim
  | _ :: _, [], _, _, _, _, h, _, _ => h.elim
  | b :: m, d :: ds, s, s', w, g, ⟨⟨p, hp, hd⟩, hm⟩, h, k => by
    simp only [shut] at h
    split at h
    · rename_i hb
      obtain ⟨p1, ob, e1, e2, e3, e4⟩ := g.blk b _ hb rfl
      rw [hp] at e1; cases e1
      have e3 : ob = .deferred (some []) := e3
      subst e3
      have hlt : p.B < w.heap.size := (Array.getElem?_eq_some_iff.1 e2).1
      have g' : Good ι (s.set b .dead) (w.putObj p.B (.deferred none)) base w0 :=
        g.change hb rfl hp (.inr rfl) (World.putObj_heap_same hlt) (fun k hk => World.putObj_heap_other hk) World.putObj_size rfl rfl rfl trivial
      exact ⟨by simp, .inl ⟨p.B, _, by rw [hd], run_takeDeferred e2, shut_sound m ds _ s' _ g' hm h k⟩⟩
    · cases h

theorem fn_sound {f : FuncId} {fn : Func} {vf : VFn} {args : List Value} {Q : Value → St → Prop} (hm : P.follows .mixedOrders = true) (hf : P.funcs[f]? = some fn) (hc : cfn P fn = some vf)
    (hcall : ∀ (args' : Array Value) (w : World), (callFunc f args').run P w = .ok (.enter f args') w) (h : vf.run P args s Q) : VCalls P f args s Q := by
  unfold cfn at hc
  split at hc
  · rename_i c hb
    split at hc
    · rename_i vc rs h1 h2
      cases hc
      refine ⟨hcall, fun ι base w0 w args' g hr => ?_⟩
      refine (callsIn_wide (n := 0)).1 (callsIn_of_wp_marks hf hb trivial ?_)
      have hsz : args'.size = args.length := by have := hr.1; simp at this; omega
      have ha : Act3 ι fn.ntmps base w0 (argsFr 0 args .nil) [] s { tmps := args' ++ Array.replicate (fn.ntmps - args'.size) undef, defers := [] } w :=
        ⟨by have := h.1; simp at this ⊢; omega, slots_args hr, trivial, g⟩
      refine run_sound (r := none) c h1 hm h.2 trivial ha ?_
      intro e fr m s' κ a w' hK hle ha'
      have fin : retK rs Q .ret fr m s' → LeavesInM Fence.wide 0 P fn a.tmps (fun e w' => ∃ v v' s' κ, e = .returned v' ∧ Q v s' ∧ ι.le κ ∧ VRel κ v v' ∧ Good κ s' w' base w0) a.defers .returning w' := by
        intro hK
        simp only [retK] at hK
        split at hK
        · rename_i s2 hs2
          split at hK
          · rename_i vs hvs
            refine shut_sound m a.defers s' s2 w' ha'.good ha'.marks hs2 ?_
            intro w2 g2
            obtain ⟨v', r1, r2⟩ := results_sound g2 ha'.slots h2 hvs
            exact ⟨v', r1, packV vs, v', s2, κ, rfl, hK, hle, r2, g2⟩
          · exact hK.elim
        · exact hK.elim
      cases e with
      | normal => exact fin hK
      | ret => exact fin hK
      | exit id => exact hK.elim
    · cases hc
  · cases hc
end

end Go.Vm
