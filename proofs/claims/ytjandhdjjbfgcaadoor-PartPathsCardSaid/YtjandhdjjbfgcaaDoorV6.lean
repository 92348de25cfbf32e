/- Equality of values; slices; append; maps. -/
import Derived.Test.YtjandhdjjbfgcaaDoorV5
set_option linter.unusedSectionVars false
set_option linter.unusedSimpArgs false
set_option linter.unusedVariables false
/- Equality of values; slices; append; maps. -/
namespace Go.Vm
open Go.RowKit (Below)
variable [Laid]
section
variable {P : Program} {ι : Emb} {s : St} {w : World} {base : Nat} {w0 : World} {ev : Operand → Option Value} {ρ : Operand → Value}

theorem equalArr_run {t e : TypeId} {n : Nat} {k : CK} (hu : P.underlying t = some (.array n e)) (hz : szOf P e = some 1) (hk : cellK P e = some k) {xs ys xs' ys' : Array Value} {r : Bool} (hx : Rels ι xs.toList xs'.toList) (hy : Rels ι ys.toList ys'.toList)
    (he : eqCells (List.replicate n k) xs.toList ys.toList = some r) (d : Nat) (w : World) : (Op.equalIn (d + 2) t (.agg xs') (.agg ys')).run P w = .ok r w := by
  have h := eqArr_run (P := P) hk d xs' ys' n 0 xs.toList ys.toList r (by simpa using hx) (by simpa using hy) he w
  rw [Op.equalIn]
  simp only [Sem.run_bind, run_underlying hu, Result.andThen_ok, sizeOf_run hz]
  simp only [Std.Legacy.Range.forIn_eq_forIn_range', Std.Legacy.Range.size, Nat.sub_zero, Nat.add_sub_cancel, Nat.div_one]
  rw [h]
  cases r <;> simp

theorem keyT_run {t : TypeId} {q : KT} (hq : keyT P t = some q) {x y x' y' : Value} {r : Bool} (hx : VRel ι x x') (hy : VRel ι y y') (he : eqV q x y = some r) (d : Nat) (w : World) :
    (Op.equalIn (d + 2) t x' y').run P w = .ok r w := by
  unfold keyT at hq
  split at hq
  · rename_i fs hu
    split at hq
    · rename_i hp
      cases hks : fieldKs P fs.toList 0 with
      | none => simp [hks] at hq
      | some ks =>
        simp [hks] at hq; subst hq
        cases hx <;> first | (simp [eqV] at he; done) | skip
        cases hy <;> first | (simp [eqV] at he; done) | skip
        rename_i xs xs' h1 h2 ys ys' h3 h4
        have hfo : P.fieldsOf t = fs := by simp [Program.fieldsOf, hu]
        rw [run_equalIn_struct w (d + 1) t xs' ys' (by rw [hfo]; exact hu) hp, hfo]
        exact eqFields_run fs.toList ks 0 xs.toList ys.toList xs' ys' r hks (by simpa using ⟨h1, fun i v v' e e' => h2 i v v' (by simpa using e) (by simpa using e')⟩) (by simpa using ⟨h3, fun i v v' e e' => h4 i v v' (by simpa using e) (by simpa using e')⟩) (by simpa [eqV] using he) d w
    · cases hq
  · rename_i n e hu
    split at hq
    · rename_i hz
      cases hk : cellK P e with
      | none => simp [hk] at hq
      | some k =>
        simp [hk] at hq; subst hq
        cases hx <;> first | (simp [eqV] at he; done) | skip
        cases hy <;> first | (simp [eqV] at he; done) | skip
        rename_i xs xs' h1 h2 ys ys' h3 h4
        exact equalArr_run hu hz hk ⟨by simpa using h1, fun i v v' e e' => h2 i v v' (by simpa using e) (by simpa using e')⟩ ⟨by simpa using h3, fun i v v' e e' => h4 i v v' (by simpa using e) (by simpa using e')⟩ (by simpa [eqV] using he) d w
    · cases hq
  · cases hk : cellK P t with
    | none => simp [hk] at hq
    | some k =>
      simp [hk] at hq; subst hq
      exact eqCell_run hk hx hy (by simpa [eqV] using he) (d + 1) w

theorem eqT_run {t : TypeId} {q : KT} (hq : eqT P t = some q) {x y x' y' : Value} {r : Bool} (hx : VRel ι x x') (hy : VRel ι y y') (he : eqV q x y = some r) (w : World) :
    (Op.equal t x' y').run P w = .ok r w := by
  unfold Op.equal
  unfold eqT at hq
  split at hq
  · rename_i hu; cases hq
    exact keyT_run (q := .one .bool) (by simp [keyT, cellK, hu]) hx hy he 9998 w
  · rename_i e hu; cases hq
    cases hx <;> first | (simp [eqV] at he; done) | skip
    · cases hy <;> first | (simp [eqV] at he; done) | skip
      · simp [eqV] at he; subst he
        show (Op.equalIn (9999 + 1) _ _ _).run P w = _
        rw [Op.equalIn]; simp [run_underlying hu]
      · simp [eqV] at he; subst he
        show (Op.equalIn (9999 + 1) _ _ _).run P w = _
        rw [Op.equalIn]; simp [run_underlying hu]
    · cases hy <;> first | (simp [eqV] at he; done) | skip
      simp [eqV] at he; subst he
      show (Op.equalIn (9999 + 1) _ _ _).run P w = _
      rw [Op.equalIn]; simp [run_underlying hu]
  · rename_i e hu; cases hq
    cases hx <;> first | (simp [eqV] at he; done) | skip
    · cases hy <;> first | (simp [eqV] at he; done) | skip
      · simp [eqV] at he; subst he
        show (Op.equalIn (9999 + 1) _ _ _).run P w = _
        rw [Op.equalIn]; simp [run_underlying hu]
      · simp [eqV] at he; subst he
        show (Op.equalIn (9999 + 1) _ _ _).run P w = _
        rw [Op.equalIn]; simp [run_underlying hu]
    · cases hy <;> first | (simp [eqV] at he; done) | skip
      simp [eqV] at he; subst he
      show (Op.equalIn (9999 + 1) _ _ _).run P w = _
      rw [Op.equalIn]; simp [run_underlying hu]
  · split at hq
    · exact keyT_run hq hx hy he 9998 w
    · cases hq
  · split at hq
    · exact keyT_run hq hx hy he 9998 w
    · cases hq
  · cases hq

theorem eqT_many {t : TypeId} {ks : List CK} (hq : eqT P t = some (.many ks)) : P.eqGuardType P.depth t = false := by
  unfold eqT at hq
  split at hq <;> first | (cases hq; done) | (split at hq <;> first | assumption | cases hq)

theorem eqV_agg {q : KT} {cs : Array Value} {y : Value} {r : Bool} (h : eqV q (.agg cs) y = some r) : ∃ ks, q = .many ks := by
  cases q with
  | many ks => exact ⟨ks, rfl⟩
  | one k => cases k <;> simp [eqV, eqCell] at h
  | ptr => simp [eqV] at h
  | slice => simp [eqV] at h

theorem eqGuard_run {t : TypeId} {q : KT} (hq : eqT P t = some q) (op : BinOp) (a b : Operand) {x y x' y' : Value} {r : Bool} (hx : VRel ι x x') (hy : VRel ι y y') (he : eqV q x y = some r) (w : World) :
    (eqGuard op t a b x' y').run P w = .ok () w := by
  unfold eqGuard
  cases hx with
  | nilIface => exfalso; cases q <;> simp [eqV] at he; rename_i k; cases k <;> simp [eqCell] at he
  | agg h1 h2 =>
    obtain ⟨ks, rfl⟩ := eqV_agg he
    have hg := eqT_many hq
    cases hy <;> cases op <;> simp [hg]
  | _ => cases op <;> simp

theorem binOp_eq (t : TypeId) {q : KT} {x y x' y' : Value} {r : Bool} (hx : VRel ι x x') (hy : VRel ι y y') (he : eqV q x y = some r) (hni : ∀ k a, x ≠ .int k a) (hns : ∀ a, x ≠ .string a) :
    binOp .eql t x' y' = (do Pure.pure (.bool (← Op.equal t x' y'))) ∧ binOp .neq t x' y' = (do Pure.pure (.bool (!(← Op.equal t x' y')))) := by
  cases hx <;> first | (exact absurd rfl (hni _ _)) | (exact absurd rfl (hns _)) | skip
  all_goals (cases hy <;> first | exact ⟨rfl, rfl⟩ | (exfalso; cases q <;> first | (simp [eqV] at he; done) | (rename_i k; cases k <;> simp [eqV, eqCell] at he)))

theorem eqT_kind {t : TypeId} {q : KT} (hq : eqT P t = some q) (h1 : ∀ k, P.underlying t ≠ some (.int k)) (h2 : P.underlying t ≠ some .string) : q ≠ .one .int ∧ q ≠ .one .str := by
  have hk : ∀ {q}, keyT P t = some q → (q = .one .int ∨ q = .one .str) → (∃ fs, P.underlying t = some (.struct fs)) ∨ (∃ n e, P.underlying t = some (.array n e)) → False := by
    intro q hq hor hu
    unfold keyT at hq
    rcases hu with ⟨fs, hu⟩ | ⟨n, e, hu⟩ <;> simp only [hu] at hq <;> split at hq <;> (try cases hq) <;>
      (simp only [Option.map_eq_some_iff] at hq; obtain ⟨_, _, rfl⟩ := hq; rcases hor with h | h <;> cases h)
  unfold eqT at hq
  split at hq
  · cases hq; exact ⟨by simp, by simp⟩
  · cases hq; exact ⟨by simp, by simp⟩
  · cases hq; exact ⟨by simp, by simp⟩
  · rename_i fs hu
    split at hq
    · exact ⟨fun e => hk hq (.inl e) (.inl ⟨_, hu⟩), fun e => hk hq (.inr e) (.inl ⟨_, hu⟩)⟩
    · cases hq
  · rename_i n e hu
    split at hq
    · exact ⟨fun e => hk hq (.inl e) (.inr ⟨_, _, hu⟩), fun e => hk hq (.inr e) (.inr ⟨_, _, hu⟩)⟩
    · cases hq
  · cases hq

theorem eqb_ok (g : Good ι s w base w0) (he : ∀ x v, ev x = some v → VRel ι v (ρ x)) {t : TypeId} {q : KT} (hq : eqT P t = some q) (h1 : ∀ k, P.underlying t ≠ some (.int k)) (h2 : P.underlying t ≠ some .string) (b : Bool) (x y : Operand) :
    VOk P ι w base w0 ((do Pure.pure (Next.value (← (do eqGuard (if b then .neq else .eql) t x y (ρ x) (ρ y); binOp (if b then .neq else .eql) t (ρ x) (ρ y)))) : Sem Next).run P w) (vx (.eqb q b x y) ev s) := by
  simp only [vx]
  cases e1 : ev x with
  | none => trivial
  | some u =>
  cases e2 : ev y with
  | none => trivial
  | some v =>
    have r1 := he x _ e1
    have r2 := he y _ e2
    cases hr : eqV q u v with
    | none => simp [hr, VOk]
    | some r =>
      simp only [hr]
      have hg := eqGuard_run hq (if b then .neq else .eql) x y r1 r2 hr w
      have hq' := eqT_run hq r1 r2 hr w
      obtain ⟨k1, k2⟩ := eqT_kind hq h1 h2
      have hni : ∀ k a, u ≠ .int k a := by
        rintro k a rfl
        cases q with
        | one c => cases c <;> first | exact k1 rfl | (simp [eqV, eqCell] at hr; done) | exact k2 rfl
        | _ => simp [eqV] at hr
      have hns : ∀ a, u ≠ .string a := by
        rintro a rfl
        cases q with
        | one c => cases c <;> first | exact k1 rfl | (simp [eqV, eqCell] at hr; done) | exact k2 rfl
        | _ => simp [eqV] at hr
      obtain ⟨b1, b2⟩ := binOp_eq t r1 r2 hr hni hns
      refine .pure g ?_ (.bool _)
      simp only [Sem.run_bind, hg, Result.andThen_ok]
      cases b
      · simp only [Bool.false_eq_true, if_false, b1, Sem.run_bind, hq', Result.andThen_ok, Sem.run_pure]
      · simp only [if_true, b2, Sem.run_bind, hq', Result.andThen_ok, Sem.run_pure]

/-! ### Slices -/
theorem optInt_ok (he : ∀ x v, ev x = some v → VRel ι v (ρ x)) {x : Option Operand} {d n : Nat} (h : optInt ev d x = some n) : (x = none ∧ n = d) ∨ ∃ y k, x = some y ∧ ρ y = .int k n := by
  cases x with
  | none => simp [optInt] at h; exact .inl ⟨rfl, h.symm⟩
  | some y =>
    simp only [optInt] at h
    split at h
    · rename_i k i hy
      split at h
      · rename_i h0
        cases h
        have := he y _ hy
        refine .inr ⟨y, k, rfl, ?_⟩
        generalize ρ y = z at *
        cases this
        rw [Int.toNat_of_nonneg h0]
      · cases h
    · cases h

theorem sliceBound_run {x : Value} {k : IntKind} {n y : Nat} {code : BoundsCode} (hx : x = .int k n) (h : n ≤ y) (w : World) : (Instr.sliceBound x y code).run P w = .ok n w := by
  subst hx
  simp only [Instr.sliceBound, asIntOf, Sem.run_bind, Sem.run_pure, Result.andThen_ok]
  rw [if_pos ⟨by omega, by omega⟩]
  simp

theorem sliceBounds_run (he : ∀ x v, ev x = some v → VRel ι v (ρ x)) {isS : Bool} {len cap l h m : Nat} {lo hi mx : Option Operand} (h1 : optInt ev 0 lo = some l) (h2 : optInt ev len hi = some h) (h3 : optInt ev cap mx = some m)
    (hlh : l ≤ h) (hhm : h ≤ m) (hmc : m ≤ cap) (hmx : mx.isSome = true → hi.isSome = true) (w : World) :
    (Instr.sliceBounds isS len cap (lo.map ρ) (hi.map ρ) (mx.map ρ)).run P w = .ok (l, h, m) w := by
  unfold Instr.sliceBounds
  rcases optInt_ok he h3 with ⟨rfl, rfl⟩ | ⟨ym, km, rfl, hym⟩
  · rcases optInt_ok he h2 with ⟨rfl, rfl⟩ | ⟨yh, kh, rfl, hyh⟩
    · rcases optInt_ok he h1 with ⟨rfl, rfl⟩ | ⟨yl, kl, rfl, hyl⟩
      · simp
      · simp [sliceBound_run hyl hlh]
    · rcases optInt_ok he h1 with ⟨rfl, rfl⟩ | ⟨yl, kl, rfl, hyl⟩
      · simp [sliceBound_run hyh hhm]
      · simp [sliceBound_run hyh hhm, sliceBound_run hyl hlh]
  · have := hmx rfl
    rcases optInt_ok he h2 with ⟨rfl, rfl⟩ | ⟨yh, kh, rfl, hyh⟩
    · cases this
    · rcases optInt_ok he h1 with ⟨rfl, rfl⟩ | ⟨yl, kl, rfl, hyl⟩
      · simp [sliceBound_run hym hmc, sliceBound_run hyh hhm]
      · simp [sliceBound_run hym hmc, sliceBound_run hyh hhm, sliceBound_run hyl hlh]

theorem sliceStr_ok (g : Good ι s w base w0) (he : ∀ x v, ev x = some v → VRel ι v (ρ x)) {t : TypeId} (hu : P.underlying t = some .string) (x : Operand) (lo hi : Option Operand) :
    VOk P ι w base w0 ((do Pure.pure (Next.value (← Instr.sliceAt t (ρ x) (lo.map ρ) (hi.map ρ) none)) : Sem Next).run P w) (vx (.sliceStr x lo hi) ev s) := by
  simp only [vx]
  split
  · rename_i u h
    have hr := he x _ h
    split
    · rename_i l h h1 h2
      split
      · rename_i hc
        generalize ρ x = y at *
        cases hr
        refine .pure g ?_ (.string _)
        have := sliceBounds_run (P := P) (isS := false) he h1 h2 (mx := none) (cap := u.size) rfl hc.1 hc.2 (Nat.le_refl _) (by simp) w
        simp only [Option.map_none] at this
        simp [Instr.sliceAt, Instr.slice, run_underlying hu, this]
      · trivial
    · trivial
  · trivial

theorem sliceArr_ok (g : Good ι s w base w0) (he : ∀ x v, ev x = some v → VRel ι v (ρ x)) {t e : TypeId} {n z : Nat} (hu : P.underlying t = some (.array n e)) (hz : szOf P e = some z) (h0 : 0 < n * z) (x : Operand) (lo hi mx : Option Operand) (hmx : mx.isSome = true → hi.isSome = true) :
    VOk P ι w base w0 ((do Pure.pure (Next.value (← Instr.sliceAt t (ρ x) (lo.map ρ) (hi.map ρ) (mx.map ρ))) : Sem Next).run P w) (vx (.sliceArr n z x lo hi mx) ev s) := by
  simp only [vx]
  split
  · rename_i b o h
    have hr := he x _ h
    split
    · rename_i l h m own cs h1 h2 h3 hb
      split
      · rename_i hc
        obtain ⟨c1, c2, c3, c4⟩ := hc
        generalize ρ x = y at *
        cases hr with
        | ptr hp =>
          rename_i p
          have hbd := sliceBounds_run (P := P) (isS := false) he h1 h2 h3 c1 c2 c3 hmx w
          obtain ⟨mc, ty, fz, f1, f2, f3, _⟩ := g.cellsAt hb hp
          have hZ : p.d + o + n * z ≤ p.Z := by
            obtain ⟨u, e1, _⟩ := f3 (o + n * z - 1) _ (List.getElem?_eq_getElem (by omega))
            have := (Array.getElem?_eq_some_iff.1 e1).1
            omega
          refine .pure g (v' := .slice (some ⟨p.B, if m = l then p.d + o else p.d + o + l * z, none⟩) (h - l) (m - l)) ?_ ?_
          · simp only [Instr.sliceAt, Sem.run_bind, run_underlying hu, Result.andThen_ok, Instr.sureAddr, Sem.run_pure, hbd, sizeOf_run hz]
            split <;> simp [Addr.add_none]
          · refine .slice hp (by omega) ?_ ?_ ?_
            · have hdiv : (2 * z + if h = m then 1 else 0) / 2 = z := by split <;> omega
              rw [hdiv]
              have hml : (m - l) * z ≤ n * z := Nat.mul_le_mul_right _ (by omega)
              split
              · omega
              · have : l * z + (m - l) * z = m * z := by rw [← Nat.add_mul]; congr 1; omega
                have : m * z ≤ n * z := Nat.mul_le_mul_right _ c3
                omega
            · intro hodd
              split at hodd
              · rename_i e; rw [e]
              · omega
            · intro hpos
              rw [if_neg (by omega)]; omega
      · trivial
    · trivial
  · trivial

theorem sliceSl_ok (g : Good ι s w base w0) (he : ∀ x v, ev x = some v → VRel ι v (ρ x)) {t e : TypeId} {z : Nat} (hu : P.underlying t = some (.slice e)) (hz : szOf P e = some z) (x : Operand) (lo hi mx : Option Operand) (hmx : mx.isSome = true → hi.isSome = true) :
    VOk P ι w base w0 ((do Pure.pure (Next.value (← Instr.sliceAt t (ρ x) (lo.map ρ) (hi.map ρ) (mx.map ρ))) : Sem Next).run P w) (vx (.sliceSl z x lo hi mx) ev s) := by
  simp only [vx]
  split
  · rename_i c h
    have hr := he x _ h
    split
    · rename_i h1 h2 h3
      generalize ρ x = y at *
      cases hr with
      | sliceNil c =>
        have hbd := sliceBounds_run (P := P) (isS := true) he h1 h2 h3 (Nat.le_refl _) (Nat.le_refl _) (Nat.le_refl _) hmx w
        refine .pure g (v' := .slice none 0 0) ?_ (.sliceNil _)
        simp only [Instr.sliceAt, Instr.slice, Sem.run_bind, run_underlying hu, Result.andThen_ok, hbd, sizeOf_run hz, Sem.run_pure]
        rfl
    · trivial
  · rename_i b o n c h
    have hr := he x _ h
    split
    · rename_i l h h1 h2
      split
      · rename_i hc
        obtain ⟨c1, c2, c3⟩ := hc
        generalize ρ x = y at *
        cases hr with
        | slice hp hn hZ hf ho =>
          rename_i C o' p
          have main : ∀ (m : Nat) (flag : Nat), optInt ev C mx = some m → h ≤ m → m ≤ C → flag ≤ 1 → (flag = 1 → m = h) →
              VOk P ι w base w0 ((do Pure.pure (Next.value (← Instr.sliceAt t (.slice (some ⟨p.B, o', none⟩) n C) (lo.map ρ) (hi.map ρ) (mx.map ρ))) : Sem Next).run P w) (.val (.slice (some ⟨b, o + l * z, none⟩) (h - l) (2 * z + flag)) s) := by
            intro m flag h3 hhm hmC hfl hfull
            have hbd := sliceBounds_run (P := P) (isS := true) he h1 h2 h3 c1 hhm hmC hmx w
            refine .pure g (v' := .slice (some ⟨p.B, if m = l then o' else o' + l * z, none⟩) (h - l) (m - l)) ?_ ?_
            · simp only [Instr.sliceAt, Instr.slice, Sem.run_bind, run_underlying hu, Result.andThen_ok, hbd, sizeOf_run hz, Sem.run_pure]
              split <;> simp [Addr.add_none]
            · refine .slice hp (by omega) ?_ ?_ ?_
              · have hdiv : (2 * z + flag) / 2 = z := by omega
                rw [hdiv]
                rw [c3] at hZ
                have h5 : m * z ≤ C * z := Nat.mul_le_mul_right _ hmC
                split
                · rename_i e; rw [e]; simp; omega
                · have : l * z + (m - l) * z = m * z := by rw [← Nat.add_mul]; congr 1; omega
                  omega
              · intro hodd
                have := hfull (by omega)
                omega
              · intro hpos
                have := ho (by omega)
                rw [if_neg (by omega)]; omega
          split
          · have h3 : optInt ev C (none : Option Operand) = some C := rfl
            by_cases e : h = n
            · subst e
              simp only [if_true]
              refine main C (c % 2) h3 hn (Nat.le_refl _) (by omega) (fun hfl => ?_)
              exact hf hfl
            · rw [if_neg e]
              exact main C 0 h3 (by omega) (Nat.le_refl _) (by omega) (fun hfl => by omega)
          · rename_i y
            split
            · rename_i m h3
              split
              · rename_i hm
                have h3' : optInt ev C (some y) = some m := h3
                by_cases e : h = m
                · rw [if_pos e]
                  exact main m 1 h3' (by omega) (by omega) (by omega) (fun _ => e.symm)
                · rw [if_neg e]
                  exact main m 0 h3' (by omega) (by omega) (by omega) (fun hfl => by omega)
              · trivial
            · trivial
      · trivial
    · trivial
  · trivial

/-! ### make -/
theorem mkSlice_ok (g : Good ι s w base w0) (he : ∀ x v, ev x = some v → VRel ι v (ρ x)) {t e : TypeId} {n : Nat} {z : List Value} {i : TypeInfo} (hu : P.underlying t = some (.slice e)) (hn : szOf P e = some n) (hz : zeroOf P e = some z) (hi : P.info? e = some i) (hb : i.bytes ≤ 65536) (h0 : 0 < n) (l c : Operand) :
    VOk P ι w base w0 ((do Pure.pure (Next.value (← Instr.makeSlice t (ρ l) (ρ c))) : Sem Next).run P w) (vx (.mkSlice n i.bytes z l c) ev s) := by
  simp only [vx]
  split
  · rename_i kl a kc b hl hcc
    have r1 := he l _ hl
    have r2 := he c _ hcc
    split
    · rename_i hcond
      obtain ⟨c1, c2, c3⟩ := hcond
      generalize ρ l = L at *
      generalize ρ c = C at *
      cases r1; cases r2
      obtain ⟨A, rfl⟩ := Int.eq_ofNat_of_zero_le c1
      obtain ⟨B, rfl⟩ := Int.eq_ofNat_of_zero_le (by omega : (0 : Int) ≤ b)
      obtain ⟨zv, hzr, hzt⟩ := zeroValue_run hz w
      obtain ⟨i', zv', f1, f2, f3, f4, hzc⟩ := zeroOf_spec hz
      rw [hi] at f1; cases f1
      have hin : i.size = n := by simp [szOf, hi] at hn; exact hn
      have hzs : zv.cells.size = n := by rw [← hin, ← f4, ← hzt]; simp
      have hw1 : IntKind.i64.wrap (A : Int) = A := by unfold IntKind.wrap; simp [IntKind.bits, IntKind.signed]; omega
      have hw2 : IntKind.i64.wrap (B : Int) = B := by unfold IntKind.wrap; simp [IntKind.bits, IntKind.signed]; omega
      have hbig : ¬ ((i.bytes : Int) * (B : Int) > 2 ^ 48) := by
        have h1 : i.bytes * B ≤ 65536 * 1048576 := Nat.mul_le_mul hb (by omega)
        have h2 : ((i.bytes * B : Nat) : Int) ≤ ((65536 * 1048576 : Nat) : Int) := Int.ofNat_le.2 h1
        rw [Int.natCast_mul] at h2
        omega
      have hrow : ((List.replicate (B : Int).toNat z).flatten) = ((Array.range (B * zv.cells.size)).map (zv.cells[· % zv.cells.size]!)).toList := by
        rw [zeroCells_toList _ _ (by omega), hzt]; simp
      obtain ⟨κ, k1, k2, k3⟩ := g.newRow (vs := (List.replicate (B : Int).toNat z).flatten) (mc := (Array.range (B * zv.cells.size)).map (zv.cells[· % zv.cells.size]!)) e (Z := B * zv.cells.size)
        (by rw [← hrow, List.take_length]; exact Rels.const (all_flatten_replicate hzc _)) (by simp)
      have hti : (typeInfo e).run P w = .ok i w := by simp [typeInfo, hi]
      refine ⟨.slice (some ⟨w.heap.size, 0, none⟩) A B, _, κ, ?_, k1, ?_, k3⟩
      · simp only [Instr.makeSlice, Sem.run_bind, run_underlying hu, Result.andThen_ok, asInt, asIntOf, Sem.run_pure, hti, hw1, hw2, Int.toNat_natCast]
        rw [if_neg (by simp; omega)]
        simp only [Sem.run_bind, run_askRoom, Result.andThen_ok, sizeOf_run hn]
        rw [hzs]
        by_cases h0' : B * n = 0
        · rw [if_pos h0']
          have hz0 : ∀ f : Nat → Value, (Array.range 0).map f = #[] := fun f => by apply Array.ext'; simp
          simp only [h0', Go.newRow, Sem.run_bind, Sem.run_pure, Result.andThen_ok, run_newObj_alloc, hz0]
        · rw [if_neg h0']
          simp only [Sem.run_bind, hzr, Result.andThen_ok, Sem.run_pure, hzs, Go.newRow, run_newObj_alloc]
      · refine .slice (o' := 0) k2 (by omega) ?_ ?_ (fun _ => rfl)
        · have hdiv : (2 * n + if (A : Int) = (B : Int) then 1 else 0) / 2 = n := by split <;> omega
          rw [hdiv, hzs]; simp
        · intro hodd
          split at hodd
          · rename_i e; omega
          · omega
    · trivial
  · trivial

end
end Go.Vm
