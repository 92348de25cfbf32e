/- append. -/
import Derived.Test.YtjandhdjjbfgcaaDoorV6
set_option linter.unusedSectionVars false
set_option linter.unusedSimpArgs false
set_option linter.unusedVariables false
/- append. -/
namespace Go.Vm
open Go.RowKit (Below)
variable [Laid]
section
variable {P : Program} {ι : Emb} {s : St} {w : World} {base : Nat} {w0 : World} {ev : Operand → Option Value} {ρ : Operand → Value}

/-- A new block of ours over a block of the model's that none of ours speaks of any more. -/
theorem Good.alias (g : Good ι s w base w0) {q : Pl} {o : Blk} {ob : Obj} (hB : w.heap[q.B]? = some ob) (hbase : base ≤ q.B) (hown : o.own = true)
    (hno : ∀ b o p, s.get b = some o → o.live = true → ι b = some p → p.B ≠ q.B) (h : BRel (fun b => if b = s.next then some q else ι b) o ob q) :
    ∃ κ : Emb, ι.le κ ∧ κ s.next = some q ∧ Good κ (s.push o) w base w0 := by
  have hle : ι.le (fun b => if b = s.next then some q else ι b) := fun b p e => by
    have hb : b ≠ s.next := fun hb => by have := (g.fresh b (by omega)).1; rw [this] at e; cases e
    simp [hb, e]
  refine ⟨_, hle, by simp, ⟨g.below, g.le, fun b hb => ?_, fun b o' hb hl => ?_, ?_, fun b p e => ?_, g.laid⟩⟩
  · simp at hb
    exact ⟨by rw [if_neg (by omega)]; exact (g.fresh b (by omega)).1, by rw [St.get_push_ne _ _ (by omega)]; exact (g.fresh b (by omega)).2⟩
  · rw [St.get_push] at hb
    by_cases hbn : b = s.next
    · rw [if_pos hbn] at hb; cases hb
      exact ⟨q, ob, by simp [hbn], hB, h, fun _ => hbase⟩
    · rw [if_neg hbn] at hb
      obtain ⟨p, ob', h1, h2, h3, h4⟩ := g.blk b o' hb hl
      exact ⟨p, ob', hle _ _ h1, h2, h3.mono hle, h4⟩
  · intro b b' o1 o2 p p' hb hb' ho1 ho2 hne hp hp'
    rw [St.get_push] at hb hb'
    by_cases h1 : b = s.next <;> by_cases h2 : b' = s.next
    · omega
    · rw [if_pos h1] at hp; rw [if_neg h2] at hp' hb'; cases hp
      exact Ne.symm (hno b' o2 p' hb' ho2 hp')
    · rw [if_neg h1] at hp hb; rw [if_pos h2] at hp'; cases hp'
      exact hno b o1 p hb (Blk.live_of_own ho1) hp
    · rw [if_neg h1] at hb hp; rw [if_neg h2] at hb' hp'
      exact g.inj b b' o1 o2 p p' hb hb' ho1 ho2 hne hp hp'
  · by_cases hbn : b = s.next
    · simp only [hbn, if_true] at e; cases e; exact (Array.getElem?_eq_some_iff.1 hB).1
    · simp only [hbn, if_false] at e; exact g.dom b p e

theorem CRel_append {cs ds : List Value} {mc : Array Value} {d : Nat} (h : CRel ι cs mc d) (h' : CRel ι ds mc (d + cs.length)) : CRel ι (cs ++ ds) mc d := by
  intro i v e
  rcases Nat.lt_or_ge i cs.length with hi | hi
  · rw [List.getElem?_append_left hi] at e; exact h i v e
  · rw [List.getElem?_append_right hi] at e
    obtain ⟨v', e1, e2⟩ := h' _ v e
    exact ⟨v', by rw [← e1]; congr 1; omega, e2⟩

theorem putA_get (vs : List Value) : ∀ (mc : Array Value) (o i : Nat), o + vs.length ≤ mc.size → (putA mc o vs)[i]? = if o ≤ i ∧ i < o + vs.length then vs[i - o]? else mc[i]? := by
  induction vs with
  | nil => intro mc o i _; simp [putA]; omega
  | cons v vs ih =>
    intro mc o i h
    simp only [List.length_cons] at h
    simp only [putA]
    rw [ih _ _ _ (by simp; omega)]
    by_cases h1 : o + 1 ≤ i ∧ i < o + 1 + vs.length
    · rw [if_pos h1, if_pos (by simp; omega)]
      rw [show i - o = (i - (o + 1)) + 1 from by omega]; simp
    · rw [if_neg h1, Array.getElem?_setIfInBounds]
      by_cases h2 : o = i
      · subst h2
        rw [if_pos rfl, if_pos (by omega), if_pos (by simp)]; simp
      · rw [if_neg h2, if_neg (by simp; omega)]

/-- append in place. -/
theorem Good.inPlace (g : Good ι s w base w0) {b n z o o' C : Nat} {cs0 old new new' : List Value} {p : Pl} (hb : s.get b = some (.cells true cs0)) (hp : ι b = some p) (hold : Vm.loadN s b o (n * z) = some old) (hnew : Rels ι new new') (hone : ∀ v ∈ new', v.oneCell' = true)
    (ho : 0 < n → o' = p.d + o) (hZ : o' + C * z ≤ p.Z) {k : Nat} (hk : new.length = k * z) (hC : n + k ≤ C) :
    ∃ w' κ, (storeCells ⟨p.B, o' + n * z, none⟩ new').run P w = .ok () w' ∧ ι.le κ ∧ κ s.next = some ⟨p.B, o', p.Z⟩ ∧ Good κ ((s.set b .dead).push (.cells true (old ++ new))) w' base w0 := by
  obtain ⟨mc, ty, fz, h2, h5, h6, h7⟩ := g.cellsAt hb hp
  obtain ⟨rfl, hbase⟩ := h7 rfl
  have hlen : old.length = n * z := (g.loadN hold hp).1
  have hnl : new'.length = k * z := by rw [← hnew.1, hk]
  have hfit : o' + n * z + new'.length ≤ mc.size := by
    have h1 : (n + k) * z ≤ C * z := Nat.mul_le_mul_right _ hC
    rw [Nat.add_mul] at h1
    rw [hnl, h5]; omega
  have hrun := run_storeCells (P := P) (B := p.B) (o := o' + n * z) (ty := ty) new' 0 mc w h2 (fun _ => by simpa using hfit) hone
  have hB := (Array.getElem?_eq_some_iff.1 h2).1
  have g2 : Good ι (s.set b .dead) (w.putObj p.B (.cells (putA mc (o' + n * z + 0) new') ty (0, 0))) base w0 :=
    g.change hb (o' := .dead) rfl hp (.inr rfl) (World.putObj_heap_same hB) (fun k hk => World.putObj_heap_other hk) (by simp) rfl rfl rfl trivial
  have hcr : CRel ι old mc o' ∨ n * z = 0 := by
    rcases Nat.eq_zero_or_pos (n * z) with h0 | h0
    · exact .inr h0
    · refine .inl ?_
      have hn : 0 < n := Nat.pos_of_ne_zero (fun e => by rw [e] at h0; simp at h0)
      rw [ho hn]
      unfold Vm.loadN at hold
      simp only [hb] at hold
      split at hold
      · simp only [Option.some.injEq] at hold
        subst hold
        intro i v e
        have hi : i < n * z := by have := (List.getElem?_eq_some_iff.1 e).1; simp at this; omega
        rw [List.getElem?_take_of_lt hi, List.getElem?_drop] at e
        obtain ⟨v', e1, e2⟩ := h6 _ v e
        exact ⟨v', by rw [← e1]; congr 1; omega, e2⟩
      · cases hold
  obtain ⟨κ, k1, k2, k3⟩ := g2.alias (q := ⟨p.B, o', p.Z⟩) (o := .cells true (old ++ new)) (World.putObj_heap_same hB) hbase rfl
    (fun b' o1 p1 hb' hl hp1 => by
      have hne : b' ≠ b := fun e => by subst e; rw [St.get_set_same] at hb'; cases hb'; cases hl
      rw [St.get_set_ne _ _ hne] at hb'
      exact Ne.symm (g.inj b b' _ o1 p p1 hb hb' rfl hl (Ne.symm hne) hp hp1))
    (by
      refine ⟨_, ty, (0, 0), rfl, by simp [h5], ?_, fun _ => rfl⟩
      have hle : ι.le (fun b' => if b' = (s.set b .dead).next then some ⟨p.B, o', p.Z⟩ else ι b') := fun b' p' e => by
        have hb' : b' ≠ s.next := fun hb' => by have := (g.fresh b' (by omega)).1; rw [this] at e; cases e
        simp [hb', e]
      refine CRel.mono hle ?_
      intro i v e
      rcases Nat.lt_or_ge i old.length with hi | hi
      · rw [List.getElem?_append_left hi] at e
        rcases hcr with hcr | h0
        · obtain ⟨v', e1, e2⟩ := hcr i v e
          refine ⟨v', ?_, e2⟩
          simp only [Nat.add_zero]
          rw [putA_get _ _ _ _ hfit, if_neg (by omega)]; exact e1
        · omega
      · rw [List.getElem?_append_right hi] at e
        obtain ⟨v', e1, e2⟩ := hnew.get e
        refine ⟨v', ?_, e2⟩
        simp only [Nat.add_zero]
        have := (List.getElem?_eq_some_iff.1 e1).1
        rw [putA_get _ _ _ _ hfit, if_pos (by omega), ← e1]; congr 1; omega)
  exact ⟨_, κ, hrun, k1, k2, k3⟩

theorem nextslicecap_le (need c : Nat) (h : c < need) : Builtin.nextslicecap need c ≤ 3 * need + 1024 := by
  have step : ∀ (r x : Nat), Builtin.growBy need r x ≤ max x (need + (need + 768) / 4) := by
    intro r
    induction r with
    | zero => intro x; simp [Builtin.growBy]; omega
    | succ r ih =>
      intro x
      simp only [Builtin.growBy]
      split
      · omega
      · have := ih (x + (x + 768) / 4); omega
  unfold Builtin.nextslicecap
  split
  · omega
  · split
    · omega
    · have := step 4 c; omega

theorem info_bytes_run {e : TypeId} {i : TypeInfo} (hi : P.info? e = some i) (w : World) : (typeInfo e).run P w = .ok i w := by simp [typeInfo, hi]

/-- There is room. -/
theorem append_room_run {st xt ty e e' : TypeId} {z : Nat} (hu : P.underlying st = some (.slice e)) (hx : P.underlying xt = some (.slice e')) (hz : szOf P e = some z)
    {bs : Option Addr} {n C k : Nat} {x : Value} (hk : (Builtin.lenOf x).run P w = .ok k w) {new : Array Value} (hnew : (Builtin.firstCells z k x).run P w = .ok new w) (hC : n + k ≤ C) :
    (Builtin.append_ #[st, xt] ty #[.slice bs n C, x]).run P w = match bs with
      | some a => ((storeCells (a.add (n * z)) new.toList).run P w).andThen fun _ w' => .ok (.slice bs (n + k) C) w'
      | none => .ok (.slice bs (n + k) C) w := by
  unfold Builtin.append_
  simp only [List.getElem?_toArray, List.getElem?_cons_zero, List.getElem?_cons_succ, Sem.run_bind, run_underlying hu, run_underlying hx, Result.andThen_ok, sizeOf_run hz, Sem.run_pure, hk]
  simp only [Bool.false_eq_true, if_false, Bool.not_false, if_true, Sem.run_pure, Sem.run_bind, hk, Result.andThen_ok]
  rw [if_pos hC]
  simp only [Sem.run_bind, hnew, Result.andThen_ok]
  cases bs with
  | none => simp
  | some a => simp

/-- There is none. -/
theorem append_grow_run {st xt ty e e' : TypeId} {z : Nat} {zs : List Value} {i : TypeInfo} (hu : P.underlying st = some (.slice e)) (hx : P.underlying xt = some (.slice e')) (hz : szOf P e = some z) (hzs : zeroOf P e = some zs) (hi : P.info? e = some i) (hb : i.bytes ≤ 65536) (hb0 : 0 < i.bytes) (h1 : 0 < z)
    {bs : Option Addr} {n C k : Nat} {x : Value} (hk : (Builtin.lenOf x).run P w = .ok k w) {old new : Array Value} (hold : (Builtin.firstCells z n (.slice bs n C)).run P w.drew = .ok old w.drew) (hnew : (Builtin.firstCells z k x).run P w.drew = .ok new w.drew) (hC : C < n + k) (hle : n + k ≤ 1048576) :
    ∃ (cap : Nat) (rest : Array Value), n + k ≤ cap ∧ rest.size = (cap - (n + k)) * z ∧ (Builtin.append_ #[st, xt] ty #[.slice bs n C, x]).run P w = .ok (.slice (some ⟨w.heap.size, 0, none⟩) (n + k) cap) (w.drew.alloc (.cells (old ++ new ++ rest) e)) := by
  obtain ⟨zv, hzr, hzt⟩ := zeroValue_run hzs w.drew
  obtain ⟨i', zv', f1, f2, f3, f4, hzc⟩ := zeroOf_spec hzs
  rw [hi] at f1; cases f1
  have hin : i.size = z := by simp [szOf, hi] at hz; exact hz
  have hzvs : zv.cells.size = z := by rw [← hin, ← f4, ← hzt]; simp
  refine ⟨Question.cut (.appendCap (n + k) C e) (w.tape w.drawn (.appendCap (n + k) C e)), Builtin.zeroCells zv.cells (Question.cut (.appendCap (n + k) C e) (w.tape w.drawn (.appendCap (n + k) C e)) - (n + k)), ?_, ?_, ?_⟩
  · simp [Question.cut]
  · simp [Builtin.zeroCells, hzvs]
  · unfold Builtin.append_
    simp only [List.getElem?_toArray, List.getElem?_cons_zero, List.getElem?_cons_succ, Sem.run_bind, run_underlying hu, run_underlying hx, Result.andThen_ok, sizeOf_run hz, Sem.run_pure, hk]
    simp only [Bool.false_eq_true, if_false, Bool.not_false, if_true, Sem.run_pure, Sem.run_bind, hk, Result.andThen_ok]
    rw [if_neg (by omega)]
    have hcap := nextslicecap_le (n + k) C hC
    have hmul : Builtin.nextslicecap (n + k) C * i.bytes ≤ (3 * 1048576 + 1024) * 65536 := Nat.mul_le_mul (by omega) hb
    simp only [Sem.run_bind, info_bytes_run hi, Result.andThen_ok]
    rw [if_neg (by rintro ⟨_, h⟩; simp at h; omega)]
    simp only [Sem.run_bind, info_bytes_run hi, Result.andThen_ok]
    rw [if_neg (by omega)]
    simp only [Sem.run_bind, run_choose_drew, Question.forced, Bool.false_eq_true, if_false, Result.andThen_ok, info_bytes_run hi, run_askRoom, hold, hnew, hzr, Go.newRow, run_newObj_alloc, Sem.run_pure]
    rfl


theorem loadCells_drew {B o n : Nat} {vs : List Value} (hn : vs.length = n) (h : ∀ j v, vs[j]? = some v → w.cell? ⟨B, o + j, none⟩ = some v) :
    (loadCells ⟨B, o, none⟩ n).run P w.drew = .ok vs.toArray w.drew := run_loadCells (w := w.drew) hn h

theorem appendV_ok (g : Good ι s w base w0) {st xt ty e e' : TypeId} {z : Nat} {zs : List Value} {i : TypeInfo} (hu : P.underlying st = some (.slice e)) (hx : P.underlying xt = some (.slice e')) (hz : szOf P e = some z) (hzs : zeroOf P e = some zs) (hi : P.info? e = some i) (hb : i.bytes ≤ 65536) (h1 : 0 < z) (hb0 : 0 < i.bytes)
    {b o n c C o' : Nat} {p : Pl} (hp : ι b = some p) (hn : n ≤ C) (hZ : o' + C * (c / 2) ≤ p.Z) (hf : c % 2 = 1 → C = n) (ho : 0 < n → o' = p.d + o) {x : Value} {k : Nat} {new new' : List Value}
    (hk : (Builtin.lenOf x).run P w = .ok k w) (hnew : (Builtin.firstCells z k x).run P w = .ok new'.toArray w) (hnew2 : (Builtin.firstCells z k x).run P w.drew = .ok new'.toArray w.drew) (hr : Rels ι new new') (hlen : new.length = k * z) :
    VOk P ι w base w0 ((do Pure.pure (Next.value (← Builtin.append_ #[st, xt] ty #[.slice (some ⟨p.B, o', none⟩) n C, x])) : Sem Next).run P w) (appendV z s n b o c new k) := by
  unfold appendV
  split
  · rename_i hk0
    subst hk0
    have hnil : new' = [] := List.length_eq_zero_iff.1 (by rw [← hr.1, hlen, Nat.zero_mul])
    subst hnil
    have := append_room_run (P := P) (w := w) (ty := ty) hu hx hz (bs := some ⟨p.B, o', none⟩) (n := n) (C := C) hk hnew (by omega)
    refine .pure g (v' := .slice (some ⟨p.B, o', none⟩) n C) ?_ (.slice hp hn hZ hf ho)
    rw [Sem.run_bind, this]
    simp [storeCells]
  · rename_i hk0
    split
    · rename_i hc
      obtain ⟨c1, c2, c3⟩ := hc
      split
      · trivial
      · rename_i old hold
        obtain ⟨hol, old', e1, e2⟩ := g.loadN hold hp
        -- the old cells, read
        have holdrun : ∀ (hC : C < n + k), (Builtin.firstCells z n (.slice (some ⟨p.B, o', none⟩) n C)).run P w.drew = .ok old'.toArray w.drew := fun _ => by
          show (loadCells ⟨p.B, o', none⟩ (n * z)).run P w.drew = _
          rcases Nat.eq_zero_or_pos n with h0 | h0
          · subst h0
            have : old' = [] := List.length_eq_zero_iff.1 (by rw [← e1.1, hol, Nat.zero_mul])
            subst this
            exact loadCells_drew (by simp) (fun j v e => by simp at e)
          · rw [ho h0]
            exact loadCells_drew (by rw [← e1.1, hol]) (fun j v e => by rw [← e2 j v e])
        have hgrow : C < n + k → ∀ s2 : St, Good ι s2 w base w0 → s2.next = s.next → VOk P ι w base w0 ((do Pure.pure (Next.value (← Builtin.append_ #[st, xt] ty #[.slice (some ⟨p.B, o', none⟩) n C, x])) : Sem Next).run P w)
            (.val (.slice (some ⟨s.next, 0, none⟩) (n + k) (2 * z)) (s2.push (.cells true (old ++ new)))) := by
          intro hC s2 g2 hnx
          obtain ⟨cap, rest, f1, f2, f3⟩ := append_grow_run (P := P) (w := w) (ty := ty) hu hx hz hzs hi hb hb0 h1 (bs := some ⟨p.B, o', none⟩) (n := n) (C := C) hk (holdrun hC) hnew2 hC c1
          obtain ⟨κ, k1, k2, k3⟩ := g2.drew.newRow (vs := old ++ new) (mc := old'.toArray ++ new'.toArray ++ rest) e (Z := (old'.toArray ++ new'.toArray ++ rest).size)
            (by
              have : ((old'.toArray ++ new'.toArray ++ rest).toList.take (old ++ new).length) = old' ++ new' := by
                rw [List.length_append, e1.1, hr.1, ← List.length_append]; simp only [Array.toList_append, List.toList_toArray]; rw [List.take_left]
              rw [this]; exact Rels.append e1 hr) rfl
          rw [hnx] at k2
          refine ⟨.slice (some ⟨w.heap.size, 0, none⟩) (n + k) cap, _, κ, ?_, k1, ?_, k3⟩
          · rw [Sem.run_bind, f3]; rfl
          · refine .slice (o' := 0) k2 f1 ?_ (fun h => by omega) (fun _ => rfl)
            have hdiv : 2 * z / 2 = z := by omega
            rw [hdiv]
            simp only [Array.size_append, List.size_toArray, f2]
            rw [← e1.1, ← hr.1, hol, hlen, ← Nat.add_mul, ← Nat.add_mul]
            rw [show n + k + (cap - (n + k)) = cap from by omega]; simp
        split
        · rename_i hodd
          exact hgrow (by have := hf hodd; omega) s g rfl
        · split
          · rename_i cs0 hb0'
            by_cases hroom : n + k ≤ C
            · obtain ⟨w', κ, r1, r2, r3, r4⟩ := g.inPlace (P := P) (C := C) (k := k) hb0' hp hold hr (hr.oneCells c3) ho (by rw [← c2]; exact hZ) hlen hroom
              have := append_room_run (P := P) (w := w) (ty := ty) hu hx hz (bs := some ⟨p.B, o', none⟩) (n := n) (C := C) hk hnew hroom
              refine ⟨.slice (some ⟨p.B, o', none⟩) (n + k) C, w', κ, ?_, r2, ?_, r4⟩
              · rw [Sem.run_bind, this]
                simp only [Addr.add_none, List.toList_toArray] at r1 ⊢
                rw [r1]; rfl
              · have := VRel.slice (o := 0) (o' := o') (n := n + k) (C := C) (c := 2 * z) r3 hroom (by rw [show 2 * z / 2 = z from by omega, ← c2]; exact hZ) (fun h => by omega) (fun _ => rfl)
                simpa using this
            · -- the old block is given up
              have gd : Good ι (s.set b .dead) w base w0 := by
                obtain ⟨p1, ob1, q1, q2, q3, q4⟩ := g.blk b _ hb0' rfl
                rw [hp] at q1; cases q1
                exact g.change hb0' (o' := .dead) rfl hp (.inr rfl) q2 (fun _ _ => rfl) rfl rfl rfl rfl trivial
              exact hgrow (by omega) _ gd rfl
          · trivial
    · trivial

theorem append_ok (g : Good ι s w base w0) (he : ∀ x v, ev x = some v → VRel ι v (ρ x)) {st xt ty e e' : TypeId} {z : Nat} {zs : List Value} {i : TypeInfo} (hu : P.underlying st = some (.slice e)) (hx : P.underlying xt = some (.slice e')) (hz : szOf P e = some z) (hzs : zeroOf P e = some zs) (hi : P.info? e = some i) (hb : i.bytes ≤ 65536) (h1 : 0 < z) (hb0 : 0 < i.bytes) (sl x : Operand) :
    VOk P ι w base w0 ((do Pure.pure (Next.value (← Builtin.append_ #[st, xt] ty #[ρ sl, ρ x])) : Sem Next).run P w) (vx (.append z sl x) ev s) := by
  simp only [vx]
  split
  · rename_i c c' h2 h3
    have r1 := he _ _ h2
    have r2 := he _ _ h3
    generalize ρ sl = S at *
    generalize ρ x = X at *
    cases r1; cases r2
    have := append_room_run (P := P) (w := w) (ty := ty) hu hx hz (bs := none) (n := 0) (C := 0) (x := .slice none 0 0) (k := 0) (by simp [Builtin.lenOf]) (new := #[]) (by simp [Builtin.firstCells]) (by omega)
    exact .pure g (by rw [Sem.run_bind, this]; rfl) (.sliceNil c)
  · rename_i c b o k cx h2 h3
    have r1 := he _ _ h2
    have r2 := he _ _ h3
    generalize ρ sl = S at *
    generalize ρ x = X at *
    cases r1
    cases r2 with
    | slice hp hn hZ hf ho =>
      rename_i C o' p
      have hk : (Builtin.lenOf (.slice (some ⟨p.B, o', none⟩) k C)).run P w = .ok k w := by simp [Builtin.lenOf]
      split
      · rename_i hk0
        subst hk0
        have := append_room_run (P := P) (w := w) (ty := ty) hu hx hz (bs := none) (n := 0) (C := 0) hk (new := #[]) (by simp [Builtin.firstCells, loadCells, loadCellsFrom]) (by omega)
        exact .pure g (by rw [Sem.run_bind, this]; rfl) (.sliceNil c)
      · rename_i hk0
        split
        · rename_i hc
          split
          · rename_i new hnew
            obtain ⟨hl, new', e1, e2⟩ := g.loadN hnew hp
            have hrun : (Builtin.firstCells z k (.slice (some ⟨p.B, o', none⟩) k C)).run P w.drew = .ok new'.toArray w.drew := by
              show (loadCells ⟨p.B, o', none⟩ (k * z)).run P w.drew = _
              rw [ho (by omega)]
              exact loadCells_drew (by rw [← e1.1, hl]) (fun j v e => by rw [← e2 j v e])
            obtain ⟨cap, rest, f1, f2, f3⟩ := append_grow_run (P := P) (w := w) (ty := ty) hu hx hz hzs hi hb hb0 h1 (bs := none) (n := 0) (C := 0) hk (old := #[]) (by simp [Builtin.firstCells]) hrun (by omega) (by omega)
            obtain ⟨κ, k1, k2, k3⟩ := g.drew.newRow (vs := new) (mc := #[] ++ new'.toArray ++ rest) e (Z := (#[] ++ new'.toArray ++ rest).size)
              (by
                have : ((#[] ++ new'.toArray ++ rest).toList.take new.length) = new' := by rw [e1.1]; simp
                rw [this]; exact e1) rfl
            refine ⟨.slice (some ⟨w.heap.size, 0, none⟩) k cap, _, κ, ?_, k1, ?_, k3⟩
            · rw [Sem.run_bind, f3]; simp
            · refine .slice (o' := 0) k2 (by omega) ?_ (fun h => by omega) (fun _ => rfl)
              rw [show 2 * z / 2 = z from by omega]
              simp only [Array.size_append, List.size_toArray, f2, Array.size_empty]
              rw [← e1.1, hl, Nat.zero_add, Nat.zero_add]
              have : k * z + (cap - k) * z = cap * z := by rw [← Nat.add_mul]; congr 1; omega
              simp; omega
          · trivial
        · trivial
  · rename_i b o n c c' h2 h3
    have r1 := he _ _ h2
    have r2 := he _ _ h3
    generalize ρ sl = S at *
    generalize ρ x = X at *
    cases r2
    cases r1 with
    | slice hp hn hZ hf ho =>
      exact appendV_ok g hu hx hz hzs hi hb h1 hb0 hp hn hZ hf ho (by simp [Builtin.lenOf]) (new' := []) (by simp [Builtin.firstCells]) (by simp [Builtin.firstCells]) (Rels.nil _) (by simp)
  · rename_i b o n c bx ox k cx h2 h3
    have r1 := he _ _ h2
    have r2 := he _ _ h3
    split
    · split
      · rename_i new hnew
        generalize ρ sl = S at *
        generalize ρ x = X at *
        cases r2 with
        | slice hpx hnx hZx hfx hox =>
          rename_i Cx ox' px
          obtain ⟨hl, new', e1, e2⟩ := g.loadN hnew hpx
          have hrun : ∀ w2 : World, (∀ a, w2.cell? a = w.cell? a) → (Builtin.firstCells z k (.slice (some ⟨px.B, ox', none⟩) k Cx)).run P w2 = .ok new'.toArray w2 := by
            intro w2 hw
            show (loadCells ⟨px.B, ox', none⟩ (k * z)).run P w2 = _
            rcases Nat.eq_zero_or_pos k with h0 | h0
            · subst h0
              have : new' = [] := List.length_eq_zero_iff.1 (by rw [← e1.1, hl, Nat.zero_mul])
              subst this
              exact run_loadCells (by simp) (fun j v e => by simp at e)
            · rw [hox h0]
              exact run_loadCells (by rw [← e1.1, hl]) (fun j v e => by rw [hw, ← e2 j v e])
          cases r1 with
          | slice hp hn hZ hf ho =>
            exact appendV_ok g hu hx hz hzs hi hb h1 hb0 hp hn hZ hf ho (by simp [Builtin.lenOf]) (hrun w (fun _ => rfl)) (hrun w.drew (fun _ => rfl)) e1 hl
      · trivial
    · trivial
  · trivial

end
end Go.Vm
