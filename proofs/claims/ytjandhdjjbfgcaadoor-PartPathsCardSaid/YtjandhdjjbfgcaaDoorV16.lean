/- The same operations, laid so that the kernel evaluates them fast. -/
import Derived.Test.YtjandhdjjbfgcaaDoorV15
set_option linter.unusedSectionVars false
set_option linter.unusedSimpArgs false
set_option linter.unusedVariables false
/- The same operations, laid so that the kernel evaluates them fast. -/
namespace Go.Vm

noncomputable def Tr.getR {α : Type} (t : Tr α) : Nat → Option α :=
  Tr.rec (motive := fun _ => Nat → Option α) (fun _ => none) (fun v _ _ ihl ihr n => Nat.rec (motive := fun _ => Option α) v (fun m _ => Bool.rec (motive := fun _ => Option α) (ihr (Nat.div m 2)) (ihl (Nat.div m 2)) (Nat.beq (Nat.mod m 2) 0)) n) t
noncomputable def Tr.setR {α : Type} (t : Tr α) : Nat → α → Tr α :=
  Tr.rec (motive := fun _ => Nat → α → Tr α) (fun n o => Tr.set .nil n o) (fun v l r ihl ihr n o => Nat.rec (motive := fun _ => Tr α) (Tr.node (some o) l r) (fun m _ => Bool.rec (motive := fun _ => Tr α) (Tr.node v l (ihr (Nat.div m 2) o)) (Tr.node v (ihl (Nat.div m 2) o) r) (Nat.beq (Nat.mod m 2) 0)) n) t

theorem Tr.getR_eq {α : Type} (t : Tr α) : ∀ n, t.getR n = t.get n := by
  induction t with
  | nil => intro n; cases n <;> rfl
  | node v l r ihl ihr =>
    intro n
    cases n with
    | zero => rfl
    | succ m =>
      show Bool.rec (motive := fun _ => Option α) (r.getR (m / 2)) (l.getR (m / 2)) (Nat.beq (m % 2) 0) = Tr.get (.node v l r) (m + 1)
      rw [Tr.get, ihl, ihr]
      by_cases h : m % 2 = 0
      · rw [if_pos h, h]; rfl
      · rw [if_neg h]
        have : Nat.beq (m % 2) 0 = false := by cases hb : Nat.beq (m % 2) 0 with | false => rfl | true => exact (h (Nat.eq_of_beq_eq_true hb)).elim
        rw [this]

theorem setF_fuel {α : Type} (o : α) : ∀ (f g : Nat) (t : Tr α) (n : Nat), n < f → n < g → Tr.setF f t n o = Tr.setF g t n o
  | 0, _, _, _, h, _ => absurd h (Nat.not_lt_zero _)
  | _ + 1, 0, _, _, _, h => absurd h (Nat.not_lt_zero _)
  | f + 1, g + 1, .nil, 0, _, _ => rfl
  | f + 1, g + 1, .nil, n + 1, h, h' => by simp only [Tr.setF]; rw [setF_fuel o f g .nil (n / 2) (by omega) (by omega)]
  | f + 1, g + 1, .node v l r, 0, _, _ => rfl
  | f + 1, g + 1, .node v l r, n + 1, h, h' => by
    simp only [Tr.setF]; rw [setF_fuel o f g l (n / 2) (by omega) (by omega), setF_fuel o f g r (n / 2) (by omega) (by omega)]

theorem Tr.setR_eq {α : Type} (t : Tr α) : ∀ n o, t.setR n o = t.set n o := by
  induction t with
  | nil => intro n o; rfl
  | node v l r ihl ihr =>
    intro n o
    cases n with
    | zero => rfl
    | succ m =>
      show Bool.rec (motive := fun _ => Tr α) (Tr.node v l (r.setR (m / 2) o)) (Tr.node v (l.setR (m / 2) o) r) (Nat.beq (m % 2) 0) = Tr.set (.node v l r) (m + 1) o
      rw [ihl, ihr]
      unfold Tr.set
      simp only [Tr.setF]
      rw [setF_fuel o (m / 2 + 1) (m + 1) l (m / 2) (by omega) (by omega), setF_fuel o (m / 2 + 1) (m + 1) r (m / 2) (by omega) (by omega)]
      by_cases h : m % 2 = 0
      · rw [if_pos h, h]; rfl
      · rw [if_neg h]
        have : Nat.beq (m % 2) 0 = false := by cases hb : Nat.beq (m % 2) 0 with | false => rfl | true => exact (h (Nat.eq_of_beq_eq_true hb)).elim
        rw [this]

noncomputable def evE (fr : Fr) (x : Operand) : Option Value :=
  Operand.casesOn (motive := fun _ => Option Value) x (fun t => fr.getR t) (fun v => if constOkA v = true then some v else none) (fun _ => none) (fun f => some (.func (.func f) #[] #[]))
theorem evE_eq (fr : Fr) : evE fr = ev fr := by
  funext x; cases x <;> first | rfl | exact Tr.getR_eq _ _

noncomputable def fputE (fr : Fr) (d : Option Tmp) (v : Value) : Fr :=
  Option.casesOn (motive := fun _ => Fr) d fr (fun t => fr.setR t v)
theorem fputE_eq (fr : Fr) (d : Option Tmp) (v : Value) : fputE fr d v = fput fr d v := by
  cases d with
  | none => rfl
  | some t => exact Tr.setR_eq _ _ _

/-! ### The operations -/

noncomputable def kIdx (k : IntKind) : Nat := IntKind.casesOn k 0 1 2 3 4 5 6 7
noncomputable def sameK (k k' : IntKind) : Bool := Nat.beq (kIdx k) (kIdx k')
theorem sameK_eq (k k' : IntKind) : sameK k k' = decide (k = k') := by cases k <;> cases k' <;> rfl

/-- Numbers that are far from the ends of their kind need no turning. -/
noncomputable def wrapE (k : IntKind) (n : Int) : Int :=
  IntKind.casesOn (motive := fun _ => Int) k (k.wrap n) (k.wrap n) (k.wrap n)
    (Int.casesOn (motive := fun _ => Int) n (fun m => Bool.rec (motive := fun _ => Int) (k.wrap n) (Int.ofNat m) (Nat.blt m 9223372036854775808)) (fun _ => k.wrap n))
    (k.wrap n) (k.wrap n) (k.wrap n) (k.wrap n)
theorem wrapE_eq (k : IntKind) (n : Int) : wrapE k n = k.wrap n := by
  cases k <;> try rfl
  cases n with
  | negSucc m => rfl
  | ofNat m =>
    show Bool.rec (motive := fun _ => Int) (IntKind.i64.wrap (Int.ofNat m)) (Int.ofNat m) (Nat.blt m 9223372036854775808) = _
    cases hb : Nat.blt m 9223372036854775808 with
    | false => rfl
    | true =>
      have h : m < 9223372036854775808 := Nat.le_of_ble_eq_true hb
      show Int.ofNat m = IntKind.wrap .i64 (Int.ofNat m)
      have h1 : (m : Int) % 18446744073709551616 = m := Int.emod_eq_of_lt (Int.natCast_nonneg m) (by omega)
      show (m : Int) = if (true && decide ((m : Int) % 18446744073709551616 ≥ 9223372036854775808)) = true then (m : Int) % 18446744073709551616 - 18446744073709551616 else (m : Int) % 18446744073709551616
      rw [if_neg (by rw [h1]; simp; omega), h1]

noncomputable def ite' {α : Type} (b : Bool) (x y : α) : α := Bool.rec (motive := fun _ => α) y x b
theorem ite'_true {α : Type} (x y : α) : ite' true x y = x := rfl
theorem ite'_false {α : Type} (x y : α) : ite' false x y = y := rfl

noncomputable def arE (f : Int → Int → Int) (v w : Value) : Option Value :=
  match v with
  | .int k a => match w with
    | .int k' b => ite' (sameK k k') (some (.int k (wrapE k (f a b)))) none
    | _ => none
  | _ => none
noncomputable def cmE (op : BinOp) (f : Int → Int → Bool) (v w : Value) : Option Value :=
  match v with
  | .int k a => match w with
    | .int k' b => ite' (sameK k k') (some (.bool (f a b))) none
    | _ => none
  | _ => binV op v w
noncomputable def addE (v w : Value) : Option Value :=
  match v with
  | .int _ _ => arE Int.add v w
  | _ => binV .add v w

noncomputable def binE (op : BinOp) : Value → Value → Option Value :=
  match op with
  | .add => addE
  | .sub => arE Int.sub
  | .mul => arE Int.mul
  | .lss => cmE .lss fun a b => decide (a < b)
  | .leq => cmE .leq fun a b => decide (a ≤ b)
  | .gtr => cmE .gtr fun a b => decide (a > b)
  | .geq => cmE .geq fun a b => decide (a ≥ b)
  | .eql => cmE .eql fun a b => a == b
  | .neq => cmE .neq fun a b => a != b
  | op => binV op

theorem cmE_eq {op : BinOp} {f : Int → Int → Bool} (h : ∀ k a k' b, binV op (.int k a) (.int k' b) = if k = k' then some (.bool (f a b)) else none)
    (h2 : ∀ k a w, (∀ k' b, w ≠ .int k' b) → binV op (.int k a) w = none) : cmE op f = binV op := by
  funext v w
  unfold cmE
  split
  · rename_i k a
    split
    · rename_i k' b
      rw [sameK_eq, h]
      by_cases e : k = k'
      · rw [decide_eq_true e, if_pos e, ite'_true]
      · rw [decide_eq_false e, if_neg e, ite'_false]
    · rename_i hne; rw [h2 _ _ _ hne]
  · rfl

theorem arE_eq {op : BinOp} {f : Int → Int → Int} (h : ∀ k a k' b, binV op (.int k a) (.int k' b) = if k = k' then some (.int k (k.wrap (f a b))) else none)
    (h2 : ∀ v w, (∀ k a k' b, ¬ (v = .int k a ∧ w = .int k' b)) → binV op v w = none) : arE f = binV op := by
  funext v w
  unfold arE
  split
  · rename_i k a
    split
    · rename_i k' b
      rw [sameK_eq, h, wrapE_eq]
      by_cases e : k = k'
      · rw [decide_eq_true e, if_pos e, ite'_true]
      · rw [decide_eq_false e, if_neg e, ite'_false]
    · rename_i hne; rw [h2 _ _ fun k a k' b ⟨_, e⟩ => hne _ _ e]
  · rename_i hne; rw [h2 _ _ fun k a k' b ⟨e, _⟩ => hne _ _ e]

theorem binE_eq (op : BinOp) : binE op = binV op := by
  have n1 : ∀ (op : BinOp) (k : IntKind) (a : Int) (w : Value), (∀ k' b, w ≠ .int k' b) → binV op (.int k a) w = none := by
    intro op k a w h
    cases w <;> first | (exact (h _ _ rfl).elim) | rfl
  have n2 : ∀ (op : BinOp), op = .sub ∨ op = .mul → ∀ v w, (∀ k a k' b, ¬ (v = .int k a ∧ w = .int k' b)) → binV op v w = none := by
    rintro op hop v w h
    cases v <;> try rfl
    · rename_i k a; exact n1 op k a w fun k' b e => h k a k' b ⟨rfl, e⟩
    · cases w <;> try rfl
      rcases hop with rfl | rfl <;> rfl
  cases op <;> try rfl
  case add =>
    funext v w
    show addE v w = _
    unfold addE
    split
    · rename_i k a
      unfold arE
      simp only
      split
      · rename_i k' b
        rw [sameK_eq, wrapE_eq]
        show _ = if k = k' then some (Value.int k (k.wrap (a + b))) else none
        by_cases e : k = k'
        · rw [decide_eq_true e, if_pos e, ite'_true]; rfl
        · rw [decide_eq_false e, if_neg e, ite'_false]
      · rename_i hne; rw [n1 _ _ _ _ hne]
    · rfl
  case sub => exact arE_eq (fun _ _ _ _ => rfl) (n2 _ (.inl rfl))
  case mul => exact arE_eq (fun _ _ _ _ => rfl) (n2 _ (.inr rfl))
  case lss => exact cmE_eq (fun _ _ _ _ => rfl) (n1 _)
  case leq => exact cmE_eq (fun _ _ _ _ => rfl) (n1 _)
  case gtr => exact cmE_eq (fun _ _ _ _ => rfl) (n1 _)
  case geq => exact cmE_eq (fun _ _ _ _ => rfl) (n1 _)
  case eql => exact cmE_eq (fun _ _ _ _ => rfl) (n1 _)
  case neq => exact cmE_eq (fun _ _ _ _ => rfl) (n1 _)

/-! ### Rows of cells -/

/-- Behind the first o. -/
noncomputable def dropE (cs : List Value) : Nat → Option (List Value) :=
  List.rec (motive := fun _ => Nat → Option (List Value)) (fun o => Nat.rec (motive := fun _ => Option (List Value)) (some []) (fun _ _ => none) o)
    (fun c cs ih o => Nat.rec (motive := fun _ => Option (List Value)) (some (c :: cs)) (fun m _ => ih m) o) cs
theorem dropE_eq (cs : List Value) : ∀ o, dropE cs o = if o ≤ cs.length then some (cs.drop o) else none := by
  induction cs with
  | nil => intro o; cases o <;> rfl
  | cons c cs ih =>
    intro o
    cases o with
    | zero => rfl
    | succ m =>
      show dropE cs m = _
      rw [ih]
      by_cases h : m ≤ cs.length
      · rw [if_pos h, if_pos (by simpa using h)]; rfl
      · rw [if_neg h, if_neg (by simpa using h)]
/-- The first n. -/
noncomputable def takeE (cs : List Value) : Nat → Option (List Value) :=
  List.rec (motive := fun _ => Nat → Option (List Value)) (fun o => Nat.rec (motive := fun _ => Option (List Value)) (some []) (fun _ _ => none) o)
    (fun c _ ih o => Nat.rec (motive := fun _ => Option (List Value)) (some []) (fun m _ => Option.casesOn (motive := fun _ => Option (List Value)) (ih m) none (fun l => some (c :: l))) o) cs
theorem takeE_eq (cs : List Value) : ∀ n, takeE cs n = if n ≤ cs.length then some (cs.take n) else none := by
  induction cs with
  | nil => intro o; cases o <;> rfl
  | cons c cs ih =>
    intro o
    cases o with
    | zero => rfl
    | succ m =>
      show Option.casesOn (motive := fun _ => Option (List Value)) (takeE cs m) none (fun l => some (c :: l)) = _
      rw [ih]
      by_cases h : m ≤ cs.length
      · rw [if_pos h, if_pos (by simpa using h)]; rfl
      · rw [if_neg h, if_neg (by simpa using h)]
noncomputable def getE (cs : List Value) : Nat → Option Value :=
  List.rec (motive := fun _ => Nat → Option Value) (fun _ => none) (fun c _ ih o => Nat.rec (motive := fun _ => Option Value) (some c) (fun m _ => ih m) o) cs
theorem getE_eq (cs : List Value) : ∀ o, getE cs o = cs[o]? := by
  induction cs with
  | nil => intro o; rfl
  | cons c cs ih =>
    intro o
    cases o with
    | zero => rfl
    | succ m => show getE cs m = _; rw [ih]; rfl

noncomputable def St.getE (s : St) (b : Nat) : Option Blk := s.heap.getR b
theorem St.getE_eq (s : St) (b : Nat) : s.getE b = s.get b := Tr.getR_eq _ _
noncomputable def St.setE (s : St) (b : Nat) (o : Blk) : St := ⟨s.next, s.heap.setR b o⟩
theorem St.setE_eq (s : St) (b : Nat) (o : Blk) : s.setE b o = s.set b o := by unfold St.setE St.set; rw [Tr.setR_eq]
noncomputable def St.pushE (s : St) (o : Blk) : St := ⟨Nat.succ s.next, s.heap.setR s.next o⟩
theorem St.pushE_eq (s : St) (o : Blk) : s.pushE o = s.push o := by unfold St.pushE St.push; rw [Tr.setR_eq]

noncomputable def loadNE (s : St) (b o n : Nat) : Option (List Value) :=
  match s.getE b with
  | some (.cells _ cs) => (match dropE cs o with
    | some cs => takeE cs n
    | none => none)
  | _ => none
theorem loadNE_eq (s : St) (b o n : Nat) : loadNE s b o n = loadN s b o n := by
  unfold loadNE loadN
  rw [St.getE_eq]
  cases s.get b with
  | none => rfl
  | some blk =>
    cases blk <;> try rfl
    rename_i own cs
    simp only
    rw [dropE_eq]
    by_cases h : o ≤ cs.length
    · rw [if_pos h]
      show takeE (cs.drop o) n = _
      rw [takeE_eq, List.length_drop]
      by_cases h2 : o + n ≤ cs.length
      · rw [if_pos h2, if_pos (by omega)]
      · rw [if_neg h2, if_neg (by omega)]
    · rw [if_neg h, if_neg (by omega)]
noncomputable def load1E (s : St) (b o : Nat) : Option Value :=
  match s.getE b with
  | some (.cells _ cs) => Vm.getE cs o
  | _ => none
theorem load1E_eq (s : St) (b o : Nat) : load1E s b o = load1 s b o := by
  unfold load1E load1; rw [St.getE_eq]
  cases s.get b with
  | none => rfl
  | some blk =>
    cases blk <;> try rfl
    rename_i own cs
    exact Vm.getE_eq cs o

noncomputable def storeNE (s : St) (b o : Nat) (vs : List Value) : Option St :=
  match s.getE b with
  | some (.cells true cs) => if o + vs.length ≤ cs.length ∧ oneCells vs = true then some (s.setE b (.cells true (setRange cs o vs))) else none
  | _ => none
theorem storeNE_eq (s : St) (b o : Nat) (vs : List Value) : storeNE s b o vs = storeN s b o vs := by
  unfold storeNE storeN; simp only [St.getE_eq, St.setE_eq]; rfl

noncomputable def appendVE (esz : Nat) (s : St) (n b o c : Nat) (new : List Value) (k : Nat) : VR :=
  Nat.rec (motive := fun _ => VR) (.val (.slice (some ⟨b, o, none⟩) n c) s) (fun k' _ =>
    if n + (k' + 1) ≤ 1048576 ∧ c / 2 = esz ∧ oneCells new = true then
      match loadNE s b o (n * esz) with
      | none => .bad
      | some old =>
        if c % 2 = 1 then .val (.slice (some ⟨s.next, 0, none⟩) (n + (k' + 1)) (2 * esz)) (s.pushE (.cells true (old ++ new)))
        else match s.getE b with
          | some (.cells true _) => .val (.slice (some ⟨s.next, 0, none⟩) (n + (k' + 1)) (2 * esz)) ((s.setE b .dead).pushE (.cells true (old ++ new)))
          | _ => .bad
    else .bad) k
theorem appendVE_eq (esz : Nat) (s : St) (n b o c : Nat) (new : List Value) (k : Nat) : appendVE esz s n b o c new k = appendV esz s n b o c new k := by
  cases k with
  | zero => rfl
  | succ k =>
    unfold appendVE appendV
    simp only [loadNE_eq, St.getE_eq, St.setE_eq, St.pushE_eq]
    rw [if_neg (show ¬ (k + 1 = 0) by omega)]
    rfl

abbrev EvF := Operand → Option Value
noncomputable def retV (s : St) (x : Option Value) : VR := Option.casesOn (motive := fun _ => VR) x .bad fun v => .val v s

theorem retV_eq (s : St) (x : Option Value) : retV s x = match x with | some v => .val v s | none => .bad := by cases x <;> rfl

noncomputable def bMov (x : Operand) (e : EvF) (s : St) : VR := retV s (e x)
noncomputable def bPick (c a b : Operand) (e : EvF) (s : St) : VR := match e c with
  | some (.bool t) => retV s (if t then e a else e b)
  | _ => .bad
noncomputable def bLoad (n : Option Nat) (a : Operand) (e : EvF) (s : St) : VR := match n with
  | none => (match e a with
    | some (.pointer (some ⟨b, o, none⟩)) => retV s (load1E s b o)
    | _ => .bad)
  | some n => match e a with
    | some (.pointer (some ⟨b, o, none⟩)) => (match loadNE s b o n with
      | some cs => .val (.agg cs.toArray) s
      | none => .bad)
    | _ => .bad
noncomputable def bStore (n : Nat) (a x : Operand) (e : EvF) (s : St) : VR := match e a, e x with
  | some (.pointer (some ⟨b, o, none⟩)), some v => if (vcells v).length = n then (match storeNE s b o (vcells v) with | some s' => .skip s' | none => .bad) else .bad
  | _, _ => .bad
noncomputable def bBin (op : BinOp) (x y : Operand) (e : EvF) (s : St) : VR := match e x with
  | some a => (match e y with
    | some b => retV s (binE op a b)
    | none => .bad)
  | none => .bad
noncomputable def bNot (x : Operand) (e : EvF) (s : St) : VR := match e x with
  | some (.bool b) => .val (.bool (!b)) s
  | _ => .bad
noncomputable def bConv (k : IntKind) (x : Operand) (e : EvF) (s : St) : VR := match e x with
  | some (.int _ n) => .val (.int k (wrapE k n)) s
  | _ => .bad
noncomputable def bFieldAddr (off : Nat) (x : Operand) (e : EvF) (s : St) : VR := match e x with
  | some (.pointer (some ⟨b, o, none⟩)) => .val (.pointer (some ⟨b, o + off, none⟩)) s
  | _ => .bad
noncomputable def bIdxArr (len esz : Nat) (x i : Operand) (e : EvF) (s : St) : VR := match e x, e i with
  | some (.pointer (some ⟨b, o, none⟩)), some (.int _ i) => if 0 ≤ i ∧ i < len then .val (.pointer (some ⟨b, o + i.toNat * esz, none⟩)) s else .bad
  | _, _ => .bad
noncomputable def bIdxSl (esz : Nat) (x i : Operand) (e : EvF) (s : St) : VR := match e x, e i with
  | some (.slice (some ⟨b, o, none⟩) n _), some (.int _ i) => if 0 ≤ i ∧ i < n then .val (.pointer (some ⟨b, o + i.toNat * esz, none⟩)) s else .bad
  | _, _ => .bad
noncomputable def bLenSl (x : Operand) (e : EvF) (s : St) : VR := match e x with
  | some (.slice _ n _) => .val (.int .i64 n) s
  | _ => .bad
noncomputable def bExtract (x : Operand) (i : Nat) (e : EvF) (s : St) : VR := match e x with
  | some (.tuple vs) => retV s (vs[i]?)
  | _ => .bad
noncomputable def bCall (f : Operand) (az : List Operand) (e : EvF) (s : St) : VR := match e f, getAll e az with
  | some (.func (.func f) fi ca), some vs => .call f (fi.toList ++ vs ++ ca.toList)
  | some (.func (.yield b) _ _), some vs => .yield b vs
  | _, _ => .bad
noncomputable def bAlloc (z : List Value) (_ : EvF) (s : St) : VR := .val (.pointer (some ⟨s.next, 0, none⟩)) (s.pushE (.cells true z))
noncomputable def bBuild (z : List Value) (ps : List (Nat × Nat × Operand)) (e : EvF) (s : St) : VR := match fillV e z ps with
  | some cs => .val (.agg cs.toArray) s
  | none => .bad

noncomputable def bBuildSlice (esz n : Nat) (z : List Value) (ps : List (Nat × Nat × Operand)) (e : EvF) (s : St) : VR := match fillV e z ps with
  | some cs => .val (.slice (some ⟨s.next, 0, none⟩) n (2 * esz + 1)) (s.pushE (.cells true cs))
  | none => .bad
noncomputable def bAppend (esz : Nat) (sl x : Operand) (e : EvF) (s : St) : VR := match e sl, e x with
  | some (.slice none 0 c), some (.slice none 0 _) => .val (.slice none 0 c) s
  | some (.slice none 0 c), some (.slice (some ⟨b, o, none⟩) k cx) =>
    if k = 0 then .val (.slice none 0 c) s else
    if k ≤ 1048576 ∧ cx / 2 = esz then
      (match loadNE s b o (k * esz) with
       | some new => .val (.slice (some ⟨s.next, 0, none⟩) k (2 * esz)) (s.pushE (.cells true new))
       | none => .bad)
    else .bad
  | some (.slice (some ⟨b, o, none⟩) n c), some (.slice none 0 _) => appendVE esz s n b o c [] 0
  | some (.slice (some ⟨b, o, none⟩) n c), some (.slice (some ⟨bx, ox, none⟩) k cx) =>
    if cx / 2 = esz then (match loadNE s bx ox (k * esz) with
      | some new => appendVE esz s n b o c new k
      | none => .bad) else .bad
  | _, _ => .bad

noncomputable def vxE (o : VOp) : EvF → St → VR :=
  VOp.casesOn (motive := fun _ => EvF → St → VR) o
    bMov bPick bAlloc (fun x => vx (.box x)) bBuild bBuildSlice bLoad bStore (fun x => vx (.nilCheck x)) bBin (fun t n x y => vx (.eqb t n x y)) bNot (fun x => vx (.neg x))
    bConv (fun n x => vx (.arrPtr n x)) (fun f a b => vx (.mkFunc f a b)) (vx .mkMap) (fun a b z l c => vx (.mkSlice a b z l c)) (fun a x b c d => vx (.sliceSl a x b c d)) (fun a b x c d f => vx (.sliceArr a b x c d f)) (fun x a b => vx (.sliceStr x a b))
    bFieldAddr bIdxArr bIdxSl (fun a b c x i => vx (.idxAgg a b c x i)) (fun x i => vx (.idxStr x i)) (fun a b c x => vx (.field a b c x)) bExtract bCall bAppend bLenSl (fun x => vx (.lenStr x)) (fun x => vx (.convStr x))
    (fun m x y => vx (.minmax m x y)) (fun t z m k o => vx (.lookup t z m k o)) (fun t m k x => vx (.mapUpdate t m k x)) (fun t z m k => vx (.mapEntry t z m k)) (fun m b x => vx (.entryStore m b x)) (fun m => vx (.range m)) (fun i => vx (.next i)) (fun i => vx (.entry i)) (fun m => vx (.lenMap m)) (vx .never)

theorem vxE_eq (o : VOp) : vxE o = vx o := by
  funext e s
  cases o <;> try rfl
  case mov x => show retV s (e x) = _; rw [retV_eq]; rfl
  case pick c a b => show bPick c a b e s = _; unfold bPick; simp only [retV_eq]; rfl
  case load n a =>
    show bLoad n a e s = _
    cases n with
    | none => unfold bLoad; simp only [retV_eq, load1E_eq]; rfl
    | some n => unfold bLoad; simp only [loadNE_eq]; rfl
  case store n a x => show bStore n a x e s = _; unfold bStore; simp only [storeNE_eq]; rfl
  case alloc z => show bAlloc z e s = _; unfold bAlloc; rw [St.pushE_eq]; rfl
  case buildSlice a b z p => show bBuildSlice a b z p e s = _; unfold bBuildSlice; simp only [St.pushE_eq]; rfl
  case append a x y => show bAppend a x y e s = _; unfold bAppend; simp only [St.pushE_eq, loadNE_eq, appendVE_eq]; rfl
  case bin op x y =>
    show bBin op x y e s = _
    simp only [vx, bBin, binE_eq, retV_eq]
    cases e x with
    | none => rfl
    | some a => cases e y <;> rfl
  case conv k x => show bConv k x e s = _; unfold bConv; simp only [wrapE_eq]; rfl
  case extract x i => show bExtract x i e s = _; unfold bExtract; simp only [retV_eq]; rfl
end Go.Vm
