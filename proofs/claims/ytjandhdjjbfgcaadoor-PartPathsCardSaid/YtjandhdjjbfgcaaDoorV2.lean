/- The abstract machine's operations: resolved operations, what they do, and how an operation of the model is resolved. -/
import Derived.Test.YtjandhdjjbfgcaaDoorV1
set_option linter.unusedSectionVars false
set_option linter.unusedSimpArgs false
set_option linter.unusedVariables false
/- The abstract machine's operations: resolved operations, what they do, and how an operation of the model is resolved. -/
namespace Go.Vm

/-- A constant that is the same on both sides. -/
def constOk : Value → Bool
  | .bool _ | .int _ _ | .string _ | .pointer none | .slice none 0 0 | .map none | .nilFunc | .nilIface => true
  | _ => false
/-- A zero value: one cell, or cells that are constants. -/
def constOkA : Value → Bool
  | .agg cs => cs.toList.all constOk
  | v => constOk v

def vcells : Value → List Value
  | .agg cs => cs.toList
  | v => [v]

inductive VR where
  | val (v : Value) (s : St)
  | skip (s : St)
  | call (f : FuncId) (args : List Value)
  | yield (b : Nat) (args : List Value)
  | any (l : List (Value × St))
  | bad

/-- What a cell that is compared holds. -/
inductive CK where
  | int | bool | str
  deriving DecidableEq, Inhabited
/-- What is compared: one cell, or the cells of a struct or an array; a pointer; a slice against nil. -/
inductive KT where
  | one (k : CK)
  | many (ks : List CK)
  | ptr
  | slice
  deriving DecidableEq, Inhabited
/-- Resolved operations. -/
inductive VOp where
  | mov (x : Operand)
  | pick (c a b : Operand)
  | alloc (z : List Value)
  | box (x : Operand)
  | build (z : List Value) (parts : List (Nat × Nat × Operand))
  | buildSlice (esz len : Nat) (z : List Value) (parts : List (Nat × Nat × Operand))
  | load (n : Option Nat) (a : Operand)
  | store (n : Nat) (a x : Operand)
  | nilCheck (x : Operand)
  | bin (op : BinOp) (x y : Operand)
  | eqb (t : KT) (neg : Bool) (x y : Operand)
  | not (x : Operand)
  | neg (x : Operand)
  | conv (k : IntKind) (x : Operand)
  | arrPtr (n : Nat) (x : Operand)
  | mkFunc (f : FuncId) (first captured : List Operand)
  | mkMap
  | mkSlice (esz bytes : Nat) (z : List Value) (l c : Operand)
  | sliceSl (esz : Nat) (x : Operand) (lo hi mx : Option Operand)
  | sliceArr (n esz : Nat) (x : Operand) (lo hi mx : Option Operand)
  | sliceStr (x : Operand) (lo hi : Option Operand)
  | fieldAddr (off : Nat) (x : Operand)
  | idxArr (len esz : Nat) (x i : Operand)
  | idxSl (esz : Nat) (x i : Operand)
  | idxAgg (len esz : Nat) (agg : Bool) (x i : Operand)
  | idxStr (x i : Operand)
  | field (off n : Nat) (agg : Bool) (x : Operand)
  | extract (x : Operand) (i : Nat)
  | call (f : Operand) (args : List Operand)
  | append (esz : Nat) (s x : Operand)
  | lenSl (x : Operand)
  | lenStr (x : Operand)
  | convStr (x : Operand)
  | minmax (mx : Bool) (x y : Operand)
  | lookup (t : KT) (z : Value) (m k : Operand) (ok : Bool)
  | mapUpdate (t : KT) (m k x : Operand)
  | mapEntry (t : KT) (z : Value) (m k : Operand)
  | entryStore (m b x : Operand)
  | range (m : Operand)
  | next (it : Operand)
  | entry (it : Operand)
  | lenMap (m : Operand)
  | never
  deriving Inhabited

def getAll (ev : Operand → Option Value) : List Operand → Option (List Value)
  | [] => some []
  | x :: xs => match ev x, getAll ev xs with
    | some v, some vs => some (v :: vs)
    | _, _ => none

/-- Part after part is laid over the cells. -/
def setRange : List Value → Nat → List Value → List Value
  | cs, _, [] => cs
  | cs, o, v :: vs => setRange (cs.set o v) (o + 1) vs

def fillV (ev : Operand → Option Value) : List Value → List (Nat × Nat × Operand) → Option (List Value)
  | cs, [] => some cs
  | cs, (off, n, x) :: rest => match ev x with
    | some v => if (vcells v).length = n ∧ off + n ≤ cs.length then fillV ev (setRange cs off (vcells v)) rest else none
    | none => none

def loadN (s : St) (b o n : Nat) : Option (List Value) :=
  match s.get b with
  | some (.cells _ cs) => if o + n ≤ cs.length then some ((cs.drop o).take n) else none
  | _ => none
def load1 (s : St) (b o : Nat) : Option Value :=
  match s.get b with
  | some (.cells _ cs) => cs[o]?
  | _ => none
def oneCells (vs : List Value) : Bool := vs.all Value.oneCell'
def storeN (s : St) (b o : Nat) (vs : List Value) : Option St :=
  match s.get b with
  | some (.cells true cs) => if o + vs.length ≤ cs.length ∧ oneCells vs = true then some (s.set b (.cells true (setRange cs o vs))) else none
  | _ => none

def binV (op : BinOp) : Value → Value → Option Value
  | .int k a, .int k' b =>
    match op with
    | .shl => if b < 0 then none else some (.int k (k.wrap (a * 2 ^ (min b.toNat k.bits))))
    | .shr => if b < 0 then none else some (.int k (a.fdiv (2 ^ (min b.toNat k.bits))))
    | .add => if k = k' then some (.int k (k.wrap (a + b))) else none
    | .sub => if k = k' then some (.int k (k.wrap (a - b))) else none
    | .mul => if k = k' then some (.int k (k.wrap (a * b))) else none
    | .quo => if k = k' ∧ b ≠ 0 then some (.int k (k.wrap (a.tdiv b))) else none
    | .rem => if k = k' ∧ b ≠ 0 then some (.int k (a.tmod b)) else none
    | .and => if k = k' then some (.int k (k.wrap (BitVec.ofInt k.bits a &&& BitVec.ofInt k.bits b).toNat)) else none
    | .or => if k = k' then some (.int k (k.wrap (BitVec.ofInt k.bits a ||| BitVec.ofInt k.bits b).toNat)) else none
    | .xor => if k = k' then some (.int k (k.wrap (BitVec.ofInt k.bits a ^^^ BitVec.ofInt k.bits b).toNat)) else none
    | .andNot => if k = k' then some (.int k (k.wrap (BitVec.ofInt k.bits a &&& ~~~ BitVec.ofInt k.bits b).toNat)) else none
    | .eql => if k = k' then some (.bool (a == b)) else none
    | .neq => if k = k' then some (.bool (a != b)) else none
    | .lss => if k = k' then some (.bool (a < b)) else none
    | .leq => if k = k' then some (.bool (a ≤ b)) else none
    | .gtr => if k = k' then some (.bool (a > b)) else none
    | .geq => if k = k' then some (.bool (a ≥ b)) else none
  | .string a, .string b =>
    match op with
    | .add => if a.size + b.size ≤ 1048576 then some (.string (a ++ b)) else none
    | .eql => some (.bool (a.toList == b.toList))
    | .neq => some (.bool (!(a.toList == b.toList)))
    | .lss => some (.bool (Op.bytesLess a.toList b.toList))
    | .leq => some (.bool (Op.bytesLess a.toList b.toList || a.toList == b.toList))
    | .gtr => some (.bool (!(Op.bytesLess a.toList b.toList || a.toList == b.toList)))
    | .geq => some (.bool (!Op.bytesLess a.toList b.toList))
    | _ => none
  | _, _ => none

def eqCell : CK → Value → Value → Option Bool
  | .int, .int k a, .int k' b => if k = k' then some (a == b) else none
  | .bool, .bool a, .bool b => some (a == b)
  | .str, .string a, .string b => some (a.toList == b.toList)
  | _, _, _ => none
def eqCells : List CK → List Value → List Value → Option Bool
  | [], [], [] => some true
  | k :: ks, x :: xs, y :: ys => match eqCell k x y, eqCells ks xs ys with
    | some a, some b => some (a && b)
    | _, _ => none
  | _, _, _ => none
def eqV : KT → Value → Value → Option Bool
  | .one k, x, y => eqCell k x y
  | .many ks, .agg xs, .agg ys => eqCells ks xs.toList ys.toList
  | .ptr, .pointer none, .pointer b => some b.isNone
  | .ptr, .pointer (some _), .pointer none => some false
  | .slice, .slice none _ _, .slice b _ _ => some b.isNone
  | .slice, .slice (some _) _ _, .slice none _ _ => some false
  | _, _, _ => none

def optInt (ev : Operand → Option Value) (d : Nat) : Option Operand → Option Nat
  | none => some d
  | some x => match ev x with
    | some (.int _ i) => if 0 ≤ i then some i.toNat else none
    | _ => none

def findEnt (t : KT) (k : Value) : List Ent → Nat → Option (Option (Nat × Value))
  | [], _ => some none
  | e :: es, i => match eqV t k e.key with
    | some true => some (some (i, e.val))
    | some false => findEnt t k es (i + 1)
    | none => none

def appendV (esz : Nat) (s : St) (n b o c : Nat) (new : List Value) (k : Nat) : VR :=
  if k = 0 then .val (.slice (some ⟨b, o, none⟩) n c) s else
  if n + k ≤ 1048576 ∧ c / 2 = esz ∧ oneCells new = true then
    match loadN s b o (n * esz) with
    | none => .bad
    | some old =>
      if c % 2 = 1 then .val (.slice (some ⟨s.next, 0, none⟩) (n + k) (2 * esz)) (s.push (.cells true (old ++ new)))
      else match s.get b with
        | some (.cells true _) => .val (.slice (some ⟨s.next, 0, none⟩) (n + k) (2 * esz)) ((s.set b .dead).push (.cells true (old ++ new)))
        | _ => .bad
  else .bad

/-- The results that the next step of a range over a map may have. -/
def nexts (s : St) (it m since : Nat) (seen : List Nat) (es : List Ent) (clock : Nat) : List (Value × St) :=
  let left := es.filter fun e => !seen.contains e.born
  let old := left.filter fun e => decide (e.born < since)
  let new := left.filter fun e => decide (e.born ≥ since)
  (if old.isEmpty then [(Value.tuple #[.bool false], s)] else []) ++
    (old ++ new).map fun e => (.tuple #[.bool true, e.key, e.val], s.set it (.iter m since (seen ++ [e.born]) clock))

/-- What a resolved operation does. -/
def vx (o : VOp) (ev : Operand → Option Value) (s : St) : VR :=
  let v1 (x : Option Value) : VR := match x with | some v => .val v s | none => .bad
  match o with
  | .mov x => v1 (ev x)
  | .pick c a b => match ev c with
    | some (.bool t) => v1 (if t then ev a else ev b)
    | _ => .bad
  | .alloc z => .val (.pointer (some ⟨s.next, 0, none⟩)) (s.push (.cells true z))
  | .box x => match ev x with
    | some v => .val (.pointer (some ⟨s.next, 0, none⟩)) (s.push (.cells true (vcells v)))
    | none => .bad
  | .build z ps => match fillV ev z ps with
    | some cs => .val (.agg cs.toArray) s
    | none => .bad
  | .buildSlice esz n z ps => match fillV ev z ps with
    | some cs => .val (.slice (some ⟨s.next, 0, none⟩) n (2 * esz + 1)) (s.push (.cells true cs))
    | none => .bad
  | .load none a => match ev a with
    | some (.pointer (some ⟨b, o, none⟩)) => v1 (load1 s b o)
    | _ => .bad
  | .load (some n) a => match ev a with
    | some (.pointer (some ⟨b, o, none⟩)) => match loadN s b o n with
      | some cs => .val (.agg cs.toArray) s
      | none => .bad
    | _ => .bad
  | .store n a x => match ev a, ev x with
    | some (.pointer (some ⟨b, o, none⟩)), some v => if (vcells v).length = n then (match storeN s b o (vcells v) with | some s' => .skip s' | none => .bad) else .bad
    | _, _ => .bad
  | .nilCheck x => match ev x with
    | some (.pointer (some a)) => .val (.pointer (some a)) s
    | some (.func (.func f) fi ca) => .val (.func (.func f) fi ca) s
    | _ => .bad
  | .bin op x y => match ev x, ev y with
    | some a, some b => v1 (binV op a b)
    | _, _ => .bad
  | .eqb t n x y => match ev x, ev y with
    | some a, some b => match eqV t a b with
      | some r => .val (.bool (if n then !r else r)) s
      | none => .bad
    | _, _ => .bad
  | .not x => match ev x with
    | some (.bool b) => .val (.bool (!b)) s
    | _ => .bad
  | .neg x => match ev x with
    | some (.int k n) => .val (.int k (k.wrap (0 - n))) s
    | _ => .bad
  | .conv k x => match ev x with
    | some (.int _ n) => .val (.int k (k.wrap n)) s
    | _ => .bad
  | .arrPtr n x => match ev x with
    | some (.slice (some a) m _) => if n ≤ m then .val (.pointer (some a)) s else .bad
    | _ => .bad
  | .mkFunc f fi ca => match getAll ev fi, getAll ev ca with
    | some fi, some ca => .val (.func (.func f) fi.toArray ca.toArray) s
    | _, _ => .bad
  | .mkMap => .val (.map (some s.next)) (s.push (.map [] 0))
  | .mkSlice esz _ z l c => match ev l, ev c with
    | some (.int _ l), some (.int _ c) =>
      if 0 ≤ l ∧ l ≤ c ∧ c ≤ 1048576 then .val (.slice (some ⟨s.next, 0, none⟩) l.toNat (2 * esz + if l = c then 1 else 0)) (s.push (.cells true ((List.replicate c.toNat z).flatten))) else .bad
    | _, _ => .bad
  | .sliceSl esz x lo hi mx => match ev x with
    | some (.slice none 0 c) => match optInt ev 0 lo, optInt ev 0 hi, optInt ev 0 mx with
      | some 0, some 0, some 0 => .val (.slice none 0 c) s
      | _, _, _ => .bad
    | some (.slice (some ⟨b, o, none⟩) n c) => match optInt ev 0 lo, optInt ev n hi with
      | some l, some h =>
        if l ≤ h ∧ h ≤ n ∧ c / 2 = esz then
          match mx with
          | none => .val (.slice (some ⟨b, o + l * esz, none⟩) (h - l) (2 * esz + if h = n then c % 2 else 0)) s
          | some y => match optInt ev 0 (some y) with
            | some m => if h ≤ m ∧ m ≤ n then .val (.slice (some ⟨b, o + l * esz, none⟩) (h - l) (2 * esz + if h = m then 1 else 0)) s else .bad
            | none => .bad
        else .bad
      | _, _ => .bad
    | _ => .bad
  | .sliceArr n esz x lo hi mx => match ev x with
    | some (.pointer (some ⟨b, o, none⟩)) => match optInt ev 0 lo, optInt ev n hi, optInt ev n mx, s.get b with
      | some l, some h, some m, some (.cells _ cs) =>
        if l ≤ h ∧ h ≤ m ∧ m ≤ n ∧ o + n * esz ≤ cs.length then .val (.slice (some ⟨b, o + l * esz, none⟩) (h - l) (2 * esz + if h = m then 1 else 0)) s else .bad
      | _, _, _, _ => .bad
    | _ => .bad
  | .sliceStr x lo hi => match ev x with
    | some (.string t) => match optInt ev 0 lo, optInt ev t.size hi with
      | some l, some h => if l ≤ h ∧ h ≤ t.size then .val (.string (t.extract l h)) s else .bad
      | _, _ => .bad
    | _ => .bad
  | .fieldAddr off x => match ev x with
    | some (.pointer (some ⟨b, o, none⟩)) => .val (.pointer (some ⟨b, o + off, none⟩)) s
    | _ => .bad
  | .idxArr len esz x i => match ev x, ev i with
    | some (.pointer (some ⟨b, o, none⟩)), some (.int _ i) => if 0 ≤ i ∧ i < len then .val (.pointer (some ⟨b, o + i.toNat * esz, none⟩)) s else .bad
    | _, _ => .bad
  | .idxSl esz x i => match ev x, ev i with
    | some (.slice (some ⟨b, o, none⟩) n _), some (.int _ i) => if 0 ≤ i ∧ i < n then .val (.pointer (some ⟨b, o + i.toNat * esz, none⟩)) s else .bad
    | _, _ => .bad
  | .idxAgg len esz ag x i => match ev x, ev i with
    | some (.agg cs), some (.int _ i) =>
      if 0 ≤ i ∧ i < len then
        (if ag then (if i.toNat * esz + esz ≤ cs.size then .val (.agg (cs.extract (i.toNat * esz) (i.toNat * esz + esz))) s else .bad) else v1 (cs[i.toNat * esz]?))
      else .bad
    | _, _ => .bad
  | .idxStr x i => match ev x, ev i with
    | some (.string t), some (.int _ i) => if 0 ≤ i then (match t[i.toNat]? with | some c => .val (.int .u8 c.toNat) s | none => .bad) else .bad
    | _, _ => .bad
  | .field off n ag x => match ev x with
    | some (.agg cs) => if ag then (if off + n ≤ cs.size then .val (.agg (cs.extract off (off + n))) s else .bad) else v1 (cs[off]?)
    | _ => .bad
  | .extract x i => match ev x with
    | some (.tuple vs) => v1 (vs[i]?)
    | _ => .bad
  | .call f az => match ev f, getAll ev az with
    | some (.func (.func f) fi ca), some vs => .call f (fi.toList ++ vs ++ ca.toList)
    | some (.func (.yield b) _ _), some vs => .yield b vs
    | _, _ => .bad
  | .append esz sl x => match ev sl, ev x with
    | some (.slice none 0 c), some (.slice none 0 _) => .val (.slice none 0 c) s
    | some (.slice none 0 c), some (.slice (some ⟨b, o, none⟩) k cx) =>
      if k = 0 then .val (.slice none 0 c) s else
      if k ≤ 1048576 ∧ cx / 2 = esz then
        (match loadN s b o (k * esz) with
         | some new => .val (.slice (some ⟨s.next, 0, none⟩) k (2 * esz)) (s.push (.cells true new))
         | none => .bad)
      else .bad
    | some (.slice (some ⟨b, o, none⟩) n c), some (.slice none 0 _) => appendV esz s n b o c [] 0
    | some (.slice (some ⟨b, o, none⟩) n c), some (.slice (some ⟨bx, ox, none⟩) k cx) =>
      if cx / 2 = esz then (match loadN s bx ox (k * esz) with
        | some new => appendV esz s n b o c new k
        | none => .bad) else .bad
    | _, _ => .bad
  | .lenSl x => match ev x with
    | some (.slice _ n _) => .val (.int .i64 n) s
    | _ => .bad
  | .lenStr x => match ev x with
    | some (.string t) => .val (.int .i64 t.size) s
    | _ => .bad
  | .convStr x => match ev x with
    | some (.string t) => .val (.string t) s
    | _ => .bad
  | .minmax mx x y => match ev x, ev y with
    | some (.int k a), some (.int _ b) => .val (.int k (if mx then (if b > a then b else a) else (if b < a then b else a))) s
    | _, _ => .bad
  | .lookup t z m k ok => match ev m, ev k with
    | some (.map none), some kv => if (eqV t kv kv).isSome then .val (if ok then .tuple #[z, .bool false] else z) s else .bad
    | some (.map (some b)), some kv => match s.get b with
      | some (.map es _) => if (eqV t kv kv).isNone then .bad else match findEnt t kv es 0 with
        | some (some (_, v)) => .val (if ok then .tuple #[v, .bool true] else v) s
        | some none => .val (if ok then .tuple #[z, .bool false] else z) s
        | none => .bad
      | _ => .bad
    | _, _ => .bad
  | .mapUpdate t m k x => match ev m, ev k, ev x with
    | some (.map (some b)), some kv, some v => match s.get b with
      | some (.map es cl) => if (eqV t kv kv).isNone then .bad else match findEnt t kv es 0 with
        | some (some (i, _)) => .skip (s.set b (.map (es.modify i fun e => { e with key := kv, val := v }) cl))
        | some none => .skip (s.set b (.map (es ++ [⟨kv, v, cl⟩]) (cl + 1)))
        | none => .bad
      | _ => .bad
    | _, _, _ => .bad
  | .mapEntry t z m k => match ev m, ev k with
    | some (.map (some b)), some kv => match s.get b with
      | some (.map es cl) => if (eqV t kv kv).isNone then .bad else match findEnt t kv es 0 with
        | some (some (i, v)) => .val (.tuple #[v, .int .i64 (((es[i]?).map (·.born)).getD 0)]) (s.set b (.map (es.modify i fun e => { e with key := kv }) cl))
        | some none => .val (.tuple #[z, .int .i64 cl]) (s.set b (.map (es ++ [⟨kv, z, cl⟩]) (cl + 1)))
        | none => .bad
      | _ => .bad
    | _, _ => .bad
  | .entryStore m st x => match ev m, ev st, ev x with
    | some (.map (some b)), some (.int _ n), some v => match s.get b with
      | some (.map es cl) => match es.findIdx? (fun e => (e.born : Int) == n) with
        | some i => .skip (s.set b (.map (es.modify i fun e => { e with val := v }) cl))
        | none => .bad
      | _ => .bad
    | _, _, _ => .bad
  | .range m => match ev m with
    | some (.map (some b)) => match s.get b with
      | some (.map _ cl) => .val (.pointer (some ⟨s.next, 0, none⟩)) (s.push (.iter b cl [] cl))
      | _ => .bad
    | _ => .bad
  | .next it => match ev it with
    | some (.pointer (some ⟨r, 0, none⟩)) => match s.get r with
      | some (.iter m since seen last) => match s.get m with
        | some (.map es cl) => if !seen.isEmpty && !es.isEmpty && es.all (fun e => decide (e.born ≥ last)) then .bad else .any (nexts s r m since seen es cl)
        | _ => .bad
      | _ => .bad
    | _ => .bad
  | .entry it => match ev it with
    | some (.pointer (some ⟨r, 0, none⟩)) => match s.get r with
      | some (.iter m _ seen stepped) => match seen.getLast?, s.get m with
        | some st, some (.map es cl) => if cl = stepped then (match es.find? (fun e => e.born == st) with | some e => .val (.tuple #[e.key, e.val]) s | none => .bad) else .bad
        | _, _ => .bad
      | _ => .bad
    | _ => .bad
  | .lenMap m => match ev m with
    | some (.map none) => .val (.int .i64 0) s
    | some (.map (some b)) => match s.get b with
      | some (.map es _) => .val (.int .i64 es.length) s
      | _ => .bad
    | _ => .bad
  | .never => .bad

/-! ### Resolving an operation of the model -/

def szOf (P : Program) (t : TypeId) : Option Nat := (P.info? t).map (·.size)
def zeroOf (P : Program) (t : TypeId) : Option (List Value) :=
  match P.info? t with
  | some i => match i.zero with
    | some z => if constOkA z = true ∧ z.cells.size = i.size then some z.cells.toList else none
    | none => none
  | none => none
def zeroVal (P : Program) (t : TypeId) : Option Value :=
  match (P.info? t).bind (·.zero) with
  | some z => if constOkA z = true then some z else none
  | none => none
def aggOf (P : Program) (t : TypeId) : Option Bool :=
  match P.underlying t with
  | some (.struct _) | some (.array _ _) => some true
  | some _ => some false
  | none => none
/-- Does == at this type compare cell by cell? -/
def cellK (P : Program) (t : TypeId) : Option CK :=
  match P.underlying t with
  | some (.int _) => some .int
  | some .bool => some .bool
  | some .string => some .str
  | _ => none
/-- The fields of a struct, one cell each, in order, all plain. -/
def fieldKs (P : Program) : List Field → Nat → Option (List CK)
  | [], _ => some []
  | f :: fs, i => if f.offset = i ∧ f.name ≠ "_" then (match cellK P f.type, fieldKs P fs (i + 1) with
    | some k, some ks => some (k :: ks)
    | _, _ => none) else none
def keyT (P : Program) (t : TypeId) : Option KT :=
  match P.underlying t with
  | some (.struct fs) => if P.stoodInHeld t = false then (fieldKs P fs.toList 0).map .many else none
  | some (.array n e) => if szOf P e = some 1 then (cellK P e).map fun k => .many (List.replicate n k) else none
  | _ => (cellK P t).map .one
def eqT (P : Program) (t : TypeId) : Option KT :=
  match P.underlying t with
  | some .bool => some (.one .bool)
  | some (.pointer _) => some .ptr
  | some (.slice _) => some .slice
  | some (.struct _) | some (.array _ _) => if P.eqGuardType P.depth t = false then keyT P t else none
  | _ => none

def fieldParts (P : Program) (fs : Array Field) : List (Nat × Operand) → Option (List (Nat × Nat × Operand))
  | [] => some []
  | (i, x) :: rest => match fs[i]?, fieldParts P fs rest with
    | some f, some r => match szOf P f.type with
      | some n => some ((f.offset, n, x) :: r)
      | none => none
    | _, _ => none

def comp (P : Program) (o : Oper) : Option VOp :=
  match o.op with
  | .move x | .assign x => some (.mov x)
  | .pick c a b => some (.pick c a b)
  | .alloc t => (zeroOf P t).map .alloc
  | .box _ x => some (.box x)
  | .build t ps => match P.underlying t, zeroOf P t with
    | some (.struct fs), some z => if fs.toList.all (fun f => (szOf P f.type).isSome) then (fieldParts P fs ps.toList).map (.build z) else none
    | some (.array _ e), some z => (szOf P e).map fun n => .build z (ps.toList.map fun (i, x) => (i * n, n, x))
    | _, _ => none
  | .buildSlice t len ps => match P.underlying t with
    | some (.slice e) => match szOf P e, zeroOf P e with
      | some n, some z => if len * n ≤ 16777216 ∧ 0 < n then some (.buildSlice n len ((List.replicate len z).flatten) (ps.toList.map fun (i, x) => (i * n, n, x))) else none
      | _, _ => none
    | _ => none
  | .load t a => match aggOf P t, szOf P t with
    | some true, some n => some (.load (some n) a)
    | some false, some _ => some (.load none a)
    | _, _ => none
  | .store t a x => (szOf P t).map fun n => .store n a x
  | .nilCheck x => some (.nilCheck x)
  | .binOp op t x y _ => match P.underlying t with
    | some (.int _) => some (.bin op x y)
    | some .string => some (.bin op x y)
    | some _ => match op with
      | .eql => (eqT P t).map fun k => .eqb k false x y
      | .neq => (eqT P t).map fun k => .eqb k true x y
      | _ => none
    | none => none
  | .unOp .not _ x => some (.not x)
  | .unOp .neg _ x => some (.neg x)
  | .convert src dst x => match P.underlying src, P.underlying dst with
    | some (.int _), some (.int k) => some (.conv k x)
    | some .string, some .string => some (.convStr x)
    | some (.slice _), some (.slice _) => none
    | _, _ => none
  | .sliceToArrayPointer arr x => match P.underlying arr with
    | some (.array n _) => if 0 < n then some (.arrPtr n x) else none
    | _ => none
  | .makeFunc (.func f) first captured => some (.mkFunc f first.toList captured.toList)
  | .makeMap _ none => some .mkMap
  | .makeSlice t l c => match P.underlying t with
    | some (.slice e) => match szOf P e, zeroOf P e, P.info? e with
      | some n, some z, some i => if i.bytes ≤ 65536 ∧ 0 < n then some (.mkSlice n i.bytes z l c) else none
      | _, _, _ => none
    | _ => none
  | .slice t x lo hi mx => match P.underlying t with
    | some (.slice e) => (szOf P e).bind fun n => if mx.isSome = true → hi.isSome = true then some (.sliceSl n x lo hi mx) else none
    | some (.array n e) => (szOf P e).bind fun z => if 0 < n * z ∧ (mx.isSome = true → hi.isSome = true) then some (.sliceArr n z x lo hi mx) else none
    | some .string => match mx with | none => some (.sliceStr x lo hi) | _ => none
    | _ => none
  | .fieldAddr t x f => match P.underlying t with
    | some (.struct fs) => match fs[f]? with
      | some fd => match szOf P fd.type with
        | some n => if n ≠ 0 then some (.fieldAddr fd.offset x) else none
        | none => none
      | none => none
    | _ => none
  | .indexAddr t x i => match P.underlying t with
    | some (.array n e) => (szOf P e).map fun z => .idxArr n z x i
    | some (.slice e) => (szOf P e).map fun z => .idxSl z x i
    | _ => none
  | .index t x i => match P.underlying t with
    | some (.array n e) => match szOf P e, aggOf P e with
      | some z, some ag => some (.idxAgg n z ag x i)
      | _, _ => none
    | some .string => some (.idxStr x i)
    | _ => none
  | .field t x f => match P.underlying t with
    | some (.struct fs) => match fs[f]? with
      | some fd => match szOf P fd.type, aggOf P fd.type with
        | some n, some ag => some (.field fd.offset n ag x)
        | _, _ => none
      | none => none
    | _ => none
  | .extract x i => some (.extract x i)
  | .call c => match c.callee with
    | .value f => some (.call f c.args.toList)
    | .builtin .len => match c.args.toList, c.argTypes.toList with
      | [x], [t] => match P.underlying t with
        | some (.slice _) => some (.lenSl x)
        | some .string => some (.lenStr x)
        | some (.map _ _) => some (.lenMap x)
        | _ => none
      | _, _ => none
    | .builtin .append => match c.args.toList, c.argTypes.toList with
      | [x, y], [t, u] => match P.underlying t, P.underlying u with
        | some (.slice e), some (.slice _) => match szOf P e, zeroOf P e, P.info? e with
          | some n, some z, some i => if i.bytes ≤ 65536 ∧ 0 < n ∧ 0 < i.bytes then some (.append n x y) else none
          | _, _, _ => none
        | _, _ => none
      | _, _ => none
    | .builtin .min => match c.args.toList with
      | [x, y] => some (.minmax false x y)
      | _ => none
    | .builtin .max => match c.args.toList with
      | [x, y] => some (.minmax true x y)
      | _ => none
    | _ => none
  | .lookup t m k ok => match P.underlying t with
    | some (.map kt e) => match keyT P kt, zeroVal P e with | some q, some z => some (.lookup q z m k ok) | _, _ => none
    | _ => none
  | .mapUpdate t m k x => match P.underlying t with
    | some (.map kt _) => (keyT P kt).map fun q => .mapUpdate q m k x
    | _ => none
  | .insert t m k x => match P.underlying t with
    | some (.map kt _) => (keyT P kt).map fun q => .mapUpdate q m k x
    | _ => none
  | .mapEntry t m k => match P.underlying t with
    | some (.map kt e) => match keyT P kt, zeroVal P e with | some q, some z => some (.mapEntry q z m k) | _, _ => none
    | _ => none
  | .entryStore _ m s x => some (.entryStore m s x)
  | .range t m => match P.underlying t with
    | some (.map _ _) => some (.range m)
    | _ => none
  | .next it false => some (.next it)
  | .entry it => some (.entry it)
  | _ => none

end Go.Vm
