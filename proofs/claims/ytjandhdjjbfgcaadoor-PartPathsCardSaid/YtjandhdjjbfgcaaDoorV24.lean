/- Steps by simp: branches as implications, sizes by omega; sets of numbers as words of 64 bits. -/
import Derived.Test.YtjandhdjjbfgcaaDoorV23
import Derived.Test.YtjandhdjjbfgcaaDoorProg
import Derived.Lib.TrailingZeros
set_option linter.unusedSectionVars false
set_option linter.unusedSimpArgs false
set_option linter.unusedVariables false
/- Steps by simp: branches as implications, sizes by omega; sets of numbers as words of 64 bits. -/
namespace Go.Vm
variable [Laid] {P : Program}

section
variable {rd : Option Nat} {N : Nat} {K : VK} {fr : Fr} {m : List Nat} {s s' : St}

theorem condW_dec {p : Prop} [Decidable p] {a b : VC} {t} : condW P rd N (some (.bool (decide p))) a b K fr m s t = ((p → runW P rd N a K fr m s (tg _)) ∧ (¬ p → runW P rd N b K fr m s (tg _))) := by
  by_cases h : p <;> simp [condW, h]
theorem guardW_dect {p : Prop} [Decidable p] {d : Option Tmp} {op : VOp} {l : List (COp × List COp)} {t} : guardW P (some (.bool (decide p))) true d op l K m fr s t =
    ((p → resW P (vx op (ev fr) s) d l K m fr s (tg _)) ∧ (¬ p → vrunW P l K m (fput fr d undef) s (tg _))) := by
  by_cases h : p <;> simp [guardW, h]
theorem guardW_decf {p : Prop} [Decidable p] {d : Option Tmp} {op : VOp} {l : List (COp × List COp)} {t} : guardW P (some (.bool (decide p))) false d op l K m fr s t =
    ((p → vrunW P l K m (fput fr d undef) s (tg _)) ∧ (¬ p → resW P (vx op (ev fr) s) d l K m fr s (tg _))) := by
  by_cases h : p <;> simp [guardW, h]
theorem guardW_u {b : Bool} {d : Option Tmp} {op : VOp} {l : List (COp × List COp)} {t} : guardW P (some undef) b d op l K m fr s t = vrunW P l K m (fput fr d undef) s (tg _) := rfl

theorem condW_yes {p : Prop} [Decidable p] {a b : VC} {t} (h : p) : condW P rd N (some (.bool (decide p))) a b K fr m s t = runW P rd N a K fr m s (tg _) := by
  simp [condW, h]
theorem condW_no {p : Prop} [Decidable p] {a b : VC} {t} (h : ¬ p) : condW P rd N (some (.bool (decide p))) a b K fr m s t = runW P rd N b K fr m s (tg _) := by
  simp [condW, h]
theorem guardW_yest {p : Prop} [Decidable p] {d : Option Tmp} {op : VOp} {l : List (COp × List COp)} {t} (h : p) : guardW P (some (.bool (decide p))) true d op l K m fr s t = resW P (vx op (ev fr) s) d l K m fr s (tg _) := by
  simp [guardW, h]
theorem guardW_yesf {p : Prop} [Decidable p] {d : Option Tmp} {op : VOp} {l : List (COp × List COp)} {t} (h : p) : guardW P (some (.bool (decide p))) false d op l K m fr s t = vrunW P l K m (fput fr d undef) s (tg _) := by
  simp [guardW, h]
theorem guardW_not {p : Prop} [Decidable p] {d : Option Tmp} {op : VOp} {l : List (COp × List COp)} {t} (h : ¬ p) : guardW P (some (.bool (decide p))) true d op l K m fr s t = vrunW P l K m (fput fr d undef) s (tg _) := by
  simp [guardW, h]
theorem guardW_nof {p : Prop} [Decidable p] {d : Option Tmp} {op : VOp} {l : List (COp × List COp)} {t} (h : ¬ p) : guardW P (some (.bool (decide p))) false d op l K m fr s t = resW P (vx op (ev fr) s) d l K m fr s (tg _) := by
  simp [guardW, h]
theorem ite_yes {c : Prop} [Decidable c] {α : Type} {a b : α} (h : c) : (if c then a else b) = a := if_pos h
theorem ite_no {c : Prop} [Decidable c] {α : Type} {a b : α} (h : ¬ c) : (if c then a else b) = b := if_neg h

/-- A loop that counts up. -/
theorem loopUp {c : VC} {n : Nat} (I : Nat → Fr → List Nat → St → Prop) (h0 : I 0 fr m s)
    (hb : ∀ i fr m s, i < n → I i fr m s → c.run P rd N (thenK (I (i + 1)) K) fr m s)
    (he : ∀ fr m s, I n fr m s → c.run P rd N (thenK (fun _ _ _ => False) K) fr m s) : (VC.loop c).run P rd N K fr m s := by
  refine run_loop_inv (fun k fr m s => ∃ i, i + k = n ∧ I i fr m s) ?_ (n := n) ⟨0, by omega, h0⟩
  rintro k fr m s ⟨i, hi, h⟩
  by_cases hk : i < n
  · refine VC.run_mono (thenK_mono ?_ fun _ _ _ _ h => h) (hb i fr m s hk h)
    exact fun fr m s h' => ⟨k - 1, by omega, i + 1, by omega, h'⟩
  · have : i = n := by omega
    subst this
    exact VC.run_mono (thenK_mono (fun _ _ _ h => h.elim) fun _ _ _ _ h => h) (he fr m s h)
/-- A loop from any number on. -/
theorem loopFrom {c : VC} (lo n : Nat) (I : Nat → Fr → List Nat → St → Prop) (hlo : lo ≤ n) (h0 : I lo fr m s)
    (hb : ∀ i fr m s, lo ≤ i → i < n → I i fr m s → c.run P rd N (thenK (I (i + 1)) K) fr m s)
    (he : ∀ fr m s, I n fr m s → c.run P rd N (thenK (fun _ _ _ => False) K) fr m s) : (VC.loop c).run P rd N K fr m s := by
  refine run_loop_inv (fun k fr m s => ∃ i, lo ≤ i ∧ i + k = n ∧ I i fr m s) ?_ (n := n - lo) ⟨lo, by omega, by omega, h0⟩
  rintro k fr m s ⟨i, hl, hi, h⟩
  by_cases hk : i < n
  · refine VC.run_mono (thenK_mono ?_ fun _ _ _ _ h => h) (hb i fr m s hl hk h)
    exact fun fr m s h' => ⟨k - 1, by omega, i + 1, by omega, by omega, h'⟩
  · have : i = n := by omega
    subst this
    exact VC.run_mono (thenK_mono (fun _ _ _ h => h.elim) fun _ _ _ _ h => h) (he fr m s h)
/-- A loop with a state of ours, and a number that every pass lowers. -/
theorem loopBy {c : VC} {σ : Type} (I : σ → Fr → List Nat → St → Prop) (μ : σ → Nat) (x : σ) (h0 : I x fr m s)
    (hb : ∀ x fr m s, I x fr m s → c.run P rd N (thenK (fun fr m s => ∃ y, μ y < μ x ∧ I y fr m s) K) fr m s) : (VC.loop c).run P rd N K fr m s := by
  refine run_loop_inv (fun k fr m s => ∃ x, k = μ x ∧ I x fr m s) ?_ (n := μ x) ⟨x, rfl, h0⟩
  rintro k fr m s ⟨x, rfl, h⟩
  exact VC.run_mono (thenK_mono (fun fr m s ⟨y, h1, h2⟩ => ⟨μ y, h1, y, rfl, h2⟩) fun _ _ _ _ h => h) (hb x fr m s h)
end

/-! ### Operations, by parts -/
def o1 (x : Option Value) (s : St) : VR := match x with | some v => .val v s | none => .bad
theorem o1_some {v : Value} {s : St} : o1 (some v) s = .val v s := rfl
def bk (a : Option Addr) : Nat := match a with | some x => x.block | none => 0
def of (a : Option Addr) : Nat := match a with | some x => x.off | none => 0
theorem bk_some {x : Addr} : bk (some x) = x.block := rfl
theorem of_some {x : Addr} : of (some x) = x.off := rfl

/-- What each operation does. -/
theorem vx_mov {x : Operand} {ev : Operand → Option Value} {s : St} : vx (.mov x) ev s = o1 (ev x) s := rfl
theorem vx_pick {c a b : Operand} {ev : Operand → Option Value} {s : St} : vx (.pick c a b) ev s = match ev c with
    | some (.bool t) => o1 (if t then ev a else ev b) s
    | _ => .bad := rfl
theorem vx_alloc {z : List Value} {ev : Operand → Option Value} {s : St} : vx (.alloc z) ev s = .val (.pointer (some ⟨s.next, 0, none⟩)) (s.push (.cells true z)) := rfl
theorem vx_box {x : Operand} {ev : Operand → Option Value} {s : St} : vx (.box x) ev s = match ev x with
    | some v => .val (.pointer (some ⟨s.next, 0, none⟩)) (s.push (.cells true (vcells v)))
    | none => .bad := rfl
theorem vx_build {z : List Value} {ps : List (Nat × Nat × Operand)} {ev : Operand → Option Value} {s : St} : vx (.build z ps) ev s = match fillV ev z ps with
    | some cs => .val (.agg cs.toArray) s
    | none => .bad := rfl
theorem vx_buildSlice {esz n : Nat} {z : List Value} {ps : List (Nat × Nat × Operand)} {ev : Operand → Option Value} {s : St} : vx (.buildSlice esz n z ps) ev s = match fillV ev z ps with
    | some cs => .val (.slice (some ⟨s.next, 0, none⟩) n (2 * esz + 1)) (s.push (.cells true cs))
    | none => .bad := rfl
theorem vx_loadN {n : Nat} {a : Operand} {ev : Operand → Option Value} {s : St} : vx (.load (some n) a) ev s = match ev a with
    | some (.pointer (some ⟨b, o, none⟩)) => match loadN s b o n with
      | some cs => .val (.agg cs.toArray) s
      | none => .bad
    | _ => .bad := rfl
theorem vx_nilCheck {x : Operand} {ev : Operand → Option Value} {s : St} : vx (.nilCheck x) ev s = match ev x with
    | some (.pointer (some a)) => .val (.pointer (some a)) s
    | some (.func (.func f) fi ca) => .val (.func (.func f) fi ca) s
    | _ => .bad := rfl
theorem vx_bin {op : BinOp} {x y : Operand} {ev : Operand → Option Value} {s : St} : vx (.bin op x y) ev s = match ev x, ev y with
    | some a, some b => o1 (binV op a b) s
    | _, _ => .bad := rfl
theorem vx_eqb {t : KT} {n : Bool} {x y : Operand} {ev : Operand → Option Value} {s : St} : vx (.eqb t n x y) ev s = match ev x, ev y with
    | some a, some b => match eqV t a b with
      | some r => .val (.bool (if n then !r else r)) s
      | none => .bad
    | _, _ => .bad := rfl
theorem vx_not {x : Operand} {ev : Operand → Option Value} {s : St} : vx (.not x) ev s = match ev x with
    | some (.bool b) => .val (.bool (!b)) s
    | _ => .bad := rfl
theorem vx_neg {x : Operand} {ev : Operand → Option Value} {s : St} : vx (.neg x) ev s = match ev x with
    | some (.int k n) => .val (.int k (k.wrap (0 - n))) s
    | _ => .bad := rfl
theorem vx_conv {k : IntKind} {x : Operand} {ev : Operand → Option Value} {s : St} : vx (.conv k x) ev s = match ev x with
    | some (.int _ n) => .val (.int k (k.wrap n)) s
    | _ => .bad := rfl
theorem vx_arrPtr {n : Nat} {x : Operand} {ev : Operand → Option Value} {s : St} : vx (.arrPtr n x) ev s = match ev x with
    | some (.slice (some a) m _) => if n ≤ m then .val (.pointer (some a)) s else .bad
    | _ => .bad := rfl
theorem vx_mkFunc {f : FuncId} {fi ca : List Operand} {ev : Operand → Option Value} {s : St} : vx (.mkFunc f fi ca) ev s = match getAll ev fi, getAll ev ca with
    | some fi, some ca => .val (.func (.func f) fi.toArray ca.toArray) s
    | _, _ => .bad := rfl
theorem vx_mkMap {ev : Operand → Option Value} {s : St} : vx (.mkMap) ev s = .val (.map (some s.next)) (s.push (.map [] 0)) := rfl
theorem vx_mkSlice {esz u1 : Nat} {z : List Value} {l c : Operand} {ev : Operand → Option Value} {s : St} : vx (.mkSlice esz u1 z l c) ev s = match ev l, ev c with
    | some (.int _ l), some (.int _ c) =>
      if 0 ≤ l ∧ l ≤ c ∧ c ≤ 1048576 then .val (.slice (some ⟨s.next, 0, none⟩) l.toNat (2 * esz + if l = c then 1 else 0)) (s.push (.cells true ((List.replicate c.toNat z).flatten))) else .bad
    | _, _ => .bad := rfl
theorem vx_sliceSl {esz : Nat} {x : Operand} {lo hi mx : Option Operand} {ev : Operand → Option Value} {s : St} : vx (.sliceSl esz x lo hi mx) ev s = match ev x with
    | some (.slice none 0 c) => match optInt ev 0 lo, optInt ev 0 hi, optInt ev 0 mx with
      | some 0, some 0, some 0 => .val (.slice none 0 c) s
      | _, _, _ => .bad
    | some (.slice (some ⟨b, o, none⟩) n c) => match optInt ev 0 lo, optInt ev n hi with
      | some l, some h =>
        if l ≤ h ∧ h ≤ n ∧ c / 2 = esz then
          match mx with
          | none => .val (.slice (some ⟨b, o + l * esz, none⟩) (h - l) (2 * esz + if h = n then c % 2 else 0)) s
          | some y => match optInt ev 0 (some y) with
            | some m => if h ≤ m ∧ m ≤ n then .val (.slice (some ⟨b, o + l * esz, none⟩) (h - l) (2 * esz + if h = m then 1 else 0)) s else .bad
            | none => .bad
        else .bad
      | _, _ => .bad
    | _ => .bad := rfl
theorem vx_sliceArr {n esz : Nat} {x : Operand} {lo hi mx : Option Operand} {ev : Operand → Option Value} {s : St} : vx (.sliceArr n esz x lo hi mx) ev s = match ev x with
    | some (.pointer (some ⟨b, o, none⟩)) => match optInt ev 0 lo, optInt ev n hi, optInt ev n mx, s.get b with
      | some l, some h, some m, some (.cells _ cs) =>
        if l ≤ h ∧ h ≤ m ∧ m ≤ n ∧ o + n * esz ≤ cs.length then .val (.slice (some ⟨b, o + l * esz, none⟩) (h - l) (2 * esz + if h = m then 1 else 0)) s else .bad
      | _, _, _, _ => .bad
    | _ => .bad := rfl
theorem vx_sliceStr {x : Operand} {lo hi : Option Operand} {ev : Operand → Option Value} {s : St} : vx (.sliceStr x lo hi) ev s = match ev x with
    | some (.string t) => match optInt ev 0 lo, optInt ev t.size hi with
      | some l, some h => if l ≤ h ∧ h ≤ t.size then .val (.string (t.extract l h)) s else .bad
      | _, _ => .bad
    | _ => .bad := rfl
theorem vx_fieldAddr {off : Nat} {x : Operand} {ev : Operand → Option Value} {s : St} : vx (.fieldAddr off x) ev s = match ev x with
    | some (.pointer (some ⟨b, o, none⟩)) => .val (.pointer (some ⟨b, o + off, none⟩)) s
    | _ => .bad := rfl
theorem vx_idxAgg {len esz : Nat} {ag : Bool} {x i : Operand} {ev : Operand → Option Value} {s : St} : vx (.idxAgg len esz ag x i) ev s = match ev x, ev i with
    | some (.agg cs), some (.int _ i) =>
      if 0 ≤ i ∧ i < len then
        (if ag then (if i.toNat * esz + esz ≤ cs.size then .val (.agg (cs.extract (i.toNat * esz) (i.toNat * esz + esz))) s else .bad) else o1 (cs[i.toNat * esz]?) s)
      else .bad
    | _, _ => .bad := rfl
theorem vx_idxStr {x i : Operand} {ev : Operand → Option Value} {s : St} : vx (.idxStr x i) ev s = match ev x, ev i with
    | some (.string t), some (.int _ i) => if 0 ≤ i then (match t[i.toNat]? with | some c => .val (.int .u8 c.toNat) s | none => .bad) else .bad
    | _, _ => .bad := rfl
theorem vx_field {off n : Nat} {ag : Bool} {x : Operand} {ev : Operand → Option Value} {s : St} : vx (.field off n ag x) ev s = match ev x with
    | some (.agg cs) => if ag then (if off + n ≤ cs.size then .val (.agg (cs.extract off (off + n))) s else .bad) else o1 (cs[off]?) s
    | _ => .bad := rfl
theorem vx_extract {x : Operand} {i : Nat} {ev : Operand → Option Value} {s : St} : vx (.extract x i) ev s = match ev x with
    | some (.tuple vs) => o1 (vs[i]?) s
    | _ => .bad := rfl
theorem vx_call {f : Operand} {az : List Operand} {ev : Operand → Option Value} {s : St} : vx (.call f az) ev s = match ev f, getAll ev az with
    | some (.func (.func f) fi ca), some vs => .call f (fi.toList ++ vs ++ ca.toList)
    | some (.func (.yield b) _ _), some vs => .yield b vs
    | _, _ => .bad := rfl
theorem vx_append {esz : Nat} {sl x : Operand} {ev : Operand → Option Value} {s : St} : vx (.append esz sl x) ev s = match ev sl, ev x with
    | some (.slice none 0 c), some (.slice none 0 _) => .val (.slice none 0 c) s
    | some (.slice none 0 c), some (.slice (some ⟨b, o, none⟩) k cx) =>
      if k = 0 then .val (.slice none 0 c) s else
      if k ≤ 1048576 ∧ cx / 2 = esz then
        (match loadN s b o (k * esz) with
         | some new => .val (.slice (some ⟨s.next, 0, none⟩) k (2 * esz)) (s.push (.cells true new))
         | none => .bad)
      else .bad
    | some (.slice (some ⟨b, o, none⟩) n c), some (.slice none 0 _) => appendV esz s n b o c [] 0
    | some (.slice (some ⟨b, o, none⟩) n c), some (.slice (some ⟨bx, ox, none⟩) k cx) =>
      if cx / 2 = esz then (match loadN s bx ox (k * esz) with
        | some new => appendV esz s n b o c new k
        | none => .bad) else .bad
    | _, _ => .bad := rfl
theorem vx_lenSl {x : Operand} {ev : Operand → Option Value} {s : St} : vx (.lenSl x) ev s = match ev x with
    | some (.slice _ n _) => .val (.int .i64 n) s
    | _ => .bad := rfl
theorem vx_lenStr {x : Operand} {ev : Operand → Option Value} {s : St} : vx (.lenStr x) ev s = match ev x with
    | some (.string t) => .val (.int .i64 t.size) s
    | _ => .bad := rfl
theorem vx_convStr {x : Operand} {ev : Operand → Option Value} {s : St} : vx (.convStr x) ev s = match ev x with
    | some (.string t) => .val (.string t) s
    | _ => .bad := rfl
theorem vx_minmax {mx : Bool} {x y : Operand} {ev : Operand → Option Value} {s : St} : vx (.minmax mx x y) ev s = match ev x, ev y with
    | some (.int k a), some (.int _ b) => .val (.int k (if mx then (if b > a then b else a) else (if b < a then b else a))) s
    | _, _ => .bad := rfl
theorem vx_lookup {t : KT} {z : Value} {m k : Operand} {ok : Bool} {ev : Operand → Option Value} {s : St} : vx (.lookup t z m k ok) ev s = match ev m, ev k with
    | some (.map none), some kv => if (eqV t kv kv).isSome then .val (if ok then .tuple #[z, .bool false] else z) s else .bad
    | some (.map (some b)), some kv => match s.get b with
      | some (.map es _) => if (eqV t kv kv).isNone then .bad else match findEnt t kv es 0 with
        | some (some (_, v)) => .val (if ok then .tuple #[v, .bool true] else v) s
        | some none => .val (if ok then .tuple #[z, .bool false] else z) s
        | none => .bad
      | _ => .bad
    | _, _ => .bad := rfl
theorem vx_mapUpdate {t : KT} {m k x : Operand} {ev : Operand → Option Value} {s : St} : vx (.mapUpdate t m k x) ev s = match ev m, ev k, ev x with
    | some (.map (some b)), some kv, some v => match s.get b with
      | some (.map es cl) => if (eqV t kv kv).isNone then .bad else match findEnt t kv es 0 with
        | some (some (i, _)) => .skip (s.set b (.map (es.modify i fun e => { e with key := kv, val := v }) cl))
        | some none => .skip (s.set b (.map (es ++ [⟨kv, v, cl⟩]) (cl + 1)))
        | none => .bad
      | _ => .bad
    | _, _, _ => .bad := rfl
theorem vx_mapEntry {t : KT} {z : Value} {m k : Operand} {ev : Operand → Option Value} {s : St} : vx (.mapEntry t z m k) ev s = match ev m, ev k with
    | some (.map (some b)), some kv => match s.get b with
      | some (.map es cl) => if (eqV t kv kv).isNone then .bad else match findEnt t kv es 0 with
        | some (some (i, v)) => .val (.tuple #[v, .int .i64 (((es[i]?).map (·.born)).getD 0)]) (s.set b (.map (es.modify i fun e => { e with key := kv }) cl))
        | some none => .val (.tuple #[z, .int .i64 cl]) (s.set b (.map (es ++ [⟨kv, z, cl⟩]) (cl + 1)))
        | none => .bad
      | _ => .bad
    | _, _ => .bad := rfl
theorem vx_entryStore {m st x : Operand} {ev : Operand → Option Value} {s : St} : vx (.entryStore m st x) ev s = match ev m, ev st, ev x with
    | some (.map (some b)), some (.int _ n), some v => match s.get b with
      | some (.map es cl) => match es.findIdx? (fun e => (e.born : Int) == n) with
        | some i => .skip (s.set b (.map (es.modify i fun e => { e with val := v }) cl))
        | none => .bad
      | _ => .bad
    | _, _, _ => .bad := rfl
theorem vx_range {m : Operand} {ev : Operand → Option Value} {s : St} : vx (.range m) ev s = match ev m with
    | some (.map (some b)) => match s.get b with
      | some (.map _ cl) => .val (.pointer (some ⟨s.next, 0, none⟩)) (s.push (.iter b cl [] cl))
      | _ => .bad
    | _ => .bad := rfl
theorem vx_next {it : Operand} {ev : Operand → Option Value} {s : St} : vx (.next it) ev s = match ev it with
    | some (.pointer (some ⟨r, 0, none⟩)) => match s.get r with
      | some (.iter m since seen last) => match s.get m with
        | some (.map es cl) => if !seen.isEmpty && !es.isEmpty && es.all (fun e => decide (e.born ≥ last)) then .bad else .any (nexts s r m since seen es cl)
        | _ => .bad
      | _ => .bad
    | _ => .bad := rfl
theorem vx_entry {it : Operand} {ev : Operand → Option Value} {s : St} : vx (.entry it) ev s = match ev it with
    | some (.pointer (some ⟨r, 0, none⟩)) => match s.get r with
      | some (.iter m _ seen stepped) => match seen.getLast?, s.get m with
        | some st, some (.map es cl) => if cl = stepped then (match es.find? (fun e => e.born == st) with | some e => .val (.tuple #[e.key, e.val]) s | none => .bad) else .bad
        | _, _ => .bad
      | _ => .bad
    | _ => .bad := rfl
theorem vx_lenMap {m : Operand} {ev : Operand → Option Value} {s : St} : vx (.lenMap m) ev s = match ev m with
    | some (.map none) => .val (.int .i64 0) s
    | some (.map (some b)) => match s.get b with
      | some (.map es _) => .val (.int .i64 es.length) s
      | _ => .bad
    | _ => .bad := rfl
theorem vx_never {ev : Operand → Option Value} {s : St} : vx (.never) ev s = .bad := rfl

def idxS (esz : Nat) (x i : Option Value) (s : St) : VR := match x, i with
    | some (.slice (some ⟨b, o, none⟩) n _), some (.int _ i) => if 0 ≤ i ∧ i < n then .val (.pointer (some ⟨b, o + i.toNat * esz, none⟩)) s else .bad
    | _, _ => .bad
theorem vx_idxSl {esz : Nat} {x i : Operand} {ev : Operand → Option Value} {s : St} : vx (.idxSl esz x i) ev s = idxS esz (ev x) (ev i) s := rfl
theorem idxS_lit {esz b o n c : Nat} {k : IntKind} {i : Int} {s : St} (h0 : 0 ≤ i) (h1 : i < n) : idxS esz (some (.slice (some ⟨b, o, none⟩) n c)) (some (.int k i)) s = .val (.pointer (some ⟨b, o + i.toNat * esz, none⟩)) s := by
  simp only [idxS, if_pos (And.intro h0 h1)]
theorem idxS_ok {esz n c : Nat} {a : Option Addr} {k : IntKind} {i : Int} {s : St} (h0 : 0 ≤ i) (h1 : i < n) (ha : n ≠ 0 → a = some ⟨bk a, of a, none⟩) : idxS esz (some (.slice a n c)) (some (.int k i)) s = .val (.pointer (some ⟨bk a, of a + i.toNat * esz, none⟩)) s := by
  rw [ha (by omega)]; exact idxS_lit h0 h1
def idxA (len esz : Nat) (x i : Option Value) (s : St) : VR := match x, i with
    | some (.pointer (some ⟨b, o, none⟩)), some (.int _ i) => if 0 ≤ i ∧ i < len then .val (.pointer (some ⟨b, o + i.toNat * esz, none⟩)) s else .bad
    | _, _ => .bad
theorem vx_idxArr {len esz : Nat} {x i : Operand} {ev : Operand → Option Value} {s : St} : vx (.idxArr len esz x i) ev s = idxA len esz (ev x) (ev i) s := rfl
theorem idxA_ok {len esz b o : Nat} {k : IntKind} {i : Int} {s : St} (h0 : 0 ≤ i) (h1 : i < len) : idxA len esz (some (.pointer (some ⟨b, o, none⟩))) (some (.int k i)) s = .val (.pointer (some ⟨b, o + i.toNat * esz, none⟩)) s := by
  simp only [idxA, if_pos (And.intro h0 h1)]
def ldV (x : Option Value) (s : St) : VR := match x with
    | some (.pointer (some ⟨b, o, none⟩)) => o1 (load1 s b o) s
    | _ => .bad
theorem vx_load1 {a : Operand} {ev : Operand → Option Value} {s : St} : vx (.load none a) ev s = ldV (ev a) s := rfl
theorem ldV_ptr {b o : Nat} {s : St} : ldV (some (.pointer (some ⟨b, o, none⟩))) s = o1 (load1 s b o) s := rfl
def stV (n : Nat) (a x : Option Value) (s : St) : VR := match a, x with
    | some (.pointer (some ⟨b, o, none⟩)), some v => if (vcells v).length = n then (match storeN s b o (vcells v) with | some s' => .skip s' | none => .bad) else .bad
    | _, _ => .bad
theorem vx_store {n : Nat} {a x : Operand} {ev : Operand → Option Value} {s : St} : vx (.store n a x) ev s = stV n (ev a) (ev x) s := rfl
def one (v : Value) : Prop := vcells v = [v] ∧ Value.oneCell' v = true
theorem one_int {k : IntKind} {n : Int} : one (.int k n) := ⟨rfl, rfl⟩
theorem one_bool {b : Bool} : one (.bool b) := ⟨rfl, rfl⟩
theorem one_slice {a : Option Addr} {n c : Nat} : one (.slice a n c) := ⟨rfl, rfl⟩
theorem one_string {x : ByteArray} : one (.string x) := ⟨rfl, rfl⟩
theorem one_ptr {a : Option Addr} : one (.pointer a) := ⟨rfl, rfl⟩
theorem one_map {a : Option Nat} : one (.map a) := ⟨rfl, rfl⟩
theorem one_func {f fi ca} : one (.func f fi ca) := ⟨rfl, rfl⟩
theorem setRange_one {cs : List Value} {o : Nat} {v : Value} : setRange cs o [v] = cs.set o v := rfl
/-- A store of one cell into a block that is known. -/
theorem stV_one {b o : Nat} {s : St} {cs : List Value} {v : Value} (h : s.get b = some (.cells true cs)) (ho : o < cs.length) (hv : one v) :
    stV 1 (some (.pointer (some ⟨b, o, none⟩))) (some v) s = .skip (s.set b (.cells true (cs.set o v))) := by
  simp only [stV, hv.1, List.length_singleton, if_true]
  rw [storeN_own (vs := [v]) h (by simp; omega) (by simp [oneCells, hv.2])]
  rfl
theorem stV_many {n b o : Nat} {s : St} {cs vs : List Value} (h : s.get b = some (.cells true cs)) (hn : vs.length = n) (ho : o + n ≤ cs.length) (hv : oneCells vs = true) :
    stV n (some (.pointer (some ⟨b, o, none⟩))) (some (.agg vs.toArray)) s = .skip (s.set b (.cells true (setRange cs o vs))) := by
  simp only [stV, vcells, hn, if_true]
  rw [storeN_own (vs := vs) h (by omega) hv]

/-! ### Reads of states that grew -/
theorem load1_get {s : St} {b o : Nat} : load1 s b o = match s.get b with | some (.cells _ cs) => cs[o]? | _ => none := rfl
theorem load1_set_ne {s : St} {b b' o : Nat} {x : Blk} (h : b' ≠ b) : load1 (s.set b x) b' o = load1 s b' o := by simp only [load1_get, St.get_set_ne s x h]
theorem load1_set_same {s : St} {b o : Nat} {own : Bool} {cs : List Value} : load1 (s.set b (.cells own cs)) b o = cs[o]? := by simp only [load1_get, St.get_set_same]
theorem load1_push_ne {s : St} {b o : Nat} {x : Blk} (h : b ≠ s.next) : load1 (s.push x) b o = load1 s b o := by simp only [load1_get, St.get_push_ne s x h]
theorem load1_push_same {s : St} {o : Nat} {own : Bool} {cs : List Value} : load1 (s.push (.cells own cs)) s.next o = cs[o]? := by simp only [load1_get, St.get_push_same]

/-! ### Slices -/
/-- What a slice holds, cell by cell. -/
structure SlAt (s : St) (esz : Nat) (a : Option Addr) (n c : Nat) (vs : List Value) : Prop where
  len : vs.length = n * esz
  adr : (a = none ∧ n = 0) ∨ (a = some ⟨bk a, of a, none⟩ ∧ c / 2 = esz)
  rd : ∀ (j : Nat) (h : j < vs.length), load1 s (bk a) (of a + j) = some vs[j]
theorem SlAt.at {s : St} {esz n c : Nat} {a : Option Addr} {vs : List Value} (h : SlAt s esz a n c vs) : n ≠ 0 → a = some ⟨bk a, of a, none⟩ := by
  intro hn
  rcases h.adr with ⟨_, h0⟩ | ⟨h1, _⟩
  · exact absurd h0 hn
  · exact h1
theorem SlAt.mono {s t : St} {esz n c : Nat} {a : Option Addr} {vs : List Value} (h : SlAt s esz a n c vs) (hs : s.WF) (k : Ext s t) : SlAt t esz a n c vs :=
  ⟨h.len, h.adr, fun j hj => k.load1 hs (h.rd j hj)⟩
theorem SlAt.nil (s : St) (esz c : Nat) : SlAt s esz none 0 c [] := ⟨by simp, .inl ⟨rfl, rfl⟩, fun j h => absurd h (by simp)⟩

theorem loadN_of {s : St} {b o : Nat} : ∀ {vs : List Value}, vs ≠ [] → (∀ (j : Nat) (h : j < vs.length), load1 s b (o + j) = some vs[j]) → loadN s b o vs.length = some vs := by
  intro vs hne h
  have hpos : 0 < vs.length := List.length_pos_iff.2 hne
  have h0 := h 0 hpos
  unfold load1 at h0
  cases hb : s.get b with
  | none => rw [hb] at h0; cases h0
  | some blk =>
    rw [hb] at h0
    cases blk <;> try (cases h0; done)
    rename_i own cs
    have hl : ∀ (j : Nat) (hj : j < vs.length), cs[o + j]? = some vs[j] := fun j hj => by
      have := h j hj; unfold load1 at this; rw [hb] at this; exact this
    have hlen : o + vs.length ≤ cs.length := by
      have := (List.getElem?_eq_some_iff.1 (hl (vs.length - 1) (by omega))).1
      omega
    rw [loadN_own hb hlen]
    congr 1
    refine List.ext_getElem (by simp; omega) fun i h1 h2 => ?_
    have := (List.getElem?_eq_some_iff.1 (hl i h2)).2
    simp only [List.getElem_take, List.getElem_drop]
    exact this

end Go.Vm
/- Words of 64 bits as sets; conversions. -/
namespace Go.Vm
variable {P : Program}
/-! ### Numbers -/
theorem bin_lss {k : IntKind} {a b : Int} : binV .lss (.int k a) (.int k b) = some (.bool (decide (a < b))) := by simp [binV]
theorem bin_leq {k : IntKind} {a b : Int} : binV .leq (.int k a) (.int k b) = some (.bool (decide (a ≤ b))) := by simp [binV]
theorem bin_gtr {k : IntKind} {a b : Int} : binV .gtr (.int k a) (.int k b) = some (.bool (decide (b < a))) := by simp [binV]
theorem bin_geq {k : IntKind} {a b : Int} : binV .geq (.int k a) (.int k b) = some (.bool (decide (b ≤ a))) := by simp [binV]
theorem bin_eql {k : IntKind} {a b : Int} : binV .eql (.int k a) (.int k b) = some (.bool (decide (a = b))) := by simp [binV]; rfl
theorem bin_neq {k : IntKind} {a b : Int} : binV .neq (.int k a) (.int k b) = some (.bool (decide (¬ a = b))) := by simp [binV, bne]; rfl
theorem bin_add {a b : Int} (h1 : -9223372036854775808 ≤ a + b) (h2 : a + b < 9223372036854775808) : binV .add (.int .i64 a) (.int .i64 b) = some (.int .i64 (a + b)) := by
  simp only [binV, if_true]; rw [IntKind.wrap_i64]; congr 2; omega
theorem bin_sub {a b : Int} (h1 : -9223372036854775808 ≤ a - b) (h2 : a - b < 9223372036854775808) : binV .sub (.int .i64 a) (.int .i64 b) = some (.int .i64 (a - b)) := by
  simp only [binV, if_true]; rw [IntKind.wrap_i64]; congr 2; omega
theorem bin_mul {a b : Int} (h1 : -9223372036854775808 ≤ a * b) (h2 : a * b < 9223372036854775808) : binV .mul (.int .i64 a) (.int .i64 b) = some (.int .i64 (a * b)) := by
  simp only [binV, if_true]; rw [IntKind.wrap_i64]; congr 2; omega

/-! ### Words -/
theorem ofInt_toInt (x : BitVec 64) : BitVec.ofInt 64 x.toInt = x := by simp
theorem wrap_toNat (x : BitVec 64) : IntKind.i64.wrap (x.toNat : Int) = x.toInt := by
  rw [IntKind.wrap_i64, BitVec.toInt_eq_toNat_cond]
  have := x.isLt
  split <;> omega
theorem bin_or {x y : BitVec 64} : binV .or (.int .i64 x.toInt) (.int .i64 y.toInt) = some (.int .i64 (x ||| y).toInt) := by
  show some (Value.int _ (IntKind.i64.wrap ((BitVec.ofInt 64 x.toInt ||| BitVec.ofInt 64 y.toInt).toNat : Int))) = _
  rw [ofInt_toInt, ofInt_toInt, wrap_toNat]
theorem bin_and {x y : BitVec 64} : binV .and (.int .i64 x.toInt) (.int .i64 y.toInt) = some (.int .i64 (x &&& y).toInt) := by
  show some (Value.int _ (IntKind.i64.wrap ((BitVec.ofInt 64 x.toInt &&& BitVec.ofInt 64 y.toInt).toNat : Int))) = _
  rw [ofInt_toInt, ofInt_toInt, wrap_toNat]
theorem bin_xor {x y : BitVec 64} : binV .xor (.int .i64 x.toInt) (.int .i64 y.toInt) = some (.int .i64 (x ^^^ y).toInt) := by
  show some (Value.int _ (IntKind.i64.wrap ((BitVec.ofInt 64 x.toInt ^^^ BitVec.ofInt 64 y.toInt).toNat : Int))) = _
  rw [ofInt_toInt, ofInt_toInt, wrap_toNat]
theorem bin_andNot {x y : BitVec 64} : binV .andNot (.int .i64 x.toInt) (.int .i64 y.toInt) = some (.int .i64 (x &&& ~~~ y).toInt) := by
  show some (Value.int _ (IntKind.i64.wrap ((BitVec.ofInt 64 x.toInt &&& ~~~ BitVec.ofInt 64 y.toInt).toNat : Int))) = _
  rw [ofInt_toInt, ofInt_toInt, wrap_toNat]
theorem int_one : (1 : Int) = (1#64).toInt := rfl
theorem int_zero : (0 : Int) = (0#64).toInt := rfl
theorem bin_and_one {x : BitVec 64} : binV .and (.int .i64 x.toInt) (.int .i64 1) = some (.int .i64 (x &&& 1#64).toInt) := bin_and (y := 1#64)
theorem wrap_toInt (x : BitVec 64) (n : Int) (h : ∃ k : Int, n = x.toInt + k * 18446744073709551616) : IntKind.i64.wrap n = x.toInt := by
  obtain ⟨k, rfl⟩ := h
  rw [IntKind.wrap_i64]
  have h1 := BitVec.le_toInt x
  have h2 := BitVec.toInt_lt (x := x)
  omega
theorem pow2_min {j : Nat} (x : BitVec 64) : ∃ k : Int, x.toInt * 2 ^ (min j 64) = (x <<< j).toInt + k * 18446744073709551616 := by
  have key : ∀ (a b : Int), a % 18446744073709551616 = b % 18446744073709551616 → ∃ k : Int, a = b + k * 18446744073709551616 := fun a b h => ⟨a / 18446744073709551616 - b / 18446744073709551616, by omega⟩
  apply key
  have e1 : (x <<< j).toInt % 18446744073709551616 = ((x <<< j).toNat : Int) % 18446744073709551616 := by
    rw [BitVec.toInt_eq_toNat_cond]; split <;> omega
  have e2 : x.toInt % 18446744073709551616 = (x.toNat : Int) % 18446744073709551616 := by
    rw [BitVec.toInt_eq_toNat_cond]; split <;> omega
  rw [e1, Int.mul_emod, e2, ← Int.mul_emod, BitVec.toNat_shiftLeft, Nat.shiftLeft_eq]
  by_cases h : j ≤ 64
  · rw [Nat.min_eq_left h]
    have : ((x.toNat * 2 ^ j % 2 ^ 64 : Nat) : Int) = (x.toNat : Int) * 2 ^ j % 18446744073709551616 := by simp
    rw [this]; omega
  · rw [Nat.min_eq_right (by omega)]
    obtain ⟨d, rfl⟩ : ∃ d, j = 64 + d := ⟨j - 64, by omega⟩
    have : ((x.toNat * 2 ^ (64 + d) % 2 ^ 64 : Nat) : Int) = 0 := by
      rw [Nat.pow_add, ← Nat.mul_assoc, Nat.mul_comm x.toNat, Nat.mul_assoc, Nat.mul_mod_right]; rfl
    rw [this]
    have e3 : (2 : Int) ^ 64 = 18446744073709551616 := by decide
    rw [e3]; simp
theorem bin_shl {x : BitVec 64} {k : IntKind} {j : Nat} : binV .shl (.int .i64 x.toInt) (.int k (j : Int)) = some (.int .i64 (x <<< j).toInt) := by
  show (if (j : Int) < 0 then none else some (Value.int _ (IntKind.i64.wrap (x.toInt * 2 ^ (min (j : Int).toNat 64))))) = _
  rw [if_neg (by omega), Int.toNat_natCast, wrap_toInt _ _ (pow2_min x)]
theorem bin_shl_one {k : IntKind} {j : Nat} : binV .shl (.int .i64 1) (.int k (j : Int)) = some (.int .i64 (BitVec.twoPow 64 j).toInt) := bin_shl (x := 1#64)
theorem bin_shr {x : BitVec 64} {k : IntKind} {j : Nat} : binV .shr (.int .i64 x.toInt) (.int k (j : Int)) = some (.int .i64 (x.sshiftRight j).toInt) := by
  show (if (j : Int) < 0 then none else some (Value.int _ (x.toInt.fdiv (2 ^ (min (j : Int).toNat 64))))) = _
  rw [if_neg (by omega), Int.toNat_natCast]
  congr 2
  rw [BitVec.toInt_sshiftRight, Int.fdiv_eq_ediv_of_nonneg _ (Int.pow_nonneg (by decide))]
  rw [Int.shiftRight_eq_div_pow]
  by_cases h : j ≤ 64
  · rw [Nat.min_eq_left h, Int.natCast_pow]; rfl
  · rw [Nat.min_eq_right (by omega)]
    have h1 := BitVec.le_toInt x
    have h2 := BitVec.toInt_lt (x := x)
    obtain ⟨d, rfl⟩ : ∃ d, j = 64 + d := ⟨j - 64, by omega⟩
    have e3 : (2 : Int) ^ 64 = 18446744073709551616 := by decide
    have hp : (1 : Int) ≤ 2 ^ d := by
      have := Nat.one_le_two_pow (n := d)
      have : ((1 : Nat) : Int) ≤ ((2 ^ d : Nat) : Int) := by exact_mod_cast this
      simpa using this
    rw [e3]
    have hb : (18446744073709551616 : Int) ≤ ((2 ^ (64 + d) : Nat) : Int) := by
      have : ((2 ^ (64 + d) : Nat) : Int) = 18446744073709551616 * 2 ^ d := by
        rw [Nat.pow_add, Int.natCast_mul, Int.natCast_pow 2 d]; rfl
      rw [this]; omega
    generalize ((2 ^ (64 + d) : Nat) : Int) = B at *
    by_cases hx : 0 ≤ x.toInt
    · rw [Int.ediv_eq_zero_of_lt hx (by omega), Int.ediv_eq_zero_of_lt hx (by omega)]
    · have a1 : x.toInt / 18446744073709551616 = -1 := by omega
      rw [a1]
      symm
      rw [Int.ediv_eq_iff_of_pos (by omega)]
      constructor <;> omega

theorem bin_subw {x y : BitVec 64} : binV .sub (.int .i64 x.toInt) (.int .i64 y.toInt) = some (.int .i64 (x - y).toInt) := by
  show some (Value.int _ (IntKind.i64.wrap (x.toInt - y.toInt))) = _
  rw [wrap_toInt (x - y)]
  rw [BitVec.toInt_sub, Int.bmod_def]
  refine ⟨if (x.toInt - y.toInt) % 2 ^ 64 < (2 ^ 64 + 1) / 2 then (x.toInt - y.toInt) / 2 ^ 64 else (x.toInt - y.toInt) / 2 ^ 64 + 1, ?_⟩
  simp only [show ((2 ^ 64 : Nat) : Int) = 18446744073709551616 from rfl, show (2 : Int) ^ 64 = 18446744073709551616 from rfl]
  split <;> omega
theorem bin_subw_one {x : BitVec 64} : binV .sub (.int .i64 x.toInt) (.int .i64 1) = some (.int .i64 (x - 1#64).toInt) := bin_subw (y := 1#64)
theorem bin_addw {x y : BitVec 64} : binV .add (.int .i64 x.toInt) (.int .i64 y.toInt) = some (.int .i64 (x + y).toInt) := by
  show some (Value.int _ (IntKind.i64.wrap (x.toInt + y.toInt))) = _
  rw [wrap_toInt (x + y)]
  rw [BitVec.toInt_add, Int.bmod_def]
  refine ⟨if (x.toInt + y.toInt) % 2 ^ 64 < (2 ^ 64 + 1) / 2 then (x.toInt + y.toInt) / 2 ^ 64 else (x.toInt + y.toInt) / 2 ^ 64 + 1, ?_⟩
  simp only [show ((2 ^ 64 : Nat) : Int) = 18446744073709551616 from rfl, show (2 : Int) ^ 64 = 18446744073709551616 from rfl]
  split <;> omega
theorem wrap_negw {x : BitVec 64} : IntKind.i64.wrap (0 - x.toInt) = (-x).toInt := by
  have := bin_subw (x := 0#64) (y := x)
  simp only [binV, if_true, Option.some.injEq, Value.int.injEq, true_and] at this
  rw [show (0 : Int) = (0#64).toInt from rfl, this]
  simp
theorem wrap_u64w {x : BitVec 64} : IntKind.u64.wrap x.toInt = (x.toNat : Int) := by
  have h : ∀ n : Int, IntKind.u64.wrap n = n % 18446744073709551616 := fun n => by simp [IntKind.wrap, IntKind.bits, IntKind.signed]
  rw [h, BitVec.toInt_eq_toNat_cond]; have := x.isLt; split <;> omega
theorem wrap_u64 {n : Int} (h0 : 0 ≤ n) (h1 : n < 18446744073709551616) : IntKind.u64.wrap n = n := by
  have h : IntKind.u64.wrap n = n % 18446744073709551616 := by simp [IntKind.wrap, IntKind.bits, IntKind.signed]
  rw [h]; omega
theorem wrap_i64' {n : Int} (h0 : -9223372036854775808 ≤ n) (h1 : n < 9223372036854775808) : IntKind.i64.wrap n = n := by
  rw [IntKind.wrap_i64]; omega
theorem wrap_i64w {x : BitVec 64} : IntKind.i64.wrap x.toInt = x.toInt := wrap_toInt x _ ⟨0, by simp⟩
theorem bin_rem {k : IntKind} {a b : Int} (h : b ≠ 0) : binV .rem (.int k a) (.int k b) = some (.int k (a.tmod b)) := by simp [binV, h]

/-- Is the number one of the set's? -/
theorem bit_and {x : BitVec 64} {j : Nat} (h : j < 64) : ((x.sshiftRight j &&& 1#64).toInt = 1) = (x.getLsbD j = true) := by
  have e : x.sshiftRight j &&& 1#64 = if x.getLsbD j then 1#64 else 0#64 := by
    apply BitVec.eq_of_getLsbD_eq
    intro i hi
    simp only [BitVec.getLsbD_and, BitVec.getLsbD_sshiftRight, BitVec.getLsbD_one]
    by_cases h0 : i = 0
    · subst h0; cases hx : x.getLsbD j <;> simp [h, hx]
    · cases hx : x.getLsbD j <;> simp [h0, Ne.symm h0]
  rw [e]
  cases x.getLsbD j <;> simp
theorem bit_mod {x : BitVec 64} {j : Nat} (h : 0 ≤ x.toInt) : ((x.sshiftRight j).toInt.tmod 2 = 1) = (x.getLsbD j = true) := by
  rw [BitVec.toInt_sshiftRight, Int.shiftRight_eq_div_pow]
  have hx : x.toInt = (x.toNat : Int) := by
    rw [BitVec.toInt_eq_toNat_cond] at h ⊢; have := x.isLt; split at h <;> omega
  rw [hx, ← Int.natCast_ediv]
  have : BitVec.getLsbD x j = x.toNat.testBit j := rfl
  rw [this, Nat.testBit_eq_decide_div_mod_eq]
  have e : (((x.toNat / 2 ^ j : Nat) : Int).tmod 2) = ((x.toNat / 2 ^ j % 2 : Nat) : Int) := by
    rw [Int.tmod_eq_emod_of_nonneg (Int.natCast_nonneg _)]; omega
  rw [e]
  simp only [decide_eq_true_eq, eq_iff_iff]
  omega
theorem toInt_eq_zero {x : BitVec 64} : (x.toInt = 0) = (x = 0#64) := by
  rw [show (0 : Int) = (0#64).toInt from rfl, eq_iff_iff]
  exact BitVec.toInt_inj
theorem toInt_eq {x y : BitVec 64} : (x.toInt = y.toInt) = (x = y) := by rw [eq_iff_iff]; exact BitVec.toInt_inj

/-- A set of numbers below n. -/
def Upto (n : Nat) (x : BitVec 64) : Prop := ∀ j, n ≤ j → x.getLsbD j = false
theorem Upto.mono {n k : Nat} {x : BitVec 64} (h : Upto n x) (hk : n ≤ k) : Upto k x := fun j hj => h j (by omega)
theorem Upto.or {n : Nat} {x y : BitVec 64} (h : Upto n x) (k : Upto n y) : Upto n (x ||| y) := fun j hj => by simp [h j hj, k j hj]
theorem Upto.andl {n : Nat} {x : BitVec 64} (y : BitVec 64) (h : Upto n x) : Upto n (x &&& y) := fun j hj => by simp [h j hj]
theorem Upto.andr {n : Nat} {x y : BitVec 64} (k : Upto n y) : Upto n (x &&& y) := fun j hj => by simp [k j hj]
theorem Upto.zero {n : Nat} : Upto n 0#64 := fun j hj => by simp
theorem getLsbD_twoPow' {i j : Nat} : (BitVec.twoPow 64 i).getLsbD j = (decide (i < 64) && decide (i = j)) := by rw [BitVec.getLsbD_twoPow]
theorem Upto.pow {n i : Nat} (h : i < n) : Upto n (BitVec.twoPow 64 i) := fun j hj => by
  rw [BitVec.getLsbD_twoPow]; simp; omega
theorem Upto.nonneg {n : Nat} {x : BitVec 64} (h : Upto n x) (hn : n < 64) : 0 ≤ x.toInt := by
  have : x.msb = false := by rw [BitVec.msb_eq_getLsbD_last]; exact h _ (by omega)
  rw [BitVec.toInt_eq_toNat_of_msb this]; omega
theorem Upto.lt {n : Nat} {x : BitVec 64} (h : Upto n x) : x.toNat < 2 ^ n := by
  refine Nat.lt_pow_two_of_testBit _ fun i hi => h i hi
/-- All numbers below n. -/
theorem all_get {n j : Nat} (hn : n < 64) : (BitVec.twoPow 64 n - 1#64).getLsbD j = decide (j < n) := by
  have e : (BitVec.twoPow 64 n - 1#64).toNat = 2 ^ n - 1 := by
    have h2 : 2 ^ n < 2 ^ 64 := Nat.pow_lt_pow_right (by omega) hn
    have h3 : 1 ≤ 2 ^ n := Nat.one_le_two_pow
    rw [BitVec.toNat_sub, BitVec.toNat_twoPow, Nat.mod_eq_of_lt h2]
    show (2 ^ 64 - 1 + 2 ^ n) % 2 ^ 64 = _
    rw [show 2 ^ 64 - 1 + 2 ^ n = (2 ^ n - 1) + 2 ^ 64 from by omega, Nat.add_mod_right, Nat.mod_eq_of_lt (by omega)]
  show (BitVec.twoPow 64 n - 1#64).toNat.testBit j = _
  rw [e, Nat.testBit_two_pow_sub_one]
end Go.Vm
/- The functions of the seat, resolved; printed by a program of mine. -/
namespace Go.Vm
open Go.Proofs
noncomputable abbrev PP : Program := Tryd.prog
theorem mixed : PP.follows .mixedOrders = true := by kernel_rfl
abbrev k_forcolalaw04_PartPaths : FuncId := 3
abbrev k_forcolalaw04_tame : FuncId := 12
abbrev k_forcolaref04_Of : FuncId := 13
abbrev k_part_Path : FuncId := 14
abbrev k_forcolaref04_HasPath : FuncId := 15
abbrev k_forcolaref04_IsPath : FuncId := 16
abbrev k_forcolalaw04_awake : FuncId := 17
abbrev k_part_Shape : FuncId := 18
abbrev k_part_Clique : FuncId := 19
abbrev k_part_FromShape : FuncId := 27
abbrev k_forcolaref04_Listed : FuncId := 30
abbrev k_part_Modules : FuncId := 32
abbrev k_part_Split : FuncId := 34
abbrev k_part_Check : FuncId := 49
abbrev k_part_open : FuncId := 50
abbrev k_part_graph_path : FuncId := 51
abbrev k_part_openCograph : FuncId := 52
abbrev k_part_Tree_shape : FuncId := 53
abbrev k_part_Tree_clique : FuncId := 54
abbrev k_part_reader_node : FuncId := 59
abbrev k_part_graph_edges : FuncId := 60
abbrev k_part_graph_complement : FuncId := 62
abbrev k_part_graph_all : FuncId := 63
abbrev k_part_graph_splitters : FuncId := 64
abbrev k_part_opened : FuncId := 65
abbrev k_part_splitter_tree : FuncId := 66
abbrev k_part_Split_1 : FuncId := 69
abbrev k_part_splitter_parts : FuncId := 70
abbrev k_math_bits_TrailingZeros : FuncId := 71
abbrev k_slices_Compareint_int : FuncId := 73
abbrev k_part_vertices : FuncId := 74
abbrev k_slices_Sortstring_string : FuncId := 75
abbrev k_strings_Join : FuncId := 76
abbrev k_strings_HasPrefix : FuncId := 79
abbrev k_part_splitter_tree_1 : FuncId := 80
abbrev k_math_bits_Len : FuncId := 82
abbrev k_part_graph_connected : FuncId := 83
abbrev k_part_graph_module : FuncId := 84
abbrev k_math_bits_TrailingZeros32 : FuncId := 85
abbrev k_math_bits_TrailingZeros64 : FuncId := 86
abbrev k_cmp_Compareint : FuncId := 87
abbrev k_part_vertices_1 : FuncId := 88
abbrev k_slices_pdqsortOrderedstring : FuncId := 89
abbrev k_strings_Builder_Grow : FuncId := 90
abbrev k_strings_Builder_WriteString : FuncId := 91
abbrev k_strings_Builder_String : FuncId := 92
abbrev k_internal_stringslite_HasPrefix : FuncId := 93
abbrev k_math_bits_Len32 : FuncId := 103
abbrev k_math_bits_Len64 : FuncId := 104
abbrev k_cmp_isNaNint : FuncId := 105
abbrev k_slices_insertionSortOrderedstring : FuncId := 106
abbrev k_slices_heapSortOrderedstring : FuncId := 107
abbrev k_slices_breakPatternsOrderedstring : FuncId := 108
abbrev k_slices_choosePivotOrderedstring : FuncId := 109
abbrev k_slices_reverseRangeOrderedstring : FuncId := 110
abbrev k_slices_partialInsertionSortOrderedstring : FuncId := 111
abbrev k_cmp_Lessstring : FuncId := 112
abbrev k_slices_partitionEqualOrderedstring : FuncId := 113
abbrev k_slices_partitionOrderedstring : FuncId := 114
abbrev k_cmp_isNaNstring : FuncId := 125

/- forcola/forcolalaw04.PartPaths -/
noncomputable def v_forcolalaw04_PartPaths : VFn := ⟨52, 2, [.tmp 4],
  .seq (.reg [
 (⟨(some 4), .mov (.const (.bool false)), none⟩, [])])
 (.seq (.reg [
 (⟨(some 11), .mov (.tmp 0), none⟩, []),
 (⟨(some 12), .mov (.tmp 1), none⟩, []),
 (⟨(some 13), .call (.func k_forcolalaw04_tame) [(.tmp 11), (.tmp 12), (.const (.int .i64 16))], none⟩, []),
 (⟨(some 10), .mov (.tmp 13), none⟩, []),
 (⟨(some 14), .extract (.tmp 10) 0, none⟩, []),
 (⟨(some 15), .extract (.tmp 10) 1, none⟩, []),
 (⟨(some 0), .mov (.tmp 14), none⟩, []),
 (⟨(some 5), .mov (.tmp 15), none⟩, [])])
 (.seq (.reg [
 (⟨(some 16), .mov (.tmp 0), none⟩, []),
 (⟨(some 17), .mov (.tmp 5), none⟩, []),
 (⟨(some 18), .call (.func k_forcolaref04_Of) [(.tmp 16), (.tmp 17)], none⟩, []),
 (⟨(some 6), .mov (.tmp 18), none⟩, [])])
 (.seq (.reg [
 (⟨(some 20), .mov (.tmp 0), none⟩, []),
 (⟨(some 21), .mov (.tmp 5), none⟩, []),
 (⟨(some 22), .call (.func k_part_Path) [(.tmp 20), (.tmp 21)], none⟩, []),
 (⟨(some 19), .mov (.tmp 22), none⟩, []),
 (⟨(some 23), .extract (.tmp 19) 0, none⟩, []),
 (⟨(some 24), .extract (.tmp 19) 1, none⟩, []),
 (⟨(some 25), .extract (.tmp 19) 2, none⟩, []),
 (⟨(some 7), .alloc [.int .i64 0, .int .i64 0, .int .i64 0, .int .i64 0], none⟩, []),
 (⟨none, .store 4 (.tmp 7) (.tmp 23), none⟩, []),
 (⟨(some 8), .mov (.tmp 24), none⟩, []),
 (⟨(some 9), .mov (.tmp 25), none⟩, [])])
 (.seq (.seq (.reg [
 (⟨(some 26), .mov (.tmp 9), none⟩, []),
 (⟨(some 27), .bin .neq (.tmp 26) (.const (.int .i64 0)), none⟩, []),
 (⟨(some 28), .mov (.tmp 27), none⟩, []),
 (⟨(some 29), .mov (.tmp 8), (some ((some 28), false))⟩, []),
 (⟨(some 30), .mov (.tmp 6), (some ((some 28), false))⟩, []),
 (⟨(some 31), .call (.func k_forcolaref04_HasPath) [(.tmp 30)], (some ((some 28), false))⟩, []),
 (⟨(some 32), .eqb (.one .bool) true (.tmp 29) (.tmp 31), (some ((some 28), false))⟩, []),
 (⟨(some 33), .pick (.tmp 28) (.const (.bool true)) (.tmp 32), none⟩, [])])
 (.cond (.tmp 33) (.seq (.reg [
 (⟨(some 4), .mov (.const (.bool false)), none⟩, [])])
 (.ret))
 (.skip)))
 (.seq (.reg [
 (⟨(some 34), .mov (.tmp 8), none⟩, []),
 (⟨(some 35), .mov (.tmp 34), none⟩, []),
 (⟨(some 36), .mov (.tmp 6), (some ((some 35), true))⟩, []),
 (⟨(some 37), .load (some 4) (.tmp 7), (some ((some 35), true))⟩, []),
 (⟨(some 38), .call (.func k_forcolaref04_IsPath) [(.tmp 36), (.tmp 37)], (some ((some 35), true))⟩, []),
 (⟨(some 39), .pick (.tmp 35) (.tmp 38) (.const (.bool false)), none⟩, []),
 (⟨(some 40), .mov (.tmp 39), none⟩, []),
 (⟨(some 41), .mov (.tmp 8), (some ((some 40), false))⟩, []),
 (⟨(some 42), .not (.tmp 41), (some ((some 40), false))⟩, []),
 (⟨(some 43), .mov (.tmp 42), (some ((some 40), false))⟩, []),
 (⟨(some 44), .load (some 4) (.tmp 7), (some ((some 43), true))⟩, []),
 (⟨(some 45), .build [.int .i64 0, .int .i64 0, .int .i64 0, .int .i64 0] [], (some ((some 43), true))⟩, []),
 (⟨(some 46), .eqb (.many [.int, .int, .int, .int]) false (.tmp 44) (.tmp 45), (some ((some 43), true))⟩, []),
 (⟨(some 47), .pick (.tmp 43) (.tmp 46) (.const (.bool false)), (some ((some 40), false))⟩, []),
 (⟨(some 48), .pick (.tmp 40) (.const (.bool true)) (.tmp 47), none⟩, []),
 (⟨(some 49), .mov (.tmp 48), none⟩, []),
 (⟨(some 50), .call (.func k_forcolalaw04_awake) [], (some ((some 49), true))⟩, []),
 (⟨(some 51), .pick (.tmp 49) (.tmp 50) (.const (.bool false)), none⟩, []),
 (⟨(some 4), .mov (.tmp 51), none⟩, [])])
 (.ret))))))⟩
theorem ok_forcolalaw04_PartPaths : FnOK PP k_forcolalaw04_PartPaths v_forcolalaw04_PartPaths := fnOK (fn := Tryd.f3) (by kernel_rfl) (by kernel_rfl) (by kernel_rfl)

/- forcola/forcolalaw04.tame -/
noncomputable def v_forcolalaw04_tame : VFn := ⟨77, 3, [.tmp 6, .tmp 7],
  .seq (.reg [
 (⟨(some 6), .mov (.const (.int .i64 0)), none⟩, []),
 (⟨(some 7), .mov (.const (.slice none 0 0)), none⟩, [])])
 (.seq (.reg [
 (⟨(some 12), .mov (.tmp 0), none⟩, []),
 (⟨(some 13), .conv .u64 (.tmp 12), none⟩, []),
 (⟨(some 14), .mov (.tmp 2), none⟩, []),
 (⟨(some 15), .conv .u64 (.tmp 14), none⟩, []),
 (⟨(some 16), .bin .rem (.tmp 13) (.tmp 15), none⟩, []),
 (⟨(some 17), .conv .i64 (.tmp 16), none⟩, []),
 (⟨(some 18), .bin .add (.const (.int .i64 1)) (.tmp 17), none⟩, []),
 (⟨(some 0), .mov (.tmp 18), none⟩, [])])
 (.seq (.reg [
 (⟨(some 19), .mov (.tmp 0), none⟩, []),
 (⟨(some 20), .mkSlice 1 8 [.int .i64 0] (.tmp 19) (.tmp 19), none⟩, []),
 (⟨(some 8), .mov (.tmp 20), none⟩, [])])
 (.seq (.seq (.reg [
 (⟨(some 9), .mov (.const (.int .i64 0)), none⟩, [])])
 (.block 0 (.loop (.seq (.seq (.reg [
 (⟨(some 21), .mov (.tmp 9), none⟩, []),
 (⟨(some 22), .mov (.tmp 1), none⟩, []),
 (⟨(some 23), .lenSl (.tmp 22), none⟩, []),
 (⟨(some 24), .bin .lss (.tmp 21) (.tmp 23), none⟩, []),
 (⟨(some 25), .mov (.tmp 24), none⟩, []),
 (⟨(some 26), .mov (.tmp 9), (some ((some 25), true))⟩, []),
 (⟨(some 27), .bin .lss (.tmp 26) (.const (.int .i64 60)), (some ((some 25), true))⟩, []),
 (⟨(some 28), .pick (.tmp 25) (.tmp 27) (.const (.bool false)), none⟩, [])])
 (.cond (.tmp 28) (.skip)
 (.exit 0)))
 (.seq (.block 1 (.seq (.reg [
 (⟨(some 31), .mov (.tmp 1), none⟩, []),
 (⟨(some 32), .mov (.tmp 9), none⟩, []),
 (⟨(some 33), .idxSl 2 (.tmp 31) (.tmp 32), none⟩, []),
 (⟨(some 34), .idxArr 2 1 (.tmp 33) (.const (.int .i64 0)), none⟩, []),
 (⟨(some 35), .load none (.tmp 34), none⟩, []),
 (⟨(some 36), .conv .u64 (.tmp 35), none⟩, []),
 (⟨(some 37), .mov (.tmp 0), none⟩, []),
 (⟨(some 38), .conv .u64 (.tmp 37), none⟩, []),
 (⟨(some 39), .bin .rem (.tmp 36) (.tmp 38), none⟩, []),
 (⟨(some 40), .conv .i64 (.tmp 39), none⟩, []),
 (⟨(some 41), .mov (.tmp 1), none⟩, []),
 (⟨(some 42), .mov (.tmp 9), none⟩, []),
 (⟨(some 43), .idxSl 2 (.tmp 41) (.tmp 42), none⟩, []),
 (⟨(some 44), .idxArr 2 1 (.tmp 43) (.const (.int .i64 1)), none⟩, []),
 (⟨(some 45), .load none (.tmp 44), none⟩, []),
 (⟨(some 46), .conv .u64 (.tmp 45), none⟩, []),
 (⟨(some 47), .mov (.tmp 0), none⟩, []),
 (⟨(some 48), .conv .u64 (.tmp 47), none⟩, []),
 (⟨(some 49), .bin .rem (.tmp 46) (.tmp 48), none⟩, []),
 (⟨(some 50), .conv .i64 (.tmp 49), none⟩, []),
 (⟨(some 10), .mov (.tmp 40), none⟩, []),
 (⟨(some 11), .mov (.tmp 50), none⟩, [])])
 (.seq (.reg [
 (⟨(some 51), .mov (.tmp 10), none⟩, []),
 (⟨(some 52), .mov (.tmp 11), none⟩, []),
 (⟨(some 53), .bin .neq (.tmp 51) (.tmp 52), none⟩, [])])
 (.cond (.tmp 53) (.seq (.reg [
 (⟨(some 54), .mov (.tmp 8), none⟩, []),
 (⟨(some 55), .mov (.tmp 10), none⟩, []),
 (⟨(some 56), .mov (.tmp 8), none⟩, []),
 (⟨(some 57), .mov (.tmp 10), none⟩, []),
 (⟨(some 58), .idxSl 1 (.tmp 56) (.tmp 57), none⟩, []),
 (⟨(some 59), .load none (.tmp 58), none⟩, []),
 (⟨(some 60), .mov (.tmp 11), none⟩, []),
 (⟨(some 61), .bin .shl (.const (.int .i64 1)) (.tmp 60), none⟩, []),
 (⟨(some 62), .bin .or (.tmp 59) (.tmp 61), none⟩, []),
 (⟨(some 63), .idxSl 1 (.tmp 54) (.tmp 55), none⟩, []),
 (⟨none, .store 1 (.tmp 63) (.tmp 62), none⟩, [])])
 (.reg [
 (⟨(some 64), .mov (.tmp 8), none⟩, []),
 (⟨(some 65), .mov (.tmp 11), none⟩, []),
 (⟨(some 66), .mov (.tmp 8), none⟩, []),
 (⟨(some 67), .mov (.tmp 11), none⟩, []),
 (⟨(some 68), .idxSl 1 (.tmp 66) (.tmp 67), none⟩, []),
 (⟨(some 69), .load none (.tmp 68), none⟩, []),
 (⟨(some 70), .mov (.tmp 10), none⟩, []),
 (⟨(some 71), .bin .shl (.const (.int .i64 1)) (.tmp 70), none⟩, []),
 (⟨(some 72), .bin .or (.tmp 69) (.tmp 71), none⟩, []),
 (⟨(some 73), .idxSl 1 (.tmp 64) (.tmp 65), none⟩, []),
 (⟨none, .store 1 (.tmp 73) (.tmp 72), none⟩, [])]))
 (.skip)))))
 (.reg [
 (⟨(some 29), .mov (.tmp 9), none⟩, []),
 (⟨(some 30), .bin .add (.tmp 29) (.const (.int .i64 1)), none⟩, []),
 (⟨(some 9), .mov (.tmp 30), none⟩, [])]))))))
 (.seq (.reg [
 (⟨(some 74), .mov (.tmp 0), none⟩, []),
 (⟨(some 75), .mov (.tmp 8), none⟩, []),
 (⟨(some 76), .call (.func k_forcolaref04_Listed) [(.tmp 75)], none⟩, []),
 (⟨(some 6), .mov (.tmp 74), none⟩, []),
 (⟨(some 7), .mov (.tmp 76), none⟩, [])])
 (.ret)))))⟩
theorem ok_forcolalaw04_tame : FnOK PP k_forcolalaw04_tame v_forcolalaw04_tame := fnOK (fn := Tryd.f12) (by kernel_rfl) (by kernel_rfl) (by kernel_rfl)

/- forcola/forcolaref04.Of -/
noncomputable def v_forcolaref04_Of : VFn := ⟨48, 2, [.tmp 4],
  .seq (.reg [
 (⟨(some 4), .mov (.const (.slice none 0 0)), none⟩, [])])
 (.seq (.reg [
 (⟨(some 9), .mov (.tmp 0), none⟩, []),
 (⟨(some 10), .mkSlice 1 8 [.int .i64 0] (.tmp 9) (.tmp 9), none⟩, []),
 (⟨(some 5), .mov (.tmp 10), none⟩, [])])
 (.seq (.seq (.reg [
 (⟨(some 6), .mov (.const (.int .i64 0)), none⟩, [])])
 (.block 0 (.loop (.seq (.seq (.reg [
 (⟨(some 11), .mov (.tmp 6), none⟩, []),
 (⟨(some 12), .mov (.tmp 1), none⟩, []),
 (⟨(some 13), .lenSl (.tmp 12), none⟩, []),
 (⟨(some 14), .bin .lss (.tmp 11) (.tmp 13), none⟩, [])])
 (.cond (.tmp 14) (.skip)
 (.exit 0)))
 (.seq (.block 1 (.seq (.reg [
 (⟨(some 17), .mov (.tmp 1), none⟩, []),
 (⟨(some 18), .mov (.tmp 6), none⟩, []),
 (⟨(some 19), .idxSl 2 (.tmp 17) (.tmp 18), none⟩, []),
 (⟨(some 20), .idxArr 2 1 (.tmp 19) (.const (.int .i64 0)), none⟩, []),
 (⟨(some 21), .load none (.tmp 20), none⟩, []),
 (⟨(some 22), .mov (.tmp 1), none⟩, []),
 (⟨(some 23), .mov (.tmp 6), none⟩, []),
 (⟨(some 24), .idxSl 2 (.tmp 22) (.tmp 23), none⟩, []),
 (⟨(some 25), .idxArr 2 1 (.tmp 24) (.const (.int .i64 1)), none⟩, []),
 (⟨(some 26), .load none (.tmp 25), none⟩, []),
 (⟨(some 7), .mov (.tmp 21), none⟩, []),
 (⟨(some 8), .mov (.tmp 26), none⟩, [])])
 (.seq (.reg [
 (⟨(some 27), .mov (.tmp 5), none⟩, []),
 (⟨(some 28), .mov (.tmp 7), none⟩, []),
 (⟨(some 29), .mov (.tmp 5), none⟩, []),
 (⟨(some 30), .mov (.tmp 7), none⟩, []),
 (⟨(some 31), .idxSl 1 (.tmp 29) (.tmp 30), none⟩, []),
 (⟨(some 32), .load none (.tmp 31), none⟩, []),
 (⟨(some 33), .mov (.tmp 8), none⟩, []),
 (⟨(some 34), .bin .shl (.const (.int .i64 1)) (.tmp 33), none⟩, []),
 (⟨(some 35), .bin .or (.tmp 32) (.tmp 34), none⟩, []),
 (⟨(some 36), .idxSl 1 (.tmp 27) (.tmp 28), none⟩, []),
 (⟨none, .store 1 (.tmp 36) (.tmp 35), none⟩, [])])
 (.reg [
 (⟨(some 37), .mov (.tmp 5), none⟩, []),
 (⟨(some 38), .mov (.tmp 8), none⟩, []),
 (⟨(some 39), .mov (.tmp 5), none⟩, []),
 (⟨(some 40), .mov (.tmp 8), none⟩, []),
 (⟨(some 41), .idxSl 1 (.tmp 39) (.tmp 40), none⟩, []),
 (⟨(some 42), .load none (.tmp 41), none⟩, []),
 (⟨(some 43), .mov (.tmp 7), none⟩, []),
 (⟨(some 44), .bin .shl (.const (.int .i64 1)) (.tmp 43), none⟩, []),
 (⟨(some 45), .bin .or (.tmp 42) (.tmp 44), none⟩, []),
 (⟨(some 46), .idxSl 1 (.tmp 37) (.tmp 38), none⟩, []),
 (⟨none, .store 1 (.tmp 46) (.tmp 45), none⟩, [])]))))
 (.reg [
 (⟨(some 15), .mov (.tmp 6), none⟩, []),
 (⟨(some 16), .bin .add (.tmp 15) (.const (.int .i64 1)), none⟩, []),
 (⟨(some 6), .mov (.tmp 16), none⟩, [])]))))))
 (.seq (.reg [
 (⟨(some 47), .mov (.tmp 5), none⟩, []),
 (⟨(some 4), .mov (.tmp 47), none⟩, [])])
 (.ret))))⟩
theorem ok_forcolaref04_Of : FnOK PP k_forcolaref04_Of v_forcolaref04_Of := fnOK (fn := Tryd.f13) (by kernel_rfl) (by kernel_rfl) (by kernel_rfl)

/- forcola/part.Path -/
noncomputable def v_part_Path : VFn := ⟨28, 2, [.cell (some 4) 4, .tmp 5, .tmp 6],
  .seq (.reg [
 (⟨(some 4), .alloc [.int .i64 0, .int .i64 0, .int .i64 0, .int .i64 0], none⟩, []),
 (⟨(some 5), .mov (.const (.bool false)), none⟩, []),
 (⟨(some 6), .mov (.const (.int .i64 0)), none⟩, [])])
 (.seq (.reg [
 (⟨(some 12), .mov (.tmp 0), none⟩, []),
 (⟨(some 13), .mov (.tmp 1), none⟩, []),
 (⟨(some 14), .call (.func k_part_open) [(.tmp 12), (.tmp 13)], none⟩, []),
 (⟨(some 11), .mov (.tmp 14), none⟩, []),
 (⟨(some 15), .extract (.tmp 11) 0, none⟩, []),
 (⟨(some 16), .extract (.tmp 11) 1, none⟩, []),
 (⟨(some 7), .mov (.tmp 15), none⟩, []),
 (⟨(some 8), .mov (.tmp 16), none⟩, [])])
 (.seq (.seq (.reg [
 (⟨(some 17), .mov (.tmp 8), none⟩, []),
 (⟨(some 18), .bin .neq (.tmp 17) (.const (.int .i64 0)), none⟩, [])])
 (.cond (.tmp 18) (.seq (.reg [
 (⟨(some 19), .build [.int .i64 0, .int .i64 0, .int .i64 0, .int .i64 0] [], none⟩, []),
 (⟨(some 20), .mov (.tmp 8), none⟩, []),
 (⟨none, .store 4 (.tmp 4) (.tmp 19), none⟩, []),
 (⟨(some 5), .mov (.const (.bool false)), none⟩, []),
 (⟨(some 6), .mov (.tmp 20), none⟩, [])])
 (.ret))
 (.skip)))
 (.seq (.reg [
 (⟨(some 22), .mov (.tmp 7), none⟩, []),
 (⟨(some 23), .call (.func k_part_graph_path) [(.tmp 22)], none⟩, []),
 (⟨(some 21), .mov (.tmp 23), none⟩, []),
 (⟨(some 24), .extract (.tmp 21) 0, none⟩, []),
 (⟨(some 25), .extract (.tmp 21) 1, none⟩, []),
 (⟨(some 9), .alloc [.int .i64 0, .int .i64 0, .int .i64 0, .int .i64 0], none⟩, []),
 (⟨none, .store 4 (.tmp 9) (.tmp 24), none⟩, []),
 (⟨(some 10), .mov (.tmp 25), none⟩, [])])
 (.seq (.reg [
 (⟨(some 26), .load (some 4) (.tmp 9), none⟩, []),
 (⟨(some 27), .mov (.tmp 10), none⟩, []),
 (⟨none, .store 4 (.tmp 4) (.tmp 26), none⟩, []),
 (⟨(some 5), .mov (.tmp 27), none⟩, []),
 (⟨(some 6), .mov (.const (.int .i64 0)), none⟩, [])])
 (.ret)))))⟩
theorem ok_part_Path : FnOK PP k_part_Path v_part_Path := fnOK (fn := Tryd.f14) (by kernel_rfl) (by kernel_rfl) (by kernel_rfl)

/- forcola/forcolaref04.HasPath -/
noncomputable def v_forcolaref04_HasPath : VFn := ⟨57, 1, [.tmp 2],
  .seq (.reg [
 (⟨(some 2), .mov (.const (.bool false)), none⟩, [])])
 (.seq (.reg [
 (⟨(some 8), .mov (.tmp 0), none⟩, []),
 (⟨(some 9), .lenSl (.tmp 8), none⟩, []),
 (⟨(some 3), .mov (.tmp 9), none⟩, [])])
 (.seq (.seq (.reg [
 (⟨(some 4), .mov (.const (.int .i64 0)), none⟩, [])])
 (.block 0 (.loop (.seq (.seq (.reg [
 (⟨(some 10), .mov (.tmp 4), none⟩, []),
 (⟨(some 11), .mov (.tmp 3), none⟩, []),
 (⟨(some 12), .bin .lss (.tmp 10) (.tmp 11), none⟩, [])])
 (.cond (.tmp 12) (.skip)
 (.exit 0)))
 (.seq (.block 1 (.seq (.reg [
 (⟨(some 5), .mov (.const (.int .i64 0)), none⟩, [])])
 (.block 2 (.loop (.seq (.seq (.reg [
 (⟨(some 15), .mov (.tmp 5), none⟩, []),
 (⟨(some 16), .mov (.tmp 3), none⟩, []),
 (⟨(some 17), .bin .lss (.tmp 15) (.tmp 16), none⟩, [])])
 (.cond (.tmp 17) (.skip)
 (.exit 2)))
 (.seq (.block 3 (.seq (.reg [
 (⟨(some 6), .mov (.const (.int .i64 0)), none⟩, [])])
 (.block 4 (.loop (.seq (.seq (.reg [
 (⟨(some 20), .mov (.tmp 6), none⟩, []),
 (⟨(some 21), .mov (.tmp 3), none⟩, []),
 (⟨(some 22), .bin .lss (.tmp 20) (.tmp 21), none⟩, []),
 (⟨(some 23), .mov (.tmp 22), none⟩, []),
 (⟨(some 24), .mov (.tmp 0), (some ((some 23), true))⟩, []),
 (⟨(some 25), .mov (.tmp 4), (some ((some 23), true))⟩, []),
 (⟨(some 26), .idxSl 1 (.tmp 24) (.tmp 25), (some ((some 23), true))⟩, []),
 (⟨(some 27), .load none (.tmp 26), (some ((some 23), true))⟩, []),
 (⟨(some 28), .mov (.tmp 5), (some ((some 23), true))⟩, []),
 (⟨(some 29), .bin .shr (.tmp 27) (.tmp 28), (some ((some 23), true))⟩, []),
 (⟨(some 30), .bin .rem (.tmp 29) (.const (.int .i64 2)), (some ((some 23), true))⟩, []),
 (⟨(some 31), .bin .eql (.tmp 30) (.const (.int .i64 1)), (some ((some 23), true))⟩, []),
 (⟨(some 32), .pick (.tmp 23) (.tmp 31) (.const (.bool false)), none⟩, [])])
 (.cond (.tmp 32) (.skip)
 (.exit 4)))
 (.seq (.block 5 (.seq (.reg [
 (⟨(some 7), .mov (.const (.int .i64 0)), none⟩, [])])
 (.block 6 (.loop (.seq (.seq (.reg [
 (⟨(some 35), .mov (.tmp 7), none⟩, []),
 (⟨(some 36), .mov (.tmp 3), none⟩, []),
 (⟨(some 37), .bin .lss (.tmp 35) (.tmp 36), none⟩, []),
 (⟨(some 38), .mov (.tmp 37), none⟩, []),
 (⟨(some 39), .mov (.tmp 0), (some ((some 38), true))⟩, []),
 (⟨(some 40), .mov (.tmp 5), (some ((some 38), true))⟩, []),
 (⟨(some 41), .idxSl 1 (.tmp 39) (.tmp 40), (some ((some 38), true))⟩, []),
 (⟨(some 42), .load none (.tmp 41), (some ((some 38), true))⟩, []),
 (⟨(some 43), .mov (.tmp 6), (some ((some 38), true))⟩, []),
 (⟨(some 44), .bin .shr (.tmp 42) (.tmp 43), (some ((some 38), true))⟩, []),
 (⟨(some 45), .bin .rem (.tmp 44) (.const (.int .i64 2)), (some ((some 38), true))⟩, []),
 (⟨(some 46), .bin .eql (.tmp 45) (.const (.int .i64 1)), (some ((some 38), true))⟩, []),
 (⟨(some 47), .pick (.tmp 38) (.tmp 46) (.const (.bool false)), none⟩, [])])
 (.cond (.tmp 47) (.skip)
 (.exit 6)))
 (.seq (.block 7 (.seq (.reg [
 (⟨(some 50), .mov (.tmp 0), none⟩, []),
 (⟨(some 51), .mov (.tmp 4), none⟩, []),
 (⟨(some 52), .mov (.tmp 5), none⟩, []),
 (⟨(some 53), .mov (.tmp 6), none⟩, []),
 (⟨(some 54), .mov (.tmp 7), none⟩, []),
 (⟨(some 55), .build [.int .i64 0, .int .i64 0, .int .i64 0, .int .i64 0] [(0, 1, (.tmp 51)), (1, 1, (.tmp 52)), (2, 1, (.tmp 53)), (3, 1, (.tmp 54))], none⟩, []),
 (⟨(some 56), .call (.func k_forcolaref04_IsPath) [(.tmp 50), (.tmp 55)], none⟩, [])])
 (.cond (.tmp 56) (.seq (.reg [
 (⟨(some 2), .mov (.const (.bool true)), none⟩, [])])
 (.ret))
 (.skip))))
 (.reg [
 (⟨(some 48), .mov (.tmp 7), none⟩, []),
 (⟨(some 49), .bin .add (.tmp 48) (.const (.int .i64 1)), none⟩, []),
 (⟨(some 7), .mov (.tmp 49), none⟩, [])])))))))
 (.reg [
 (⟨(some 33), .mov (.tmp 6), none⟩, []),
 (⟨(some 34), .bin .add (.tmp 33) (.const (.int .i64 1)), none⟩, []),
 (⟨(some 6), .mov (.tmp 34), none⟩, [])])))))))
 (.reg [
 (⟨(some 18), .mov (.tmp 5), none⟩, []),
 (⟨(some 19), .bin .add (.tmp 18) (.const (.int .i64 1)), none⟩, []),
 (⟨(some 5), .mov (.tmp 19), none⟩, [])])))))))
 (.reg [
 (⟨(some 13), .mov (.tmp 4), none⟩, []),
 (⟨(some 14), .bin .add (.tmp 13) (.const (.int .i64 1)), none⟩, []),
 (⟨(some 4), .mov (.tmp 14), none⟩, [])]))))))
 (.seq (.reg [
 (⟨(some 2), .mov (.const (.bool false)), none⟩, [])])
 (.ret))))⟩
theorem ok_forcolaref04_HasPath : FnOK PP k_forcolaref04_HasPath v_forcolaref04_HasPath := fnOK (fn := Tryd.f15) (by kernel_rfl) (by kernel_rfl) (by kernel_rfl)

/- forcola/forcolaref04.IsPath -/
noncomputable def v_forcolaref04_IsPath : VFn := ⟨60, 2, [.tmp 4],
  .seq (.reg [
 (⟨(some 3), .box (.tmp 1), none⟩, []),
 (⟨(some 4), .mov (.const (.bool false)), none⟩, [])])
 (.seq (.seq (.reg [
 (⟨(some 5), .mov (.const (.int .i64 0)), none⟩, [])])
 (.block 0 (.loop (.seq (.seq (.reg [
 (⟨(some 8), .mov (.tmp 5), none⟩, []),
 (⟨(some 9), .bin .lss (.tmp 8) (.const (.int .i64 4)), none⟩, [])])
 (.cond (.tmp 9) (.skip)
 (.exit 0)))
 (.seq (.block 1 (.seq (.reg [
 (⟨(some 12), .mov (.tmp 5), none⟩, []),
 (⟨(some 13), .idxArr 4 1 (.tmp 3) (.tmp 12), none⟩, []),
 (⟨(some 14), .load none (.tmp 13), none⟩, []),
 (⟨(some 15), .bin .lss (.tmp 14) (.const (.int .i64 0)), none⟩, []),
 (⟨(some 16), .mov (.tmp 15), none⟩, []),
 (⟨(some 17), .mov (.tmp 5), (some ((some 16), false))⟩, []),
 (⟨(some 18), .idxArr 4 1 (.tmp 3) (.tmp 17), (some ((some 16), false))⟩, []),
 (⟨(some 19), .load none (.tmp 18), (some ((some 16), false))⟩, []),
 (⟨(some 20), .mov (.tmp 0), (some ((some 16), false))⟩, []),
 (⟨(some 21), .lenSl (.tmp 20), (some ((some 16), false))⟩, []),
 (⟨(some 22), .bin .geq (.tmp 19) (.tmp 21), (some ((some 16), false))⟩, []),
 (⟨(some 23), .pick (.tmp 16) (.const (.bool true)) (.tmp 22), none⟩, [])])
 (.cond (.tmp 23) (.seq (.reg [
 (⟨(some 4), .mov (.const (.bool false)), none⟩, [])])
 (.ret))
 (.skip))))
 (.reg [
 (⟨(some 10), .mov (.tmp 5), none⟩, []),
 (⟨(some 11), .bin .add (.tmp 10) (.const (.int .i64 1)), none⟩, []),
 (⟨(some 5), .mov (.tmp 11), none⟩, [])]))))))
 (.seq (.seq (.reg [
 (⟨(some 6), .mov (.const (.int .i64 0)), none⟩, [])])
 (.block 2 (.loop (.seq (.seq (.reg [
 (⟨(some 24), .mov (.tmp 6), none⟩, []),
 (⟨(some 25), .bin .lss (.tmp 24) (.const (.int .i64 4)), none⟩, [])])
 (.cond (.tmp 25) (.skip)
 (.exit 2)))
 (.seq (.block 3 (.seq (.reg [
 (⟨(some 28), .mov (.tmp 6), none⟩, []),
 (⟨(some 29), .bin .add (.tmp 28) (.const (.int .i64 1)), none⟩, []),
 (⟨(some 7), .mov (.tmp 29), none⟩, [])])
 (.block 4 (.loop (.seq (.seq (.reg [
 (⟨(some 30), .mov (.tmp 7), none⟩, []),
 (⟨(some 31), .bin .lss (.tmp 30) (.const (.int .i64 4)), none⟩, [])])
 (.cond (.tmp 31) (.skip)
 (.exit 4)))
 (.seq (.block 5 (.seq (.reg [
 (⟨(some 34), .mov (.tmp 6), none⟩, []),
 (⟨(some 35), .idxArr 4 1 (.tmp 3) (.tmp 34), none⟩, []),
 (⟨(some 36), .load none (.tmp 35), none⟩, []),
 (⟨(some 37), .mov (.tmp 7), none⟩, []),
 (⟨(some 38), .idxArr 4 1 (.tmp 3) (.tmp 37), none⟩, []),
 (⟨(some 39), .load none (.tmp 38), none⟩, []),
 (⟨(some 40), .bin .eql (.tmp 36) (.tmp 39), none⟩, []),
 (⟨(some 41), .mov (.tmp 40), none⟩, []),
 (⟨(some 42), .mov (.tmp 0), (some ((some 41), false))⟩, []),
 (⟨(some 43), .mov (.tmp 6), (some ((some 41), false))⟩, []),
 (⟨(some 44), .idxArr 4 1 (.tmp 3) (.tmp 43), (some ((some 41), false))⟩, []),
 (⟨(some 45), .load none (.tmp 44), (some ((some 41), false))⟩, []),
 (⟨(some 46), .idxSl 1 (.tmp 42) (.tmp 45), (some ((some 41), false))⟩, []),
 (⟨(some 47), .load none (.tmp 46), (some ((some 41), false))⟩, []),
 (⟨(some 48), .mov (.tmp 7), (some ((some 41), false))⟩, []),
 (⟨(some 49), .idxArr 4 1 (.tmp 3) (.tmp 48), (some ((some 41), false))⟩, []),
 (⟨(some 50), .load none (.tmp 49), (some ((some 41), false))⟩, []),
 (⟨(some 51), .bin .shr (.tmp 47) (.tmp 50), (some ((some 41), false))⟩, []),
 (⟨(some 52), .bin .rem (.tmp 51) (.const (.int .i64 2)), (some ((some 41), false))⟩, []),
 (⟨(some 53), .bin .eql (.tmp 52) (.const (.int .i64 1)), (some ((some 41), false))⟩, []),
 (⟨(some 54), .mov (.tmp 7), (some ((some 41), false))⟩, []),
 (⟨(some 55), .mov (.tmp 6), (some ((some 41), false))⟩, []),
 (⟨(some 56), .bin .add (.tmp 55) (.const (.int .i64 1)), (some ((some 41), false))⟩, []),
 (⟨(some 57), .bin .eql (.tmp 54) (.tmp 56), (some ((some 41), false))⟩, []),
 (⟨(some 58), .eqb (.one .bool) true (.tmp 53) (.tmp 57), (some ((some 41), false))⟩, []),
 (⟨(some 59), .pick (.tmp 41) (.const (.bool true)) (.tmp 58), none⟩, [])])
 (.cond (.tmp 59) (.seq (.reg [
 (⟨(some 4), .mov (.const (.bool false)), none⟩, [])])
 (.ret))
 (.skip))))
 (.reg [
 (⟨(some 32), .mov (.tmp 7), none⟩, []),
 (⟨(some 33), .bin .add (.tmp 32) (.const (.int .i64 1)), none⟩, []),
 (⟨(some 7), .mov (.tmp 33), none⟩, [])])))))))
 (.reg [
 (⟨(some 26), .mov (.tmp 6), none⟩, []),
 (⟨(some 27), .bin .add (.tmp 26) (.const (.int .i64 1)), none⟩, []),
 (⟨(some 6), .mov (.tmp 27), none⟩, [])]))))))
 (.seq (.reg [
 (⟨(some 4), .mov (.const (.bool true)), none⟩, [])])
 (.ret))))⟩
theorem ok_forcolaref04_IsPath : FnOK PP k_forcolaref04_IsPath v_forcolaref04_IsPath := fnOK (fn := Tryd.f16) (by kernel_rfl) (by kernel_rfl) (by kernel_rfl)

/- forcola/forcolalaw04.awake -/
noncomputable def v_forcolalaw04_awake : VFn := ⟨120, 0, [.tmp 0],
  .seq (.reg [
 (⟨(some 0), .mov (.const (.bool false)), none⟩, [])])
 (.seq (.reg [
 (⟨(some 18), .build [.int .i64 0, .int .i64 0] [(0, 1, (.const (.int .i64 0))), (1, 1, (.const (.int .i64 1)))], none⟩, []),
 (⟨(some 19), .build [.int .i64 0, .int .i64 0] [(0, 1, (.const (.int .i64 1))), (1, 1, (.const (.int .i64 2)))], none⟩, []),
 (⟨(some 20), .build [.int .i64 0, .int .i64 0] [(0, 1, (.const (.int .i64 2))), (1, 1, (.const (.int .i64 3)))], none⟩, []),
 (⟨(some 21), .buildSlice 2 3 [.int .i64 0, .int .i64 0, .int .i64 0, .int .i64 0, .int .i64 0, .int .i64 0] [(0, 2, (.tmp 18)), (2, 2, (.tmp 19)), (4, 2, (.tmp 20))], none⟩, []),
 (⟨(some 1), .mov (.tmp 21), none⟩, [])])
 (.seq (.reg [
 (⟨(some 23), .mov (.tmp 1), none⟩, []),
 (⟨(some 24), .call (.func k_part_Modules) [(.const (.int .i64 4)), (.tmp 23)], none⟩, []),
 (⟨(some 22), .mov (.tmp 24), none⟩, []),
 (⟨(some 25), .extract (.tmp 22) 0, none⟩, []),
 (⟨(some 26), .extract (.tmp 22) 1, none⟩, []),
 (⟨(some 2), .mov (.tmp 25), none⟩, []),
 (⟨(some 3), .mov (.tmp 26), none⟩, [])])
 (.seq (.reg [
 (⟨(some 28), .mov (.tmp 1), none⟩, []),
 (⟨(some 29), .call (.func k_part_Path) [(.const (.int .i64 4)), (.tmp 28)], none⟩, []),
 (⟨(some 27), .mov (.tmp 29), none⟩, []),
 (⟨(some 30), .extract (.tmp 27) 0, none⟩, []),
 (⟨(some 31), .extract (.tmp 27) 1, none⟩, []),
 (⟨(some 32), .extract (.tmp 27) 2, none⟩, []),
 (⟨(some 4), .alloc [.int .i64 0, .int .i64 0, .int .i64 0, .int .i64 0], none⟩, []),
 (⟨none, .store 4 (.tmp 4) (.tmp 30), none⟩, []),
 (⟨(some 5), .mov (.tmp 31), none⟩, []),
 (⟨(some 6), .mov (.tmp 32), none⟩, [])])
 (.seq (.reg [
 (⟨(some 34), .build [.int .i64 0, .int .i64 0] [(0, 1, (.const (.int .i64 0))), (1, 1, (.const (.int .i64 1)))], none⟩, []),
 (⟨(some 35), .build [.int .i64 0, .int .i64 0] [(0, 1, (.const (.int .i64 0))), (1, 1, (.const (.int .i64 2)))], none⟩, []),
 (⟨(some 36), .buildSlice 2 2 [.int .i64 0, .int .i64 0, .int .i64 0, .int .i64 0] [(0, 2, (.tmp 34)), (2, 2, (.tmp 35))], none⟩, []),
 (⟨(some 37), .call (.func k_part_Shape) [(.const (.int .i64 3)), (.tmp 36)], none⟩, []),
 (⟨(some 33), .mov (.tmp 37), none⟩, []),
 (⟨(some 38), .extract (.tmp 33) 0, none⟩, []),
 (⟨(some 39), .extract (.tmp 33) 1, none⟩, []),
 (⟨(some 7), .mov (.tmp 38), none⟩, []),
 (⟨(some 8), .mov (.tmp 39), none⟩, [])])
 (.seq (.reg [
 (⟨(some 41), .call (.func k_part_FromShape) [(.const (.string ⟨#[117, 40, 106, 40, 118, 118, 41, 118, 41]⟩))], none⟩, []),
 (⟨(some 40), .mov (.tmp 41), none⟩, []),
 (⟨(some 42), .extract (.tmp 40) 0, none⟩, []),
 (⟨(some 43), .extract (.tmp 40) 1, none⟩, []),
 (⟨(some 44), .extract (.tmp 40) 2, none⟩, []),
 (⟨(some 9), .mov (.tmp 42), none⟩, []),
 (⟨(some 10), .mov (.tmp 43), none⟩, []),
 (⟨(some 11), .mov (.tmp 44), none⟩, [])])
 (.seq (.reg [
 (⟨(some 46), .call (.func k_part_FromShape) [(.const (.string ⟨#[117, 40, 118, 106, 40, 118, 118, 41, 41]⟩))], none⟩, []),
 (⟨(some 45), .mov (.tmp 46), none⟩, []),
 (⟨(some 47), .extract (.tmp 45) 0, none⟩, []),
 (⟨(some 48), .extract (.tmp 45) 1, none⟩, []),
 (⟨(some 49), .extract (.tmp 45) 2, none⟩, []),
 (⟨(some 12), .mov (.tmp 47), none⟩, []),
 (⟨(some 13), .mov (.tmp 48), none⟩, []),
 (⟨(some 14), .mov (.tmp 49), none⟩, [])])
 (.seq (.reg [
 (⟨(some 51), .build [.int .i64 0, .int .i64 0] [(0, 1, (.const (.int .i64 0))), (1, 1, (.const (.int .i64 1)))], none⟩, []),
 (⟨(some 52), .build [.int .i64 0, .int .i64 0] [(0, 1, (.const (.int .i64 0))), (1, 1, (.const (.int .i64 2)))], none⟩, []),
 (⟨(some 53), .buildSlice 2 2 [.int .i64 0, .int .i64 0, .int .i64 0, .int .i64 0] [(0, 2, (.tmp 51)), (2, 2, (.tmp 52))], none⟩, []),
 (⟨(some 54), .call (.func k_part_Clique) [(.const (.int .i64 3)), (.tmp 53)], none⟩, []),
 (⟨(some 50), .mov (.tmp 54), none⟩, []),
 (⟨(some 55), .extract (.tmp 50) 0, none⟩, []),
 (⟨(some 56), .extract (.tmp 50) 1, none⟩, []),
 (⟨(some 57), .extract (.tmp 50) 2, none⟩, []),
 (⟨(some 15), .mov (.tmp 55), none⟩, []),
 (⟨(some 16), .mov (.tmp 56), none⟩, []),
 (⟨(some 17), .mov (.tmp 57), none⟩, [])])
 (.seq (.reg [
 (⟨(some 58), .mov (.tmp 3), none⟩, []),
 (⟨(some 59), .bin .eql (.tmp 58) (.const (.int .i64 0)), none⟩, []),
 (⟨(some 60), .mov (.tmp 59), none⟩, []),
 (⟨(some 61), .mov (.tmp 2), (some ((some 60), true))⟩, []),
 (⟨(some 62), .lenSl (.tmp 61), (some ((some 60), true))⟩, []),
 (⟨(some 63), .bin .eql (.tmp 62) (.const (.int .i64 5)), (some ((some 60), true))⟩, []),
 (⟨(some 64), .pick (.tmp 60) (.tmp 63) (.const (.bool false)), none⟩, []),
 (⟨(some 65), .mov (.tmp 64), none⟩, []),
 (⟨(some 66), .mov (.tmp 2), (some ((some 65), true))⟩, []),
 (⟨(some 67), .idxSl 1 (.tmp 66) (.const (.int .i64 4)), (some ((some 65), true))⟩, []),
 (⟨(some 68), .load none (.tmp 67), (some ((some 65), true))⟩, []),
 (⟨(some 69), .bin .eql (.tmp 68) (.const (.int .i64 15)), (some ((some 65), true))⟩, []),
 (⟨(some 70), .pick (.tmp 65) (.tmp 69) (.const (.bool false)), none⟩, []),
 (⟨(some 71), .mov (.tmp 70), none⟩, []),
 (⟨(some 72), .mov (.tmp 6), (some ((some 71), true))⟩, []),
 (⟨(some 73), .bin .eql (.tmp 72) (.const (.int .i64 0)), (some ((some 71), true))⟩, []),
 (⟨(some 74), .pick (.tmp 71) (.tmp 73) (.const (.bool false)), none⟩, []),
 (⟨(some 75), .mov (.tmp 74), none⟩, []),
 (⟨(some 76), .mov (.tmp 5), (some ((some 75), true))⟩, []),
 (⟨(some 77), .pick (.tmp 75) (.tmp 76) (.const (.bool false)), none⟩, []),
 (⟨(some 78), .mov (.tmp 77), none⟩, []),
 (⟨(some 79), .idxArr 4 1 (.tmp 4) (.const (.int .i64 0)), (some ((some 78), true))⟩, []),
 (⟨(some 80), .load none (.tmp 79), (some ((some 78), true))⟩, []),
 (⟨(some 81), .bin .eql (.tmp 80) (.const (.int .i64 0)), (some ((some 78), true))⟩, []),
 (⟨(some 82), .mov (.tmp 81), (some ((some 78), true))⟩, []),
 (⟨(some 83), .idxArr 4 1 (.tmp 4) (.const (.int .i64 0)), (some ((some 82), false))⟩, []),
 (⟨(some 84), .load none (.tmp 83), (some ((some 82), false))⟩, []),
 (⟨(some 85), .bin .eql (.tmp 84) (.const (.int .i64 3)), (some ((some 82), false))⟩, []),
 (⟨(some 86), .pick (.tmp 82) (.const (.bool true)) (.tmp 85), (some ((some 78), true))⟩, []),
 (⟨(some 87), .pick (.tmp 78) (.tmp 86) (.const (.bool false)), none⟩, []),
 (⟨(some 88), .mov (.tmp 87), none⟩, []),
 (⟨(some 89), .mov (.tmp 8), (some ((some 88), true))⟩, []),
 (⟨(some 90), .bin .eql (.tmp 89) (.const (.int .i64 0)), (some ((some 88), true))⟩, []),
 (⟨(some 91), .pick (.tmp 88) (.tmp 90) (.const (.bool false)), none⟩, []),
 (⟨(some 92), .mov (.tmp 91), none⟩, []),
 (⟨(some 93), .mov (.tmp 7), (some ((some 92), true))⟩, []),
 (⟨(some 94), .bin .eql (.tmp 93) (.const (.string ⟨#[106, 40, 117, 40, 118, 118, 41, 118, 41]⟩)), (some ((some 92), true))⟩, []),
 (⟨(some 95), .pick (.tmp 92) (.tmp 94) (.const (.bool false)), none⟩, []),
 (⟨(some 96), .mov (.tmp 95), none⟩, []),
 (⟨(some 97), .mov (.tmp 11), (some ((some 96), true))⟩, []),
 (⟨(some 98), .bin .eql (.tmp 97) (.const (.int .i64 0)), (some ((some 96), true))⟩, []),
 (⟨(some 99), .pick (.tmp 96) (.tmp 98) (.const (.bool false)), none⟩, []),
 (⟨(some 100), .mov (.tmp 99), none⟩, []),
 (⟨(some 101), .mov (.tmp 9), (some ((some 100), true))⟩, []),
 (⟨(some 102), .bin .eql (.tmp 101) (.const (.int .i64 3)), (some ((some 100), true))⟩, []),
 (⟨(some 103), .pick (.tmp 100) (.tmp 102) (.const (.bool false)), none⟩, []),
 (⟨(some 104), .mov (.tmp 103), none⟩, []),
 (⟨(some 105), .mov (.tmp 14), (some ((some 104), true))⟩, []),
 (⟨(some 106), .bin .eql (.tmp 105) (.const (.int .i64 1)), (some ((some 104), true))⟩, []),
 (⟨(some 107), .pick (.tmp 104) (.tmp 106) (.const (.bool false)), none⟩, []),
 (⟨(some 108), .mov (.tmp 107), none⟩, []),
 (⟨(some 109), .mov (.tmp 17), (some ((some 108), true))⟩, []),
 (⟨(some 110), .bin .eql (.tmp 109) (.const (.int .i64 0)), (some ((some 108), true))⟩, []),
 (⟨(some 111), .pick (.tmp 108) (.tmp 110) (.const (.bool false)), none⟩, []),
 (⟨(some 112), .mov (.tmp 111), none⟩, []),
 (⟨(some 113), .mov (.tmp 15), (some ((some 112), true))⟩, []),
 (⟨(some 114), .bin .eql (.tmp 113) (.const (.int .i64 3)), (some ((some 112), true))⟩, []),
 (⟨(some 115), .mov (.tmp 114), (some ((some 112), true))⟩, []),
 (⟨(some 116), .mov (.tmp 15), (some ((some 115), false))⟩, []),
 (⟨(some 117), .bin .eql (.tmp 116) (.const (.int .i64 5)), (some ((some 115), false))⟩, []),
 (⟨(some 118), .pick (.tmp 115) (.const (.bool true)) (.tmp 117), (some ((some 112), true))⟩, []),
 (⟨(some 119), .pick (.tmp 112) (.tmp 118) (.const (.bool false)), none⟩, []),
 (⟨(some 0), .mov (.tmp 119), none⟩, [])])
 (.ret)))))))))⟩
theorem ok_forcolalaw04_awake : FnOK PP k_forcolalaw04_awake v_forcolalaw04_awake := fnOK (fn := Tryd.f17) (by kernel_rfl) (by kernel_rfl) (by kernel_rfl)

/- forcola/part.Shape -/
noncomputable def v_part_Shape : VFn := ⟨25, 2, [.tmp 4, .tmp 5],
  .seq (.reg [
 (⟨(some 4), .mov (.const (.string ⟨#[]⟩)), none⟩, []),
 (⟨(some 5), .mov (.const (.int .i64 0)), none⟩, [])])
 (.seq (.reg [
 (⟨(some 11), .mov (.tmp 0), none⟩, []),
 (⟨(some 12), .mov (.tmp 1), none⟩, []),
 (⟨(some 13), .call (.func k_part_openCograph) [(.tmp 11), (.tmp 12)], none⟩, []),
 (⟨(some 10), .mov (.tmp 13), none⟩, []),
 (⟨(some 14), .extract (.tmp 10) 0, none⟩, []),
 (⟨(some 15), .extract (.tmp 10) 1, none⟩, []),
 (⟨(some 6), .alloc [.int .i64 0, .int .i64 0, .slice none 0 0], none⟩, []),
 (⟨none, .store 3 (.tmp 6) (.tmp 14), none⟩, []),
 (⟨(some 7), .mov (.tmp 15), none⟩, [])])
 (.seq (.seq (.reg [
 (⟨(some 16), .mov (.tmp 7), none⟩, []),
 (⟨(some 17), .bin .neq (.tmp 16) (.const (.int .i64 0)), none⟩, [])])
 (.cond (.tmp 17) (.seq (.reg [
 (⟨(some 18), .mov (.tmp 7), none⟩, []),
 (⟨(some 4), .mov (.const (.string ⟨#[]⟩)), none⟩, []),
 (⟨(some 5), .mov (.tmp 18), none⟩, [])])
 (.ret))
 (.skip)))
 (.seq (.reg [
 (⟨(some 20), .load (some 3) (.tmp 6), none⟩, []),
 (⟨(some 21), .call (.func k_part_Tree_shape) [(.tmp 20)], none⟩, []),
 (⟨(some 19), .mov (.tmp 21), none⟩, []),
 (⟨(some 22), .extract (.tmp 19) 0, none⟩, []),
 (⟨(some 23), .extract (.tmp 19) 1, none⟩, []),
 (⟨(some 8), .mov (.tmp 22), none⟩, []),
 (⟨(some 9), .mov (.tmp 23), none⟩, [])])
 (.seq (.reg [
 (⟨(some 24), .mov (.tmp 8), none⟩, []),
 (⟨(some 4), .mov (.tmp 24), none⟩, []),
 (⟨(some 5), .mov (.const (.int .i64 0)), none⟩, [])])
 (.ret)))))⟩
theorem ok_part_Shape : FnOK PP k_part_Shape v_part_Shape := fnOK (fn := Tryd.f18) (by kernel_rfl) (by kernel_rfl) (by kernel_rfl)

/- forcola/part.Clique -/
noncomputable def v_part_Clique : VFn := ⟨31, 2, [.tmp 4, .tmp 5, .tmp 6],
  .seq (.reg [
 (⟨(some 4), .mov (.const (.int .i64 0)), none⟩, []),
 (⟨(some 5), .mov (.const (.slice none 0 0)), none⟩, []),
 (⟨(some 6), .mov (.const (.int .i64 0)), none⟩, [])])
 (.seq (.reg [
 (⟨(some 13), .mov (.tmp 0), none⟩, []),
 (⟨(some 14), .mov (.tmp 1), none⟩, []),
 (⟨(some 15), .call (.func k_part_openCograph) [(.tmp 13), (.tmp 14)], none⟩, []),
 (⟨(some 12), .mov (.tmp 15), none⟩, []),
 (⟨(some 16), .extract (.tmp 12) 0, none⟩, []),
 (⟨(some 17), .extract (.tmp 12) 1, none⟩, []),
 (⟨(some 7), .alloc [.int .i64 0, .int .i64 0, .slice none 0 0], none⟩, []),
 (⟨none, .store 3 (.tmp 7) (.tmp 16), none⟩, []),
 (⟨(some 8), .mov (.tmp 17), none⟩, [])])
 (.seq (.seq (.reg [
 (⟨(some 18), .mov (.tmp 8), none⟩, []),
 (⟨(some 19), .bin .neq (.tmp 18) (.const (.int .i64 0)), none⟩, [])])
 (.cond (.tmp 19) (.seq (.reg [
 (⟨(some 20), .mov (.tmp 8), none⟩, []),
 (⟨(some 4), .mov (.const (.int .i64 0)), none⟩, []),
 (⟨(some 5), .mov (.const (.slice none 0 0)), none⟩, []),
 (⟨(some 6), .mov (.tmp 20), none⟩, [])])
 (.ret))
 (.skip)))
 (.seq (.reg [
 (⟨(some 21), .mov (.tmp 0), none⟩, []),
 (⟨(some 22), .mkSlice 1 8 [.int .i64 0] (.tmp 21) (.tmp 21), none⟩, []),
 (⟨(some 9), .mov (.tmp 22), none⟩, [])])
 (.seq (.reg [
 (⟨(some 24), .load (some 3) (.tmp 7), none⟩, []),
 (⟨(some 25), .mov (.tmp 9), none⟩, []),
 (⟨(some 26), .call (.func k_part_Tree_clique) [(.tmp 24), (.const (.int .i64 0)), (.tmp 25)], none⟩, []),
 (⟨(some 23), .mov (.tmp 26), none⟩, []),
 (⟨(some 27), .extract (.tmp 23) 0, none⟩, []),
 (⟨(some 28), .extract (.tmp 23) 1, none⟩, []),
 (⟨(some 10), .mov (.tmp 27), none⟩, []),
 (⟨(some 11), .mov (.tmp 28), none⟩, [])])
 (.seq (.reg [
 (⟨(some 29), .mov (.tmp 10), none⟩, []),
 (⟨(some 30), .mov (.tmp 9), none⟩, []),
 (⟨(some 4), .mov (.tmp 29), none⟩, []),
 (⟨(some 5), .mov (.tmp 30), none⟩, []),
 (⟨(some 6), .mov (.const (.int .i64 0)), none⟩, [])])
 (.ret))))))⟩
theorem ok_part_Clique : FnOK PP k_part_Clique v_part_Clique := fnOK (fn := Tryd.f19) (by kernel_rfl) (by kernel_rfl) (by kernel_rfl)

/- forcola/part.FromShape -/
noncomputable def v_part_FromShape : VFn := ⟨60, 1, [.tmp 2, .tmp 3, .tmp 4],
  .seq (.reg [
 (⟨(some 2), .mov (.const (.int .i64 0)), none⟩, []),
 (⟨(some 3), .mov (.const (.slice none 0 0)), none⟩, []),
 (⟨(some 4), .mov (.const (.int .i64 0)), none⟩, [])])
 (.seq (.seq (.reg [
 (⟨(some 9), .mov (.tmp 0), none⟩, []),
 (⟨(some 10), .lenStr (.tmp 9), none⟩, []),
 (⟨(some 11), .bin .gtr (.tmp 10) (.const (.int .i64 100)), none⟩, [])])
 (.cond (.tmp 11) (.seq (.reg [
 (⟨(some 2), .mov (.const (.int .i64 0)), none⟩, []),
 (⟨(some 3), .mov (.const (.slice none 0 0)), none⟩, []),
 (⟨(some 4), .mov (.const (.int .i64 2)), none⟩, [])])
 (.ret))
 (.skip)))
 (.seq (.reg [
 (⟨(some 12), .mov (.tmp 0), none⟩, []),
 (⟨(some 13), .build [.string ⟨#[]⟩, .int .i64 0, .int .i64 0, .int .i64 0, .int .i64 0, .int .i64 0, .int .i64 0, .int .i64 0, .int .i64 0, .int .i64 0, .int .i64 0, .int .i64 0, .int .i64 0, .int .i64 0, .int .i64 0, .int .i64 0, .int .i64 0, .int .i64 0] [(0, 1, (.tmp 12))], none⟩, []),
 (⟨(some 14), .box (.tmp 13), none⟩, []),
 (⟨(some 5), .mov (.tmp 14), none⟩, [])])
 (.seq (.seq (.reg [
 (⟨(some 15), .mov (.tmp 5), none⟩, []),
 (⟨(some 16), .call (.func k_part_reader_node) [(.tmp 15)], none⟩, []),
 (⟨(some 17), .bin .eql (.tmp 16) (.const (.int .i64 0)), none⟩, []),
 (⟨(some 18), .mov (.tmp 17), none⟩, []),
 (⟨(some 19), .mov (.tmp 5), (some ((some 18), false))⟩, []),
 (⟨(some 20), .nilCheck (.tmp 19), (some ((some 18), false))⟩, []),
 (⟨(some 21), .fieldAddr 0 (.tmp 20), (some ((some 18), false))⟩, []),
 (⟨(some 22), .load none (.tmp 21), (some ((some 18), false))⟩, []),
 (⟨(some 23), .bin .neq (.tmp 22) (.const (.string ⟨#[]⟩)), (some ((some 18), false))⟩, []),
 (⟨(some 24), .pick (.tmp 18) (.const (.bool true)) (.tmp 23), none⟩, []),
 (⟨(some 25), .mov (.tmp 24), none⟩, []),
 (⟨(some 26), .mov (.tmp 5), (some ((some 25), false))⟩, []),
 (⟨(some 27), .nilCheck (.tmp 26), (some ((some 25), false))⟩, []),
 (⟨(some 28), .fieldAddr 1 (.tmp 27), (some ((some 25), false))⟩, []),
 (⟨(some 29), .fieldAddr 0 (.tmp 28), (some ((some 25), false))⟩, []),
 (⟨(some 30), .load none (.tmp 29), (some ((some 25), false))⟩, []),
 (⟨(some 31), .bin .gtr (.tmp 30) (.const (.int .i64 16)), (some ((some 25), false))⟩, []),
 (⟨(some 32), .pick (.tmp 25) (.const (.bool true)) (.tmp 31), none⟩, [])])
 (.cond (.tmp 32) (.seq (.reg [
 (⟨(some 2), .mov (.const (.int .i64 0)), none⟩, []),
 (⟨(some 3), .mov (.const (.slice none 0 0)), none⟩, []),
 (⟨(some 4), .mov (.const (.int .i64 1)), none⟩, [])])
 (.ret))
 (.skip)))
 (.seq (.reg [
 (⟨(some 33), .mov (.tmp 5), none⟩, []),
 (⟨(some 34), .nilCheck (.tmp 33), none⟩, []),
 (⟨(some 35), .fieldAddr 1 (.tmp 34), none⟩, []),
 (⟨(some 36), .call (.func k_part_graph_edges) [(.tmp 35)], none⟩, []),
 (⟨(some 6), .mov (.tmp 36), none⟩, [])])
 (.seq (.seq (.reg [
 (⟨(some 38), .mov (.tmp 5), none⟩, []),
 (⟨(some 39), .nilCheck (.tmp 38), none⟩, []),
 (⟨(some 40), .fieldAddr 1 (.tmp 39), none⟩, []),
 (⟨(some 41), .fieldAddr 0 (.tmp 40), none⟩, []),
 (⟨(some 42), .load none (.tmp 41), none⟩, []),
 (⟨(some 43), .mov (.tmp 6), none⟩, []),
 (⟨(some 44), .call (.func k_part_Shape) [(.tmp 42), (.tmp 43)], none⟩, []),
 (⟨(some 37), .mov (.tmp 44), none⟩, []),
 (⟨(some 45), .extract (.tmp 37) 0, none⟩, []),
 (⟨(some 46), .extract (.tmp 37) 1, none⟩, []),
 (⟨(some 7), .mov (.tmp 45), none⟩, []),
 (⟨(some 8), .mov (.tmp 46), none⟩, [])])
 (.seq (.reg [
 (⟨(some 47), .mov (.tmp 8), none⟩, []),
 (⟨(some 48), .bin .neq (.tmp 47) (.const (.int .i64 0)), none⟩, []),
 (⟨(some 49), .mov (.tmp 48), none⟩, []),
 (⟨(some 50), .mov (.tmp 7), (some ((some 49), false))⟩, []),
 (⟨(some 51), .mov (.tmp 0), (some ((some 49), false))⟩, []),
 (⟨(some 52), .bin .neq (.tmp 50) (.tmp 51), (some ((some 49), false))⟩, []),
 (⟨(some 53), .pick (.tmp 49) (.const (.bool true)) (.tmp 52), none⟩, [])])
 (.cond (.tmp 53) (.seq (.reg [
 (⟨(some 2), .mov (.const (.int .i64 0)), none⟩, []),
 (⟨(some 3), .mov (.const (.slice none 0 0)), none⟩, []),
 (⟨(some 4), .mov (.const (.int .i64 1)), none⟩, [])])
 (.ret))
 (.skip))))
 (.seq (.reg [
 (⟨(some 54), .mov (.tmp 5), none⟩, []),
 (⟨(some 55), .nilCheck (.tmp 54), none⟩, []),
 (⟨(some 56), .fieldAddr 1 (.tmp 55), none⟩, []),
 (⟨(some 57), .fieldAddr 0 (.tmp 56), none⟩, []),
 (⟨(some 58), .load none (.tmp 57), none⟩, []),
 (⟨(some 59), .mov (.tmp 6), none⟩, []),
 (⟨(some 2), .mov (.tmp 58), none⟩, []),
 (⟨(some 3), .mov (.tmp 59), none⟩, []),
 (⟨(some 4), .mov (.const (.int .i64 0)), none⟩, [])])
 (.ret)))))))⟩
theorem ok_part_FromShape : FnOK PP k_part_FromShape v_part_FromShape := fnOK (fn := Tryd.f27) (by kernel_rfl) (by kernel_rfl) (by kernel_rfl)

/- forcola/forcolaref04.Listed -/
noncomputable def v_forcolaref04_Listed : VFn := ⟨35, 1, [.tmp 2],
  .seq (.reg [
 (⟨(some 2), .mov (.const (.slice none 0 0)), none⟩, [])])
 (.seq (.reg [
 (⟨(some 3), .mov (.const (.slice none 0 0)), none⟩, [])])
 (.seq (.seq (.reg [
 (⟨(some 4), .mov (.const (.int .i64 0)), none⟩, [])])
 (.block 0 (.loop (.seq (.seq (.reg [
 (⟨(some 6), .mov (.tmp 4), none⟩, []),
 (⟨(some 7), .mov (.tmp 0), none⟩, []),
 (⟨(some 8), .lenSl (.tmp 7), none⟩, []),
 (⟨(some 9), .bin .lss (.tmp 6) (.tmp 8), none⟩, [])])
 (.cond (.tmp 9) (.skip)
 (.exit 0)))
 (.seq (.block 1 (.seq (.reg [
 (⟨(some 12), .mov (.tmp 4), none⟩, []),
 (⟨(some 13), .bin .add (.tmp 12) (.const (.int .i64 1)), none⟩, []),
 (⟨(some 5), .mov (.tmp 13), none⟩, [])])
 (.block 2 (.loop (.seq (.seq (.reg [
 (⟨(some 14), .mov (.tmp 5), none⟩, []),
 (⟨(some 15), .mov (.tmp 0), none⟩, []),
 (⟨(some 16), .lenSl (.tmp 15), none⟩, []),
 (⟨(some 17), .bin .lss (.tmp 14) (.tmp 16), none⟩, [])])
 (.cond (.tmp 17) (.skip)
 (.exit 2)))
 (.seq (.block 3 (.seq (.reg [
 (⟨(some 20), .mov (.tmp 0), none⟩, []),
 (⟨(some 21), .mov (.tmp 4), none⟩, []),
 (⟨(some 22), .idxSl 1 (.tmp 20) (.tmp 21), none⟩, []),
 (⟨(some 23), .load none (.tmp 22), none⟩, []),
 (⟨(some 24), .mov (.tmp 5), none⟩, []),
 (⟨(some 25), .bin .shr (.tmp 23) (.tmp 24), none⟩, []),
 (⟨(some 26), .bin .rem (.tmp 25) (.const (.int .i64 2)), none⟩, []),
 (⟨(some 27), .bin .eql (.tmp 26) (.const (.int .i64 1)), none⟩, [])])
 (.cond (.tmp 27) (.reg [
 (⟨(some 28), .mov (.tmp 3), none⟩, []),
 (⟨(some 29), .mov (.tmp 4), none⟩, []),
 (⟨(some 30), .mov (.tmp 5), none⟩, []),
 (⟨(some 31), .build [.int .i64 0, .int .i64 0] [(0, 1, (.tmp 29)), (1, 1, (.tmp 30))], none⟩, []),
 (⟨(some 32), .buildSlice 2 1 [.int .i64 0, .int .i64 0] [(0, 2, (.tmp 31))], none⟩, []),
 (⟨(some 33), .append 2 (.tmp 28) (.tmp 32), none⟩, []),
 (⟨(some 3), .mov (.tmp 33), none⟩, [])])
 (.skip))))
 (.reg [
 (⟨(some 18), .mov (.tmp 5), none⟩, []),
 (⟨(some 19), .bin .add (.tmp 18) (.const (.int .i64 1)), none⟩, []),
 (⟨(some 5), .mov (.tmp 19), none⟩, [])])))))))
 (.reg [
 (⟨(some 10), .mov (.tmp 4), none⟩, []),
 (⟨(some 11), .bin .add (.tmp 10) (.const (.int .i64 1)), none⟩, []),
 (⟨(some 4), .mov (.tmp 11), none⟩, [])]))))))
 (.seq (.reg [
 (⟨(some 34), .mov (.tmp 3), none⟩, []),
 (⟨(some 2), .mov (.tmp 34), none⟩, [])])
 (.ret))))⟩
theorem ok_forcolaref04_Listed : FnOK PP k_forcolaref04_Listed v_forcolaref04_Listed := fnOK (fn := Tryd.f30) (by kernel_rfl) (by kernel_rfl) (by kernel_rfl)

/- forcola/part.Modules -/
noncomputable def v_part_Modules : VFn := ⟨38, 2, [.tmp 4, .tmp 5],
  .seq (.reg [
 (⟨(some 4), .mov (.const (.slice none 0 0)), none⟩, []),
 (⟨(some 5), .mov (.const (.int .i64 0)), none⟩, [])])
 (.seq (.reg [
 (⟨(some 11), .mov (.tmp 0), none⟩, []),
 (⟨(some 12), .mov (.tmp 1), none⟩, []),
 (⟨(some 13), .call (.func k_part_open) [(.tmp 11), (.tmp 12)], none⟩, []),
 (⟨(some 10), .mov (.tmp 13), none⟩, []),
 (⟨(some 14), .extract (.tmp 10) 0, none⟩, []),
 (⟨(some 15), .extract (.tmp 10) 1, none⟩, []),
 (⟨(some 6), .mov (.tmp 14), none⟩, []),
 (⟨(some 7), .mov (.tmp 15), none⟩, [])])
 (.seq (.seq (.reg [
 (⟨(some 16), .mov (.tmp 7), none⟩, []),
 (⟨(some 17), .bin .neq (.tmp 16) (.const (.int .i64 0)), none⟩, [])])
 (.cond (.tmp 17) (.seq (.reg [
 (⟨(some 18), .mov (.tmp 7), none⟩, []),
 (⟨(some 4), .mov (.const (.slice none 0 0)), none⟩, []),
 (⟨(some 5), .mov (.tmp 18), none⟩, [])])
 (.ret))
 (.skip)))
 (.seq (.seq (.reg [
 (⟨(some 19), .mov (.tmp 0), none⟩, []),
 (⟨(some 20), .bin .gtr (.tmp 19) (.const (.int .i64 10)), none⟩, [])])
 (.cond (.tmp 20) (.seq (.reg [
 (⟨(some 4), .mov (.const (.slice none 0 0)), none⟩, []),
 (⟨(some 5), .mov (.const (.int .i64 2)), none⟩, [])])
 (.ret))
 (.skip)))
 (.seq (.reg [
 (⟨(some 8), .mov (.const (.slice none 0 0)), none⟩, [])])
 (.seq (.seq (.reg [
 (⟨(some 9), .mov (.const (.int .i64 1)), none⟩, [])])
 (.block 0 (.loop (.seq (.seq (.reg [
 (⟨(some 21), .mov (.tmp 9), none⟩, []),
 (⟨(some 22), .mov (.tmp 6), none⟩, []),
 (⟨(some 23), .call (.func k_part_graph_all) [(.tmp 22)], none⟩, []),
 (⟨(some 24), .bin .leq (.tmp 21) (.tmp 23), none⟩, [])])
 (.cond (.tmp 24) (.skip)
 (.exit 0)))
 (.seq (.block 1 (.seq (.reg [
 (⟨(some 27), .mov (.tmp 6), none⟩, []),
 (⟨(some 28), .mov (.tmp 9), none⟩, []),
 (⟨(some 29), .mov (.tmp 6), none⟩, []),
 (⟨(some 30), .call (.func k_part_graph_all) [(.tmp 29)], none⟩, []),
 (⟨(some 31), .call (.func k_part_graph_splitters) [(.tmp 27), (.tmp 28), (.tmp 30)], none⟩, []),
 (⟨(some 32), .bin .eql (.tmp 31) (.const (.int .i64 0)), none⟩, [])])
 (.cond (.tmp 32) (.reg [
 (⟨(some 33), .mov (.tmp 8), none⟩, []),
 (⟨(some 34), .mov (.tmp 9), none⟩, []),
 (⟨(some 35), .buildSlice 1 1 [.int .i64 0] [(0, 1, (.tmp 34))], none⟩, []),
 (⟨(some 36), .append 1 (.tmp 33) (.tmp 35), none⟩, []),
 (⟨(some 8), .mov (.tmp 36), none⟩, [])])
 (.skip))))
 (.reg [
 (⟨(some 25), .mov (.tmp 9), none⟩, []),
 (⟨(some 26), .bin .add (.tmp 25) (.const (.int .i64 1)), none⟩, []),
 (⟨(some 9), .mov (.tmp 26), none⟩, [])]))))))
 (.seq (.reg [
 (⟨(some 37), .mov (.tmp 8), none⟩, []),
 (⟨(some 4), .mov (.tmp 37), none⟩, []),
 (⟨(some 5), .mov (.const (.int .i64 0)), none⟩, [])])
 (.ret)))))))⟩
theorem ok_part_Modules : FnOK PP k_part_Modules v_part_Modules := fnOK (fn := Tryd.f32) (by kernel_rfl) (by kernel_rfl) (by kernel_rfl)

/- forcola/part.Split -/
noncomputable def v_part_Split : VFn := ⟨25, 2, [.cell (some 3) 4, .tmp 5],
  .seq (.reg [
 (⟨(some 4), .alloc [.int .i64 0, .int .i64 0, .slice none 0 0], none⟩, []),
 (⟨(some 5), .mov (.const (.int .i64 0)), none⟩, [])])
 (.seq (.reg [
 (⟨(some 9), .mov (.tmp 0), none⟩, []),
 (⟨(some 10), .mov (.tmp 1), none⟩, []),
 (⟨(some 11), .call (.func k_part_opened) [(.tmp 9), (.tmp 10)], none⟩, []),
 (⟨(some 8), .mov (.tmp 11), none⟩, []),
 (⟨(some 12), .extract (.tmp 8) 0, none⟩, []),
 (⟨(some 13), .extract (.tmp 8) 1, none⟩, []),
 (⟨(some 6), .mov (.tmp 12), none⟩, []),
 (⟨(some 7), .mov (.tmp 13), none⟩, [])])
 (.seq (.seq (.reg [
 (⟨(some 14), .mov (.tmp 7), none⟩, []),
 (⟨(some 15), .bin .neq (.tmp 14) (.const (.int .i64 0)), none⟩, [])])
 (.cond (.tmp 15) (.seq (.reg [
 (⟨(some 16), .build [.int .i64 0, .int .i64 0, .slice none 0 0] [], none⟩, []),
 (⟨(some 17), .mov (.tmp 7), none⟩, []),
 (⟨none, .store 3 (.tmp 4) (.tmp 16), none⟩, []),
 (⟨(some 5), .mov (.tmp 17), none⟩, [])])
 (.ret))
 (.skip)))
 (.seq (.reg [
 (⟨(some 18), .mov (.tmp 6), none⟩, []),
 (⟨(some 19), .mov (.tmp 6), none⟩, []),
 (⟨(some 20), .nilCheck (.tmp 19), none⟩, []),
 (⟨(some 21), .fieldAddr 0 (.tmp 20), none⟩, []),
 (⟨(some 22), .load none (.tmp 21), none⟩, []),
 (⟨(some 23), .call (.func k_part_graph_all) [(.tmp 22)], none⟩, []),
 (⟨(some 24), .call (.func k_part_splitter_tree) [(.tmp 18), (.tmp 23), (.func k_part_Split_1)], none⟩, []),
 (⟨none, .store 3 (.tmp 4) (.tmp 24), none⟩, []),
 (⟨(some 5), .mov (.const (.int .i64 0)), none⟩, [])])
 (.ret))))⟩
theorem ok_part_Split : FnOK PP k_part_Split v_part_Split := fnOK (fn := Tryd.f34) (by kernel_rfl) (by kernel_rfl) (by kernel_rfl)

/- forcola/part.Check -/
noncomputable def v_part_Check : VFn := ⟨45, 2, [.tmp 4],
  .seq (.reg [
 (⟨(some 4), .mov (.const (.int .i64 0)), none⟩, [])])
 (.seq (.seq (.reg [
 (⟨(some 8), .mov (.tmp 0), none⟩, []),
 (⟨(some 9), .bin .lss (.tmp 8) (.const (.int .i64 1)), none⟩, []),
 (⟨(some 10), .mov (.tmp 9), none⟩, []),
 (⟨(some 11), .mov (.tmp 0), (some ((some 10), false))⟩, []),
 (⟨(some 12), .bin .gtr (.tmp 11) (.const (.int .i64 16)), (some ((some 10), false))⟩, []),
 (⟨(some 13), .pick (.tmp 10) (.const (.bool true)) (.tmp 12), none⟩, [])])
 (.cond (.tmp 13) (.seq (.reg [
 (⟨(some 4), .mov (.const (.int .i64 1)), none⟩, [])])
 (.ret))
 (.skip)))
 (.seq (.reg [
 (⟨(some 14), .build [.int .i64 0, .int .i64 0] [(0, 1, (.const (.int .i64 (-1)))), (1, 1, (.const (.int .i64 (-1))))], none⟩, []),
 (⟨(some 5), .alloc [.int .i64 0, .int .i64 0], none⟩, []),
 (⟨none, .store 2 (.tmp 5) (.tmp 14), none⟩, [])])
 (.seq (.seq (.reg [
 (⟨(some 15), .mov (.tmp 1), none⟩, []),
 (⟨(some 16), .lenSl (.tmp 15), none⟩, []),
 (⟨(some 17), .mov (.const (.int .i64 0)), none⟩, [])])
 (.block 0 (.loop (.seq (.reg [
 (⟨(some 18), .bin .lss (.tmp 17) (.tmp 16), none⟩, [])])
 (.seq (.cond (.tmp 18) (.skip)
 (.exit 0))
 (.seq (.block 1 (.seq (.reg [
 (⟨(some 19), .idxSl 2 (.tmp 15) (.tmp 17), none⟩, []),
 (⟨(some 20), .load (some 2) (.tmp 19), none⟩, []),
 (⟨(some 7), .alloc [.int .i64 0, .int .i64 0], none⟩, []),
 (⟨none, .store 2 (.tmp 7) (.tmp 20), none⟩, [])])
 (.seq (.seq (.reg [
 (⟨(some 21), .sliceArr 2 1 (.tmp 7) none none none, none⟩, []),
 (⟨(some 22), .sliceArr 2 1 (.tmp 5) none none none, none⟩, []),
 (⟨(some 23), .call (.func k_slices_Compareint_int) [(.tmp 21), (.tmp 22)], none⟩, []),
 (⟨(some 24), .bin .leq (.tmp 23) (.const (.int .i64 0)), none⟩, []),
 (⟨(some 25), .mov (.tmp 24), none⟩, []),
 (⟨(some 26), .idxArr 2 1 (.tmp 7) (.const (.int .i64 0)), (some ((some 25), false))⟩, []),
 (⟨(some 27), .load none (.tmp 26), (some ((some 25), false))⟩, []),
 (⟨(some 28), .bin .lss (.tmp 27) (.const (.int .i64 0)), (some ((some 25), false))⟩, []),
 (⟨(some 29), .pick (.tmp 25) (.const (.bool true)) (.tmp 28), none⟩, []),
 (⟨(some 30), .mov (.tmp 29), none⟩, []),
 (⟨(some 31), .idxArr 2 1 (.tmp 7) (.const (.int .i64 0)), (some ((some 30), false))⟩, []),
 (⟨(some 32), .load none (.tmp 31), (some ((some 30), false))⟩, []),
 (⟨(some 33), .idxArr 2 1 (.tmp 7) (.const (.int .i64 1)), (some ((some 30), false))⟩, []),
 (⟨(some 34), .load none (.tmp 33), (some ((some 30), false))⟩, []),
 (⟨(some 35), .bin .geq (.tmp 32) (.tmp 34), (some ((some 30), false))⟩, []),
 (⟨(some 36), .pick (.tmp 30) (.const (.bool true)) (.tmp 35), none⟩, []),
 (⟨(some 37), .mov (.tmp 36), none⟩, []),
 (⟨(some 38), .idxArr 2 1 (.tmp 7) (.const (.int .i64 1)), (some ((some 37), false))⟩, []),
 (⟨(some 39), .load none (.tmp 38), (some ((some 37), false))⟩, []),
 (⟨(some 40), .mov (.tmp 0), (some ((some 37), false))⟩, []),
 (⟨(some 41), .bin .geq (.tmp 39) (.tmp 40), (some ((some 37), false))⟩, []),
 (⟨(some 42), .pick (.tmp 37) (.const (.bool true)) (.tmp 41), none⟩, [])])
 (.cond (.tmp 42) (.seq (.reg [
 (⟨(some 4), .mov (.const (.int .i64 40)), none⟩, [])])
 (.ret))
 (.skip)))
 (.reg [
 (⟨(some 43), .load (some 2) (.tmp 7), none⟩, []),
 (⟨none, .store 2 (.tmp 5) (.tmp 43), none⟩, [])]))))
 (.reg [
 (⟨(some 44), .bin .add (.tmp 17) (.const (.int .i64 1)), none⟩, []),
 (⟨(some 17), .mov (.tmp 44), none⟩, [])])))))))
 (.seq (.reg [
 (⟨(some 4), .mov (.const (.int .i64 0)), none⟩, [])])
 (.ret)))))⟩
theorem ok_part_Check : FnOK PP k_part_Check v_part_Check := fnOK (fn := Tryd.f49) (by kernel_rfl) (by kernel_rfl) (by kernel_rfl)

/- forcola/part.open -/
noncomputable def v_part_open : VFn := ⟨57, 2, [.tmp 4, .tmp 5],
  .seq (.reg [
 (⟨(some 4), .mov (.const (.pointer none)), none⟩, []),
 (⟨(some 5), .mov (.const (.int .i64 0)), none⟩, [])])
 (.seq (.seq (.reg [
 (⟨(some 10), .mov (.tmp 0), none⟩, []),
 (⟨(some 11), .mov (.tmp 1), none⟩, []),
 (⟨(some 12), .call (.func k_part_Check) [(.tmp 10), (.tmp 11)], none⟩, []),
 (⟨(some 6), .mov (.tmp 12), none⟩, [])])
 (.seq (.reg [
 (⟨(some 13), .mov (.tmp 6), none⟩, []),
 (⟨(some 14), .bin .neq (.tmp 13) (.const (.int .i64 0)), none⟩, [])])
 (.cond (.tmp 14) (.seq (.reg [
 (⟨(some 15), .mov (.tmp 6), none⟩, []),
 (⟨(some 4), .mov (.const (.pointer none)), none⟩, []),
 (⟨(some 5), .mov (.tmp 15), none⟩, [])])
 (.ret))
 (.skip))))
 (.seq (.reg [
 (⟨(some 16), .mov (.tmp 0), none⟩, []),
 (⟨(some 17), .build [.int .i64 0, .int .i64 0, .int .i64 0, .int .i64 0, .int .i64 0, .int .i64 0, .int .i64 0, .int .i64 0, .int .i64 0, .int .i64 0, .int .i64 0, .int .i64 0, .int .i64 0, .int .i64 0, .int .i64 0, .int .i64 0, .int .i64 0] [(0, 1, (.tmp 16))], none⟩, []),
 (⟨(some 18), .box (.tmp 17), none⟩, []),
 (⟨(some 7), .mov (.tmp 18), none⟩, [])])
 (.seq (.seq (.reg [
 (⟨(some 19), .mov (.tmp 1), none⟩, []),
 (⟨(some 20), .lenSl (.tmp 19), none⟩, []),
 (⟨(some 21), .mov (.const (.int .i64 0)), none⟩, [])])
 (.block 0 (.loop (.seq (.reg [
 (⟨(some 22), .bin .lss (.tmp 21) (.tmp 20), none⟩, [])])
 (.seq (.cond (.tmp 22) (.skip)
 (.exit 0))
 (.seq (.block 1 (.seq (.reg [
 (⟨(some 23), .idxSl 2 (.tmp 19) (.tmp 21), none⟩, []),
 (⟨(some 24), .load (some 2) (.tmp 23), none⟩, []),
 (⟨(some 9), .alloc [.int .i64 0, .int .i64 0], none⟩, []),
 (⟨none, .store 2 (.tmp 9) (.tmp 24), none⟩, [])])
 (.seq (.reg [
 (⟨(some 25), .mov (.tmp 7), none⟩, []),
 (⟨(some 26), .idxArr 2 1 (.tmp 9) (.const (.int .i64 0)), none⟩, []),
 (⟨(some 27), .load none (.tmp 26), none⟩, []),
 (⟨(some 28), .nilCheck (.tmp 25), none⟩, []),
 (⟨(some 29), .fieldAddr 1 (.tmp 28), none⟩, []),
 (⟨(some 30), .idxArr 16 1 (.tmp 29) (.tmp 27), none⟩, []),
 (⟨(some 31), .load none (.tmp 30), none⟩, []),
 (⟨(some 32), .idxArr 2 1 (.tmp 9) (.const (.int .i64 1)), none⟩, []),
 (⟨(some 33), .load none (.tmp 32), none⟩, []),
 (⟨(some 34), .conv .u64 (.tmp 33), none⟩, []),
 (⟨(some 35), .bin .shl (.const (.int .i64 1)) (.tmp 34), none⟩, []),
 (⟨(some 36), .bin .or (.tmp 31) (.tmp 35), none⟩, []),
 (⟨(some 37), .nilCheck (.tmp 25), none⟩, []),
 (⟨(some 38), .fieldAddr 1 (.tmp 37), none⟩, []),
 (⟨(some 39), .idxArr 16 1 (.tmp 38) (.tmp 27), none⟩, []),
 (⟨none, .store 1 (.tmp 39) (.tmp 36), none⟩, [])])
 (.reg [
 (⟨(some 40), .mov (.tmp 7), none⟩, []),
 (⟨(some 41), .idxArr 2 1 (.tmp 9) (.const (.int .i64 1)), none⟩, []),
 (⟨(some 42), .load none (.tmp 41), none⟩, []),
 (⟨(some 43), .nilCheck (.tmp 40), none⟩, []),
 (⟨(some 44), .fieldAddr 1 (.tmp 43), none⟩, []),
 (⟨(some 45), .idxArr 16 1 (.tmp 44) (.tmp 42), none⟩, []),
 (⟨(some 46), .load none (.tmp 45), none⟩, []),
 (⟨(some 47), .idxArr 2 1 (.tmp 9) (.const (.int .i64 0)), none⟩, []),
 (⟨(some 48), .load none (.tmp 47), none⟩, []),
 (⟨(some 49), .conv .u64 (.tmp 48), none⟩, []),
 (⟨(some 50), .bin .shl (.const (.int .i64 1)) (.tmp 49), none⟩, []),
 (⟨(some 51), .bin .or (.tmp 46) (.tmp 50), none⟩, []),
 (⟨(some 52), .nilCheck (.tmp 40), none⟩, []),
 (⟨(some 53), .fieldAddr 1 (.tmp 52), none⟩, []),
 (⟨(some 54), .idxArr 16 1 (.tmp 53) (.tmp 42), none⟩, []),
 (⟨none, .store 1 (.tmp 54) (.tmp 51), none⟩, [])]))))
 (.reg [
 (⟨(some 55), .bin .add (.tmp 21) (.const (.int .i64 1)), none⟩, []),
 (⟨(some 21), .mov (.tmp 55), none⟩, [])])))))))
 (.seq (.reg [
 (⟨(some 56), .mov (.tmp 7), none⟩, []),
 (⟨(some 4), .mov (.tmp 56), none⟩, []),
 (⟨(some 5), .mov (.const (.int .i64 0)), none⟩, [])])
 (.ret)))))⟩
theorem ok_part_open : FnOK PP k_part_open v_part_open := fnOK (fn := Tryd.f50) (by kernel_rfl) (by kernel_rfl) (by kernel_rfl)

noncomputable def ca_part_graph_path_2 : Code := rA Tryd.f51 2
noncomputable def cb_part_graph_path_2 : Code := rB Tryd.f51 2
noncomputable def a_part_graph_path_2 : VC := .reg [
 (⟨(some 7), .mov (.tmp 67), none⟩, [])]
noncomputable def b_part_graph_path_2 : VC := .block 7 (.seq (.reg [
 (⟨(some 68), .load none (.tmp 6), none⟩, []),
 (⟨(some 69), .load none (.tmp 4), none⟩, []),
 (⟨(some 70), .load none (.tmp 5), none⟩, []),
 (⟨(some 71), .mov (.tmp 7), none⟩, []),
 (⟨(some 72), .build [.int .i64 0, .int .i64 0, .int .i64 0, .int .i64 0] [(0, 1, (.tmp 68)), (1, 1, (.tmp 69)), (2, 1, (.tmp 70)), (3, 1, (.tmp 71))], none⟩, []),
 (⟨none, .store 4 (.tmp 2) (.tmp 72), none⟩, []),
 (⟨none, .store 1 (.tmp 3) (.const (.bool true)), none⟩, [])])
 (.exit 0))
theorem oka_part_graph_path_2 : cc PP 76 ca_part_graph_path_2 = some a_part_graph_path_2 := by kernel_rfl
theorem okb_part_graph_path_2 : cc PP 76 cb_part_graph_path_2 = some b_part_graph_path_2 := by kernel_rfl

noncomputable def ca_part_graph_path_1 : Code := rA Tryd.f51 1
noncomputable def cb_part_graph_path_1 : Code := rB Tryd.f51 1
noncomputable def a_part_graph_path_1 : VC := .reg [
 (⟨(some 6), .alloc [.int .i64 0], none⟩, []),
 (⟨none, .store 1 (.tmp 6) (.tmp 41), none⟩, [])]
noncomputable def b_part_graph_path_1 : VC := .block 5 (.seq (.reg [
 (⟨(some 42), .load none (.tmp 1), none⟩, []),
 (⟨(some 43), .load none (.tmp 5), none⟩, []),
 (⟨(some 44), .nilCheck (.tmp 42), none⟩, []),
 (⟨(some 45), .fieldAddr 1 (.tmp 44), none⟩, []),
 (⟨(some 46), .idxArr 16 1 (.tmp 45) (.tmp 43), none⟩, []),
 (⟨(some 47), .load none (.tmp 46), none⟩, []),
 (⟨(some 48), .load none (.tmp 1), none⟩, []),
 (⟨(some 49), .load none (.tmp 4), none⟩, []),
 (⟨(some 50), .nilCheck (.tmp 48), none⟩, []),
 (⟨(some 51), .fieldAddr 1 (.tmp 50), none⟩, []),
 (⟨(some 52), .idxArr 16 1 (.tmp 51) (.tmp 49), none⟩, []),
 (⟨(some 53), .load none (.tmp 52), none⟩, []),
 (⟨(some 54), .bin .andNot (.tmp 47) (.tmp 53), none⟩, []),
 (⟨(some 55), .load none (.tmp 1), none⟩, []),
 (⟨(some 56), .load none (.tmp 6), none⟩, []),
 (⟨(some 57), .nilCheck (.tmp 55), none⟩, []),
 (⟨(some 58), .fieldAddr 1 (.tmp 57), none⟩, []),
 (⟨(some 59), .idxArr 16 1 (.tmp 58) (.tmp 56), none⟩, []),
 (⟨(some 60), .load none (.tmp 59), none⟩, []),
 (⟨(some 61), .bin .andNot (.tmp 54) (.tmp 60), none⟩, []),
 (⟨(some 62), .load none (.tmp 4), none⟩, []),
 (⟨(some 63), .conv .u64 (.tmp 62), none⟩, []),
 (⟨(some 64), .bin .shl (.const (.int .i64 1)) (.tmp 63), none⟩, []),
 (⟨(some 65), .bin .andNot (.tmp 61) (.tmp 64), none⟩, []),
 (⟨(some 66), .call (.func k_part_vertices) [(.tmp 65)], none⟩, [])])
 (.block 6 (.rangeF (.tmp 66) #[67] ca_part_graph_path_2 cb_part_graph_path_2)))
theorem oka_part_graph_path_1 : cc PP 76 ca_part_graph_path_1 = some a_part_graph_path_1 := by kernel_rfl
theorem okb_part_graph_path_1 : cc PP 76 cb_part_graph_path_1 = some b_part_graph_path_1 := by kernel_rfl

noncomputable def ca_part_graph_path_0 : Code := rA Tryd.f51 0
noncomputable def cb_part_graph_path_0 : Code := rB Tryd.f51 0
noncomputable def a_part_graph_path_0 : VC := .reg [
 (⟨(some 5), .alloc [.int .i64 0], none⟩, []),
 (⟨none, .store 1 (.tmp 5) (.tmp 22), none⟩, [])]
noncomputable def b_part_graph_path_0 : VC := .block 3 (.seq (.reg [
 (⟨(some 23), .load none (.tmp 1), none⟩, []),
 (⟨(some 24), .load none (.tmp 4), none⟩, []),
 (⟨(some 25), .nilCheck (.tmp 23), none⟩, []),
 (⟨(some 26), .fieldAddr 1 (.tmp 25), none⟩, []),
 (⟨(some 27), .idxArr 16 1 (.tmp 26) (.tmp 24), none⟩, []),
 (⟨(some 28), .load none (.tmp 27), none⟩, []),
 (⟨(some 29), .load none (.tmp 1), none⟩, []),
 (⟨(some 30), .load none (.tmp 5), none⟩, []),
 (⟨(some 31), .nilCheck (.tmp 29), none⟩, []),
 (⟨(some 32), .fieldAddr 1 (.tmp 31), none⟩, []),
 (⟨(some 33), .idxArr 16 1 (.tmp 32) (.tmp 30), none⟩, []),
 (⟨(some 34), .load none (.tmp 33), none⟩, []),
 (⟨(some 35), .bin .andNot (.tmp 28) (.tmp 34), none⟩, []),
 (⟨(some 36), .load none (.tmp 5), none⟩, []),
 (⟨(some 37), .conv .u64 (.tmp 36), none⟩, []),
 (⟨(some 38), .bin .shl (.const (.int .i64 1)) (.tmp 37), none⟩, []),
 (⟨(some 39), .bin .andNot (.tmp 35) (.tmp 38), none⟩, []),
 (⟨(some 40), .call (.func k_part_vertices) [(.tmp 39)], none⟩, [])])
 (.block 4 (.rangeF (.tmp 40) #[41] ca_part_graph_path_1 cb_part_graph_path_1)))
theorem oka_part_graph_path_0 : cc PP 76 ca_part_graph_path_0 = some a_part_graph_path_0 := by kernel_rfl
theorem okb_part_graph_path_0 : cc PP 76 cb_part_graph_path_0 = some b_part_graph_path_0 := by kernel_rfl

/- (*forcola/part.graph).path -/
noncomputable def v_part_graph_path : VFn := ⟨76, 1, [.cell (some 4) 2, .cell none 3],
  .seq (.reg [
 (⟨(some 1), .box (.tmp 0), none⟩, []),
 (⟨(some 2), .alloc [.int .i64 0, .int .i64 0, .int .i64 0, .int .i64 0], none⟩, []),
 (⟨(some 3), .alloc [.bool false], none⟩, [])])
 (.seq (.skip)
 (.seq (.seq (.reg [
 (⟨(some 8), .load none (.tmp 1), none⟩, []),
 (⟨(some 9), .nilCheck (.tmp 8), none⟩, []),
 (⟨(some 10), .fieldAddr 0 (.tmp 9), none⟩, []),
 (⟨(some 11), .load none (.tmp 10), none⟩, []),
 (⟨(some 12), .mov (.const (.int .i64 0)), none⟩, [])])
 (.block 0 (.loop (.seq (.reg [
 (⟨(some 13), .bin .lss (.tmp 12) (.tmp 11), none⟩, [])])
 (.seq (.cond (.tmp 13) (.skip)
 (.exit 0))
 (.seq (.block 1 (.seq (.reg [
 (⟨(some 14), .mov (.tmp 12), none⟩, []),
 (⟨(some 4), .alloc [.int .i64 0], none⟩, []),
 (⟨none, .store 1 (.tmp 4) (.tmp 14), none⟩, [])])
 (.seq (.reg [
 (⟨(some 15), .load none (.tmp 1), none⟩, []),
 (⟨(some 16), .load none (.tmp 4), none⟩, []),
 (⟨(some 17), .nilCheck (.tmp 15), none⟩, []),
 (⟨(some 18), .fieldAddr 1 (.tmp 17), none⟩, []),
 (⟨(some 19), .idxArr 16 1 (.tmp 18) (.tmp 16), none⟩, []),
 (⟨(some 20), .load none (.tmp 19), none⟩, []),
 (⟨(some 21), .call (.func k_part_vertices) [(.tmp 20)], none⟩, [])])
 (.block 2 (.rangeF (.tmp 21) #[22] ca_part_graph_path_0 cb_part_graph_path_0)))))
 (.reg [
 (⟨(some 73), .bin .add (.tmp 12) (.const (.int .i64 1)), none⟩, []),
 (⟨(some 12), .mov (.tmp 73), none⟩, [])])))))))
 (.seq (.reg [
 (⟨(some 74), .load (some 4) (.tmp 2), none⟩, []),
 (⟨(some 75), .load none (.tmp 3), none⟩, []),
 (⟨none, .store 4 (.tmp 2) (.tmp 74), none⟩, [⟨(some 75), .load none (.tmp 3), none⟩]),
 (⟨none, .store 1 (.tmp 3) (.tmp 75), none⟩, [])])
 (.ret))))⟩
theorem ok_part_graph_path : FnOK PP k_part_graph_path v_part_graph_path := fnOK (fn := Tryd.f51) (by kernel_rfl) (by kernel_rfl) (by kernel_rfl)

/- forcola/part.openCograph -/
noncomputable def v_part_openCograph : VFn := ⟨29, 2, [.cell (some 3) 4, .tmp 5],
  .seq (.reg [
 (⟨(some 4), .alloc [.int .i64 0, .int .i64 0, .slice none 0 0], none⟩, []),
 (⟨(some 5), .mov (.const (.int .i64 0)), none⟩, [])])
 (.seq (.reg [
 (⟨(some 11), .mov (.tmp 0), none⟩, []),
 (⟨(some 12), .mov (.tmp 1), none⟩, []),
 (⟨(some 13), .call (.func k_part_Split) [(.tmp 11), (.tmp 12)], none⟩, []),
 (⟨(some 10), .mov (.tmp 13), none⟩, []),
 (⟨(some 14), .extract (.tmp 10) 0, none⟩, []),
 (⟨(some 15), .extract (.tmp 10) 1, none⟩, []),
 (⟨(some 6), .alloc [.int .i64 0, .int .i64 0, .slice none 0 0], none⟩, []),
 (⟨none, .store 3 (.tmp 6) (.tmp 14), none⟩, []),
 (⟨(some 7), .mov (.tmp 15), none⟩, [])])
 (.seq (.seq (.reg [
 (⟨(some 16), .mov (.tmp 7), none⟩, []),
 (⟨(some 17), .bin .neq (.tmp 16) (.const (.int .i64 0)), none⟩, [])])
 (.cond (.tmp 17) (.seq (.reg [
 (⟨(some 18), .build [.int .i64 0, .int .i64 0, .slice none 0 0] [], none⟩, []),
 (⟨(some 19), .mov (.tmp 7), none⟩, []),
 (⟨none, .store 3 (.tmp 4) (.tmp 18), none⟩, []),
 (⟨(some 5), .mov (.tmp 19), none⟩, [])])
 (.ret))
 (.skip)))
 (.seq (.seq (.reg [
 (⟨(some 21), .load (some 3) (.tmp 6), none⟩, []),
 (⟨(some 22), .call (.func k_part_Tree_shape) [(.tmp 21)], none⟩, []),
 (⟨(some 20), .mov (.tmp 22), none⟩, []),
 (⟨(some 23), .extract (.tmp 20) 0, none⟩, []),
 (⟨(some 24), .extract (.tmp 20) 1, none⟩, []),
 (⟨(some 8), .mov (.tmp 23), none⟩, []),
 (⟨(some 9), .mov (.tmp 24), none⟩, [])])
 (.seq (.reg [
 (⟨(some 25), .mov (.tmp 9), none⟩, []),
 (⟨(some 26), .not (.tmp 25), none⟩, [])])
 (.cond (.tmp 26) (.seq (.reg [
 (⟨(some 27), .build [.int .i64 0, .int .i64 0, .slice none 0 0] [], none⟩, []),
 (⟨none, .store 3 (.tmp 4) (.tmp 27), none⟩, []),
 (⟨(some 5), .mov (.const (.int .i64 41)), none⟩, [])])
 (.ret))
 (.skip))))
 (.seq (.reg [
 (⟨(some 28), .load (some 3) (.tmp 6), none⟩, []),
 (⟨none, .store 3 (.tmp 4) (.tmp 28), none⟩, []),
 (⟨(some 5), .mov (.const (.int .i64 0)), none⟩, [])])
 (.ret)))))⟩
theorem ok_part_openCograph : FnOK PP k_part_openCograph v_part_openCograph := fnOK (fn := Tryd.f52) (by kernel_rfl) (by kernel_rfl) (by kernel_rfl)

/- (forcola/part.Tree).shape -/
noncomputable def v_part_Tree_shape : VFn := ⟨47, 1, [.tmp 2, .tmp 3],
  .seq (.reg [
 (⟨(some 1), .box (.tmp 0), none⟩, []),
 (⟨(some 2), .mov (.const (.string ⟨#[]⟩)), none⟩, []),
 (⟨(some 3), .mov (.const (.bool false)), none⟩, [])])
 (.seq (.seq (.reg [
 (⟨(some 9), .fieldAddr 0 (.tmp 1), none⟩, []),
 (⟨(some 10), .load none (.tmp 9), none⟩, []),
 (⟨(some 11), .bin .eql (.tmp 10) (.const (.int .i64 0)), none⟩, [])])
 (.cond (.tmp 11) (.seq (.reg [
 (⟨(some 2), .mov (.const (.string ⟨#[118]⟩)), none⟩, []),
 (⟨(some 3), .mov (.const (.bool true)), none⟩, [])])
 (.ret))
 (.skip)))
 (.seq (.seq (.reg [
 (⟨(some 12), .fieldAddr 0 (.tmp 1), none⟩, []),
 (⟨(some 13), .load none (.tmp 12), none⟩, []),
 (⟨(some 14), .bin .eql (.tmp 13) (.const (.int .i64 3)), none⟩, [])])
 (.cond (.tmp 14) (.seq (.reg [
 (⟨(some 2), .mov (.const (.string ⟨#[]⟩)), none⟩, []),
 (⟨(some 3), .mov (.const (.bool false)), none⟩, [])])
 (.ret))
 (.skip)))
 (.seq (.reg [
 (⟨(some 4), .mov (.const (.slice none 0 0)), none⟩, [])])
 (.seq (.seq (.reg [
 (⟨(some 15), .fieldAddr 2 (.tmp 1), none⟩, []),
 (⟨(some 16), .load none (.tmp 15), none⟩, []),
 (⟨(some 17), .lenSl (.tmp 16), none⟩, []),
 (⟨(some 18), .mov (.const (.int .i64 0)), none⟩, [])])
 (.block 0 (.loop (.seq (.reg [
 (⟨(some 19), .bin .lss (.tmp 18) (.tmp 17), none⟩, [])])
 (.seq (.cond (.tmp 19) (.skip)
 (.exit 0))
 (.seq (.block 1 (.seq (.reg [
 (⟨(some 20), .idxSl 3 (.tmp 16) (.tmp 18), none⟩, []),
 (⟨(some 21), .load (some 3) (.tmp 20), none⟩, []),
 (⟨(some 6), .alloc [.int .i64 0, .int .i64 0, .slice none 0 0], none⟩, []),
 (⟨none, .store 3 (.tmp 6) (.tmp 21), none⟩, [])])
 (.seq (.reg [
 (⟨(some 23), .load (some 3) (.tmp 6), none⟩, []),
 (⟨(some 24), .call (.func k_part_Tree_shape) [(.tmp 23)], none⟩, []),
 (⟨(some 22), .mov (.tmp 24), none⟩, []),
 (⟨(some 25), .extract (.tmp 22) 0, none⟩, []),
 (⟨(some 26), .extract (.tmp 22) 1, none⟩, []),
 (⟨(some 7), .mov (.tmp 25), none⟩, []),
 (⟨(some 8), .mov (.tmp 26), none⟩, [])])
 (.seq (.seq (.reg [
 (⟨(some 27), .mov (.tmp 8), none⟩, []),
 (⟨(some 28), .not (.tmp 27), none⟩, [])])
 (.cond (.tmp 28) (.seq (.reg [
 (⟨(some 2), .mov (.const (.string ⟨#[]⟩)), none⟩, []),
 (⟨(some 3), .mov (.const (.bool false)), none⟩, [])])
 (.ret))
 (.skip)))
 (.reg [
 (⟨(some 29), .mov (.tmp 4), none⟩, []),
 (⟨(some 30), .mov (.tmp 7), none⟩, []),
 (⟨(some 31), .buildSlice 1 1 [.string ⟨#[]⟩] [(0, 1, (.tmp 30))], none⟩, []),
 (⟨(some 32), .append 1 (.tmp 29) (.tmp 31), none⟩, []),
 (⟨(some 4), .mov (.tmp 32), none⟩, [])])))))
 (.reg [
 (⟨(some 33), .bin .add (.tmp 18) (.const (.int .i64 1)), none⟩, []),
 (⟨(some 18), .mov (.tmp 33), none⟩, [])])))))))
 (.seq (.reg [
 (⟨(some 34), .mov (.tmp 4), none⟩, []),
 (⟨(some 35), .call (.func k_slices_Sortstring_string) [(.tmp 34)], none⟩, [])])
 (.seq (.reg [
 (⟨(some 36), .fieldAddr 0 (.tmp 1), none⟩, []),
 (⟨(some 37), .load none (.tmp 36), none⟩, []),
 (⟨(some 38), .bin .sub (.tmp 37) (.const (.int .i64 1)), none⟩, []),
 (⟨(some 39), .fieldAddr 0 (.tmp 1), none⟩, []),
 (⟨(some 40), .load none (.tmp 39), none⟩, []),
 (⟨(some 41), .sliceStr (.const (.string ⟨#[117, 106]⟩)) (some (.tmp 38)) (some (.tmp 40)), none⟩, []),
 (⟨(some 42), .bin .add (.tmp 41) (.const (.string ⟨#[40]⟩)), none⟩, []),
 (⟨(some 43), .mov (.tmp 4), none⟩, []),
 (⟨(some 44), .call (.func k_strings_Join) [(.tmp 43), (.const (.string ⟨#[]⟩))], none⟩, [⟨(some 40), .load none (.tmp 39), none⟩, ⟨(some 37), .load none (.tmp 36), none⟩]),
 (⟨(some 45), .bin .add (.tmp 42) (.tmp 44), none⟩, []),
 (⟨(some 46), .bin .add (.tmp 45) (.const (.string ⟨#[41]⟩)), none⟩, []),
 (⟨(some 2), .mov (.tmp 46), none⟩, []),
 (⟨(some 3), .mov (.const (.bool true)), none⟩, [])])
 (.ret)))))))⟩
theorem ok_part_Tree_shape : FnOK PP k_part_Tree_shape v_part_Tree_shape := fnOK (fn := Tryd.f53) (by kernel_rfl) (by kernel_rfl) (by kernel_rfl)

/- (forcola/part.Tree).clique -/
noncomputable def v_part_Tree_clique : VFn := ⟨66, 3, [.tmp 6, .tmp 7],
  .seq (.reg [
 (⟨(some 3), .box (.tmp 0), none⟩, []),
 (⟨(some 6), .mov (.const (.int .i64 0)), none⟩, []),
 (⟨(some 7), .mov (.const (.int .i64 0)), none⟩, [])])
 (.seq (.seq (.reg [
 (⟨(some 14), .fieldAddr 0 (.tmp 3), none⟩, []),
 (⟨(some 15), .load none (.tmp 14), none⟩, []),
 (⟨(some 16), .bin .eql (.tmp 15) (.const (.int .i64 0)), none⟩, [])])
 (.cond (.tmp 16) (.seq (.reg [
 (⟨(some 17), .mov (.tmp 2), none⟩, []),
 (⟨(some 18), .fieldAddr 1 (.tmp 3), none⟩, []),
 (⟨(some 19), .load none (.tmp 18), none⟩, []),
 (⟨(some 20), .mov (.tmp 1), none⟩, []),
 (⟨(some 21), .idxSl 1 (.tmp 17) (.tmp 19), none⟩, []),
 (⟨none, .store 1 (.tmp 21) (.tmp 20), none⟩, [])])
 (.seq (.reg [
 (⟨(some 22), .fieldAddr 1 (.tmp 3), none⟩, []),
 (⟨(some 23), .load none (.tmp 22), none⟩, []),
 (⟨(some 24), .conv .u64 (.tmp 23), none⟩, []),
 (⟨(some 25), .bin .shl (.const (.int .i64 1)) (.tmp 24), none⟩, []),
 (⟨(some 6), .mov (.tmp 25), none⟩, []),
 (⟨(some 7), .mov (.const (.int .i64 1)), none⟩, [])])
 (.ret)))
 (.skip)))
 (.seq (.seq (.reg [
 (⟨(some 26), .fieldAddr 2 (.tmp 3), none⟩, []),
 (⟨(some 27), .load none (.tmp 26), none⟩, []),
 (⟨(some 28), .lenSl (.tmp 27), none⟩, []),
 (⟨(some 29), .mov (.const (.int .i64 0)), none⟩, [])])
 (.block 0 (.loop (.seq (.reg [
 (⟨(some 30), .bin .lss (.tmp 29) (.tmp 28), none⟩, [])])
 (.seq (.cond (.tmp 30) (.skip)
 (.exit 0))
 (.seq (.block 1 (.seq (.reg [
 (⟨(some 31), .idxSl 3 (.tmp 27) (.tmp 29), none⟩, []),
 (⟨(some 32), .load (some 3) (.tmp 31), none⟩, []),
 (⟨(some 9), .alloc [.int .i64 0, .int .i64 0, .slice none 0 0], none⟩, []),
 (⟨none, .store 3 (.tmp 9) (.tmp 32), none⟩, [])])
 (.seq (.reg [
 (⟨(some 33), .fieldAddr 0 (.tmp 3), none⟩, []),
 (⟨(some 34), .load none (.tmp 33), none⟩, []),
 (⟨(some 35), .bin .eql (.tmp 34) (.const (.int .i64 2)), none⟩, [])])
 (.cond (.tmp 35) (.seq (.reg [
 (⟨(some 37), .load (some 3) (.tmp 9), none⟩, []),
 (⟨(some 38), .mov (.tmp 1), none⟩, []),
 (⟨(some 39), .mov (.tmp 7), none⟩, []),
 (⟨(some 40), .bin .add (.tmp 38) (.tmp 39), none⟩, []),
 (⟨(some 41), .mov (.tmp 2), none⟩, []),
 (⟨(some 42), .call (.func k_part_Tree_clique) [(.tmp 37), (.tmp 40), (.tmp 41)], none⟩, []),
 (⟨(some 36), .mov (.tmp 42), none⟩, []),
 (⟨(some 43), .extract (.tmp 36) 0, none⟩, []),
 (⟨(some 44), .extract (.tmp 36) 1, none⟩, []),
 (⟨(some 10), .mov (.tmp 43), none⟩, []),
 (⟨(some 11), .mov (.tmp 44), none⟩, [])])
 (.reg [
 (⟨(some 45), .mov (.tmp 6), none⟩, []),
 (⟨(some 46), .mov (.tmp 10), none⟩, []),
 (⟨(some 47), .bin .or (.tmp 45) (.tmp 46), none⟩, []),
 (⟨(some 48), .mov (.tmp 7), none⟩, []),
 (⟨(some 49), .mov (.tmp 11), none⟩, []),
 (⟨(some 50), .bin .add (.tmp 48) (.tmp 49), none⟩, []),
 (⟨(some 6), .mov (.tmp 47), none⟩, []),
 (⟨(some 7), .mov (.tmp 50), none⟩, [])]))
 (.seq (.reg [
 (⟨(some 52), .load (some 3) (.tmp 9), none⟩, []),
 (⟨(some 53), .mov (.tmp 1), none⟩, []),
 (⟨(some 54), .mov (.tmp 2), none⟩, []),
 (⟨(some 55), .call (.func k_part_Tree_clique) [(.tmp 52), (.tmp 53), (.tmp 54)], none⟩, []),
 (⟨(some 51), .mov (.tmp 55), none⟩, []),
 (⟨(some 56), .extract (.tmp 51) 0, none⟩, []),
 (⟨(some 57), .extract (.tmp 51) 1, none⟩, []),
 (⟨(some 12), .mov (.tmp 56), none⟩, []),
 (⟨(some 13), .mov (.tmp 57), none⟩, [])])
 (.seq (.reg [
 (⟨(some 58), .mov (.tmp 13), none⟩, []),
 (⟨(some 59), .mov (.tmp 7), none⟩, []),
 (⟨(some 60), .bin .gtr (.tmp 58) (.tmp 59), none⟩, [])])
 (.cond (.tmp 60) (.reg [
 (⟨(some 61), .mov (.tmp 12), none⟩, []),
 (⟨(some 62), .mov (.tmp 13), none⟩, []),
 (⟨(some 6), .mov (.tmp 61), none⟩, []),
 (⟨(some 7), .mov (.tmp 62), none⟩, [])])
 (.skip))))))))
 (.reg [
 (⟨(some 63), .bin .add (.tmp 29) (.const (.int .i64 1)), none⟩, []),
 (⟨(some 29), .mov (.tmp 63), none⟩, [])])))))))
 (.seq (.reg [
 (⟨(some 64), .mov (.tmp 6), none⟩, []),
 (⟨(some 65), .mov (.tmp 7), none⟩, []),
 (⟨(some 6), .mov (.tmp 64), none⟩, []),
 (⟨(some 7), .mov (.tmp 65), none⟩, [])])
 (.ret))))⟩
theorem ok_part_Tree_clique : FnOK PP k_part_Tree_clique v_part_Tree_clique := fnOK (fn := Tryd.f54) (by kernel_rfl) (by kernel_rfl) (by kernel_rfl)

noncomputable def ca_part_reader_node_1 : Code := rA Tryd.f59 1
noncomputable def cb_part_reader_node_1 : Code := rB Tryd.f59 1
noncomputable def a_part_reader_node_1 : VC := .reg [
 (⟨(some 7), .mov (.tmp 98), none⟩, [])]
noncomputable def b_part_reader_node_1 : VC := .block 5 (.seq (.reg [
 (⟨(some 99), .load none (.tmp 3), none⟩, []),
 (⟨(some 100), .bin .eql (.tmp 99) (.const (.int .u8 106)), none⟩, [])])
 (.cond (.tmp 100) (.seq (.reg [
 (⟨(some 101), .load none (.tmp 1), none⟩, []),
 (⟨(some 102), .load none (.tmp 6), none⟩, []),
 (⟨(some 103), .nilCheck (.tmp 101), none⟩, []),
 (⟨(some 104), .fieldAddr 1 (.tmp 103), none⟩, []),
 (⟨(some 105), .fieldAddr 1 (.tmp 104), none⟩, []),
 (⟨(some 106), .idxArr 16 1 (.tmp 105) (.tmp 102), none⟩, []),
 (⟨(some 107), .load none (.tmp 106), none⟩, []),
 (⟨(some 108), .mov (.tmp 7), none⟩, []),
 (⟨(some 109), .conv .u64 (.tmp 108), none⟩, []),
 (⟨(some 110), .bin .shl (.const (.int .i64 1)) (.tmp 109), none⟩, []),
 (⟨(some 111), .bin .or (.tmp 107) (.tmp 110), none⟩, []),
 (⟨(some 112), .nilCheck (.tmp 101), none⟩, []),
 (⟨(some 113), .fieldAddr 1 (.tmp 112), none⟩, []),
 (⟨(some 114), .fieldAddr 1 (.tmp 113), none⟩, []),
 (⟨(some 115), .idxArr 16 1 (.tmp 114) (.tmp 102), none⟩, []),
 (⟨none, .store 1 (.tmp 115) (.tmp 111), none⟩, [])])
 (.reg [
 (⟨(some 116), .load none (.tmp 1), none⟩, []),
 (⟨(some 117), .mov (.tmp 7), none⟩, []),
 (⟨(some 118), .nilCheck (.tmp 116), none⟩, []),
 (⟨(some 119), .fieldAddr 1 (.tmp 118), none⟩, []),
 (⟨(some 120), .fieldAddr 1 (.tmp 119), none⟩, []),
 (⟨(some 121), .idxArr 16 1 (.tmp 120) (.tmp 117), none⟩, []),
 (⟨(some 122), .load none (.tmp 121), none⟩, []),
 (⟨(some 123), .load none (.tmp 6), none⟩, []),
 (⟨(some 124), .conv .u64 (.tmp 123), none⟩, []),
 (⟨(some 125), .bin .shl (.const (.int .i64 1)) (.tmp 124), none⟩, []),
 (⟨(some 126), .bin .or (.tmp 122) (.tmp 125), none⟩, []),
 (⟨(some 127), .nilCheck (.tmp 116), none⟩, []),
 (⟨(some 128), .fieldAddr 1 (.tmp 127), none⟩, []),
 (⟨(some 129), .fieldAddr 1 (.tmp 128), none⟩, []),
 (⟨(some 130), .idxArr 16 1 (.tmp 129) (.tmp 117), none⟩, []),
 (⟨none, .store 1 (.tmp 130) (.tmp 126), none⟩, [])]))
 (.skip)))
theorem oka_part_reader_node_1 : cc PP 143 ca_part_reader_node_1 = some a_part_reader_node_1 := by kernel_rfl
theorem okb_part_reader_node_1 : cc PP 143 cb_part_reader_node_1 = some b_part_reader_node_1 := by kernel_rfl

noncomputable def ca_part_reader_node_0 : Code := rA Tryd.f59 0
noncomputable def cb_part_reader_node_0 : Code := rB Tryd.f59 0
noncomputable def a_part_reader_node_0 : VC := .reg [
 (⟨(some 6), .alloc [.int .i64 0], none⟩, []),
 (⟨none, .store 1 (.tmp 6) (.tmp 95), none⟩, [])]
noncomputable def b_part_reader_node_0 : VC := .block 3 (.seq (.reg [
 (⟨(some 96), .load none (.tmp 4), none⟩, []),
 (⟨(some 97), .call (.func k_part_vertices) [(.tmp 96)], none⟩, [])])
 (.block 4 (.rangeF (.tmp 97) #[98] ca_part_reader_node_1 cb_part_reader_node_1)))
theorem oka_part_reader_node_0 : cc PP 143 ca_part_reader_node_0 = some a_part_reader_node_0 := by kernel_rfl
theorem okb_part_reader_node_0 : cc PP 143 cb_part_reader_node_0 = some b_part_reader_node_0 := by kernel_rfl

/- (*forcola/part.reader).node -/
noncomputable def v_part_reader_node : VFn := ⟨143, 1, [.tmp 2],
  .seq (.reg [
 (⟨(some 1), .box (.tmp 0), none⟩, []),
 (⟨(some 2), .mov (.const (.int .i64 0)), none⟩, [])])
 (.seq (.seq (.reg [
 (⟨(some 8), .load none (.tmp 1), none⟩, []),
 (⟨(some 9), .nilCheck (.tmp 8), none⟩, []),
 (⟨(some 10), .fieldAddr 0 (.tmp 9), none⟩, []),
 (⟨(some 11), .load none (.tmp 10), none⟩, []),
 (⟨(some 12), .bin .eql (.tmp 11) (.const (.string ⟨#[]⟩)), none⟩, []),
 (⟨(some 13), .mov (.tmp 12), none⟩, []),
 (⟨(some 14), .load none (.tmp 1), (some ((some 13), false))⟩, []),
 (⟨(some 15), .nilCheck (.tmp 14), (some ((some 13), false))⟩, []),
 (⟨(some 16), .fieldAddr 1 (.tmp 15), (some ((some 13), false))⟩, []),
 (⟨(some 17), .fieldAddr 0 (.tmp 16), (some ((some 13), false))⟩, []),
 (⟨(some 18), .load none (.tmp 17), (some ((some 13), false))⟩, []),
 (⟨(some 19), .bin .gtr (.tmp 18) (.const (.int .i64 16)), (some ((some 13), false))⟩, []),
 (⟨(some 20), .pick (.tmp 13) (.const (.bool true)) (.tmp 19), none⟩, [])])
 (.cond (.tmp 20) (.seq (.reg [
 (⟨(some 2), .mov (.const (.int .i64 0)), none⟩, [])])
 (.ret))
 (.skip)))
 (.seq (.reg [
 (⟨(some 21), .load none (.tmp 1), none⟩, []),
 (⟨(some 22), .nilCheck (.tmp 21), none⟩, []),
 (⟨(some 23), .fieldAddr 0 (.tmp 22), none⟩, []),
 (⟨(some 24), .load none (.tmp 23), none⟩, []),
 (⟨(some 25), .idxStr (.tmp 24) (.const (.int .i64 0)), none⟩, []),
 (⟨(some 3), .alloc [.int .u8 0], none⟩, []),
 (⟨none, .store 1 (.tmp 3) (.tmp 25), none⟩, [])])
 (.seq (.reg [
 (⟨(some 26), .load none (.tmp 1), none⟩, []),
 (⟨(some 27), .load none (.tmp 1), none⟩, []),
 (⟨(some 28), .nilCheck (.tmp 27), none⟩, []),
 (⟨(some 29), .fieldAddr 0 (.tmp 28), none⟩, []),
 (⟨(some 30), .load none (.tmp 29), none⟩, []),
 (⟨(some 31), .sliceStr (.tmp 30) (some (.const (.int .i64 1))) none, none⟩, []),
 (⟨(some 32), .nilCheck (.tmp 26), none⟩, []),
 (⟨(some 33), .fieldAddr 0 (.tmp 32), none⟩, []),
 (⟨none, .store 1 (.tmp 33) (.tmp 31), none⟩, [])])
 (.seq (.seq (.reg [
 (⟨(some 34), .load none (.tmp 3), none⟩, []),
 (⟨(some 35), .bin .eql (.tmp 34) (.const (.int .u8 118)), none⟩, [])])
 (.cond (.tmp 35) (.seq (.reg [
 (⟨(some 36), .load none (.tmp 1), none⟩, []),
 (⟨(some 37), .nilCheck (.tmp 36), none⟩, []),
 (⟨(some 38), .fieldAddr 1 (.tmp 37), none⟩, []),
 (⟨(some 39), .fieldAddr 0 (.tmp 38), none⟩, []),
 (⟨(some 40), .load none (.tmp 39), none⟩, []),
 (⟨(some 41), .bin .add (.tmp 40) (.const (.int .i64 1)), none⟩, []),
 (⟨(some 42), .nilCheck (.tmp 36), none⟩, []),
 (⟨(some 43), .fieldAddr 1 (.tmp 42), none⟩, []),
 (⟨(some 44), .fieldAddr 0 (.tmp 43), none⟩, []),
 (⟨none, .store 1 (.tmp 44) (.tmp 41), none⟩, [])])
 (.seq (.reg [
 (⟨(some 45), .load none (.tmp 1), none⟩, []),
 (⟨(some 46), .nilCheck (.tmp 45), none⟩, []),
 (⟨(some 47), .fieldAddr 1 (.tmp 46), none⟩, []),
 (⟨(some 48), .fieldAddr 0 (.tmp 47), none⟩, []),
 (⟨(some 49), .load none (.tmp 48), none⟩, []),
 (⟨(some 50), .bin .sub (.tmp 49) (.const (.int .i64 1)), none⟩, []),
 (⟨(some 51), .conv .u64 (.tmp 50), none⟩, []),
 (⟨(some 52), .bin .shl (.const (.int .i64 1)) (.tmp 51), none⟩, []),
 (⟨(some 2), .mov (.tmp 52), none⟩, [])])
 (.ret)))
 (.skip)))
 (.seq (.seq (.reg [
 (⟨(some 53), .load none (.tmp 3), none⟩, []),
 (⟨(some 54), .bin .neq (.tmp 53) (.const (.int .u8 117)), none⟩, []),
 (⟨(some 55), .mov (.tmp 54), none⟩, []),
 (⟨(some 56), .load none (.tmp 3), (some ((some 55), true))⟩, []),
 (⟨(some 57), .bin .neq (.tmp 56) (.const (.int .u8 106)), (some ((some 55), true))⟩, []),
 (⟨(some 58), .pick (.tmp 55) (.tmp 57) (.const (.bool false)), none⟩, []),
 (⟨(some 59), .mov (.tmp 58), none⟩, []),
 (⟨(some 60), .load none (.tmp 1), (some ((some 59), false))⟩, []),
 (⟨(some 61), .nilCheck (.tmp 60), (some ((some 59), false))⟩, []),
 (⟨(some 62), .fieldAddr 0 (.tmp 61), (some ((some 59), false))⟩, []),
 (⟨(some 63), .load none (.tmp 62), (some ((some 59), false))⟩, []),
 (⟨(some 64), .call (.func k_strings_HasPrefix) [(.tmp 63), (.const (.string ⟨#[40]⟩))], (some ((some 59), false))⟩, []),
 (⟨(some 65), .not (.tmp 64), (some ((some 59), false))⟩, []),
 (⟨(some 66), .pick (.tmp 59) (.const (.bool true)) (.tmp 65), none⟩, [])])
 (.cond (.tmp 66) (.seq (.reg [
 (⟨(some 2), .mov (.const (.int .i64 0)), none⟩, [])])
 (.ret))
 (.skip)))
 (.seq (.reg [
 (⟨(some 67), .load none (.tmp 1), none⟩, []),
 (⟨(some 68), .load none (.tmp 1), none⟩, []),
 (⟨(some 69), .nilCheck (.tmp 68), none⟩, []),
 (⟨(some 70), .fieldAddr 0 (.tmp 69), none⟩, []),
 (⟨(some 71), .load none (.tmp 70), none⟩, []),
 (⟨(some 72), .sliceStr (.tmp 71) (some (.const (.int .i64 1))) none, none⟩, []),
 (⟨(some 73), .nilCheck (.tmp 67), none⟩, []),
 (⟨(some 74), .fieldAddr 0 (.tmp 73), none⟩, []),
 (⟨none, .store 1 (.tmp 74) (.tmp 72), none⟩, [])])
 (.seq (.reg [
 (⟨(some 4), .alloc [.int .i64 0], none⟩, []),
 (⟨none, .store 1 (.tmp 4) (.const (.int .i64 0)), none⟩, [])])
 (.seq (.block 0 (.loop (.seq (.seq (.reg [
 (⟨(some 75), .load none (.tmp 1), none⟩, []),
 (⟨(some 76), .nilCheck (.tmp 75), none⟩, []),
 (⟨(some 77), .fieldAddr 0 (.tmp 76), none⟩, []),
 (⟨(some 78), .load none (.tmp 77), none⟩, []),
 (⟨(some 79), .call (.func k_strings_HasPrefix) [(.tmp 78), (.const (.string ⟨#[41]⟩))], none⟩, []),
 (⟨(some 80), .not (.tmp 79), none⟩, [])])
 (.cond (.tmp 80) (.skip)
 (.exit 0)))
 (.block 1 (.seq (.reg [
 (⟨(some 81), .load none (.tmp 1), none⟩, []),
 (⟨(some 82), .call (.func k_part_reader_node) [(.tmp 81)], none⟩, []),
 (⟨(some 5), .mov (.tmp 82), none⟩, [])])
 (.seq (.seq (.reg [
 (⟨(some 83), .mov (.tmp 5), none⟩, []),
 (⟨(some 84), .bin .eql (.tmp 83) (.const (.int .i64 0)), none⟩, []),
 (⟨(some 85), .mov (.tmp 84), none⟩, []),
 (⟨(some 86), .load none (.tmp 1), (some ((some 85), false))⟩, []),
 (⟨(some 87), .nilCheck (.tmp 86), (some ((some 85), false))⟩, []),
 (⟨(some 88), .fieldAddr 1 (.tmp 87), (some ((some 85), false))⟩, []),
 (⟨(some 89), .fieldAddr 0 (.tmp 88), (some ((some 85), false))⟩, []),
 (⟨(some 90), .load none (.tmp 89), (some ((some 85), false))⟩, []),
 (⟨(some 91), .bin .gtr (.tmp 90) (.const (.int .i64 16)), (some ((some 85), false))⟩, []),
 (⟨(some 92), .pick (.tmp 85) (.const (.bool true)) (.tmp 91), none⟩, [])])
 (.cond (.tmp 92) (.seq (.reg [
 (⟨(some 2), .mov (.const (.int .i64 0)), none⟩, [])])
 (.ret))
 (.skip)))
 (.seq (.seq (.reg [
 (⟨(some 93), .mov (.tmp 5), none⟩, []),
 (⟨(some 94), .call (.func k_part_vertices) [(.tmp 93)], none⟩, [])])
 (.block 2 (.rangeF (.tmp 94) #[95] ca_part_reader_node_0 cb_part_reader_node_0)))
 (.reg [
 (⟨(some 131), .load none (.tmp 4), none⟩, []),
 (⟨(some 132), .mov (.tmp 5), none⟩, []),
 (⟨(some 133), .bin .or (.tmp 131) (.tmp 132), none⟩, []),
 (⟨none, .store 1 (.tmp 4) (.tmp 133), none⟩, [])]))))))))
 (.seq (.reg [
 (⟨(some 134), .load none (.tmp 1), none⟩, []),
 (⟨(some 135), .load none (.tmp 1), none⟩, []),
 (⟨(some 136), .nilCheck (.tmp 135), none⟩, []),
 (⟨(some 137), .fieldAddr 0 (.tmp 136), none⟩, []),
 (⟨(some 138), .load none (.tmp 137), none⟩, []),
 (⟨(some 139), .sliceStr (.tmp 138) (some (.const (.int .i64 1))) none, none⟩, []),
 (⟨(some 140), .nilCheck (.tmp 134), none⟩, []),
 (⟨(some 141), .fieldAddr 0 (.tmp 140), none⟩, []),
 (⟨none, .store 1 (.tmp 141) (.tmp 139), none⟩, [])])
 (.seq (.reg [
 (⟨(some 142), .load none (.tmp 4), none⟩, []),
 (⟨(some 2), .mov (.tmp 142), none⟩, [])])
 (.ret)))))))))))⟩
theorem ok_part_reader_node : FnOK PP k_part_reader_node v_part_reader_node := fnOK (fn := Tryd.f59) (by kernel_rfl) (by kernel_rfl) (by kernel_rfl)

/- (*forcola/part.graph).edges -/
noncomputable def v_part_graph_edges : VFn := ⟨42, 1, [.tmp 2],
  .seq (.reg [
 (⟨(some 2), .mov (.const (.slice none 0 0)), none⟩, [])])
 (.seq (.reg [
 (⟨(some 3), .mov (.const (.slice none 0 0)), none⟩, [])])
 (.seq (.seq (.reg [
 (⟨(some 6), .mov (.tmp 0), none⟩, []),
 (⟨(some 7), .nilCheck (.tmp 6), none⟩, []),
 (⟨(some 8), .fieldAddr 0 (.tmp 7), none⟩, []),
 (⟨(some 9), .load none (.tmp 8), none⟩, []),
 (⟨(some 10), .mov (.const (.int .i64 0)), none⟩, [])])
 (.block 0 (.loop (.seq (.reg [
 (⟨(some 11), .bin .lss (.tmp 10) (.tmp 9), none⟩, [])])
 (.seq (.cond (.tmp 11) (.skip)
 (.exit 0))
 (.seq (.block 1 (.seq (.reg [
 (⟨(some 12), .mov (.tmp 10), none⟩, []),
 (⟨(some 4), .mov (.tmp 12), none⟩, [])])
 (.seq (.reg [
 (⟨(some 13), .mov (.tmp 4), none⟩, []),
 (⟨(some 14), .bin .add (.tmp 13) (.const (.int .i64 1)), none⟩, []),
 (⟨(some 5), .mov (.tmp 14), none⟩, [])])
 (.block 2 (.loop (.seq (.seq (.reg [
 (⟨(some 15), .mov (.tmp 5), none⟩, []),
 (⟨(some 16), .mov (.tmp 0), none⟩, []),
 (⟨(some 17), .nilCheck (.tmp 16), none⟩, []),
 (⟨(some 18), .fieldAddr 0 (.tmp 17), none⟩, []),
 (⟨(some 19), .load none (.tmp 18), none⟩, []),
 (⟨(some 20), .bin .lss (.tmp 15) (.tmp 19), none⟩, [])])
 (.cond (.tmp 20) (.skip)
 (.exit 2)))
 (.seq (.block 3 (.seq (.reg [
 (⟨(some 23), .mov (.tmp 0), none⟩, []),
 (⟨(some 24), .mov (.tmp 4), none⟩, []),
 (⟨(some 25), .nilCheck (.tmp 23), none⟩, []),
 (⟨(some 26), .fieldAddr 1 (.tmp 25), none⟩, []),
 (⟨(some 27), .idxArr 16 1 (.tmp 26) (.tmp 24), none⟩, []),
 (⟨(some 28), .load none (.tmp 27), none⟩, []),
 (⟨(some 29), .mov (.tmp 5), none⟩, []),
 (⟨(some 30), .conv .u64 (.tmp 29), none⟩, []),
 (⟨(some 31), .bin .shr (.tmp 28) (.tmp 30), none⟩, []),
 (⟨(some 32), .bin .and (.tmp 31) (.const (.int .i64 1)), none⟩, []),
 (⟨(some 33), .bin .eql (.tmp 32) (.const (.int .i64 1)), none⟩, [])])
 (.cond (.tmp 33) (.reg [
 (⟨(some 34), .mov (.tmp 3), none⟩, []),
 (⟨(some 35), .mov (.tmp 4), none⟩, []),
 (⟨(some 36), .mov (.tmp 5), none⟩, []),
 (⟨(some 37), .build [.int .i64 0, .int .i64 0] [(0, 1, (.tmp 35)), (1, 1, (.tmp 36))], none⟩, []),
 (⟨(some 38), .buildSlice 2 1 [.int .i64 0, .int .i64 0] [(0, 2, (.tmp 37))], none⟩, []),
 (⟨(some 39), .append 2 (.tmp 34) (.tmp 38), none⟩, []),
 (⟨(some 3), .mov (.tmp 39), none⟩, [])])
 (.skip))))
 (.reg [
 (⟨(some 21), .mov (.tmp 5), none⟩, []),
 (⟨(some 22), .bin .add (.tmp 21) (.const (.int .i64 1)), none⟩, []),
 (⟨(some 5), .mov (.tmp 22), none⟩, [])]))))))))
 (.reg [
 (⟨(some 40), .bin .add (.tmp 10) (.const (.int .i64 1)), none⟩, []),
 (⟨(some 10), .mov (.tmp 40), none⟩, [])])))))))
 (.seq (.reg [
 (⟨(some 41), .mov (.tmp 3), none⟩, []),
 (⟨(some 2), .mov (.tmp 41), none⟩, [])])
 (.ret))))⟩
theorem ok_part_graph_edges : FnOK PP k_part_graph_edges v_part_graph_edges := fnOK (fn := Tryd.f60) (by kernel_rfl) (by kernel_rfl) (by kernel_rfl)

/- (*forcola/part.graph).complement -/
noncomputable def v_part_graph_complement : VFn := ⟨38, 1, [.tmp 2],
  .seq (.reg [
 (⟨(some 2), .mov (.const (.pointer none)), none⟩, [])])
 (.seq (.reg [
 (⟨(some 5), .mov (.tmp 0), none⟩, []),
 (⟨(some 6), .nilCheck (.tmp 5), none⟩, []),
 (⟨(some 7), .fieldAddr 0 (.tmp 6), none⟩, []),
 (⟨(some 8), .load none (.tmp 7), none⟩, []),
 (⟨(some 9), .build [.int .i64 0, .int .i64 0, .int .i64 0, .int .i64 0, .int .i64 0, .int .i64 0, .int .i64 0, .int .i64 0, .int .i64 0, .int .i64 0, .int .i64 0, .int .i64 0, .int .i64 0, .int .i64 0, .int .i64 0, .int .i64 0, .int .i64 0] [(0, 1, (.tmp 8))], none⟩, []),
 (⟨(some 10), .box (.tmp 9), none⟩, []),
 (⟨(some 3), .mov (.tmp 10), none⟩, [])])
 (.seq (.seq (.reg [
 (⟨(some 11), .mov (.tmp 0), none⟩, []),
 (⟨(some 12), .nilCheck (.tmp 11), none⟩, []),
 (⟨(some 13), .fieldAddr 0 (.tmp 12), none⟩, []),
 (⟨(some 14), .load none (.tmp 13), none⟩, []),
 (⟨(some 15), .mov (.const (.int .i64 0)), none⟩, [])])
 (.block 0 (.loop (.seq (.reg [
 (⟨(some 16), .bin .lss (.tmp 15) (.tmp 14), none⟩, [])])
 (.seq (.cond (.tmp 16) (.skip)
 (.exit 0))
 (.seq (.block 1 (.seq (.reg [
 (⟨(some 17), .mov (.tmp 15), none⟩, []),
 (⟨(some 4), .mov (.tmp 17), none⟩, [])])
 (.reg [
 (⟨(some 18), .mov (.tmp 3), none⟩, []),
 (⟨(some 19), .mov (.tmp 4), none⟩, []),
 (⟨(some 20), .mov (.tmp 0), none⟩, []),
 (⟨(some 22), .mov (.tmp 0), none⟩, []),
 (⟨(some 23), .mov (.tmp 4), none⟩, []),
 (⟨(some 24), .nilCheck (.tmp 22), none⟩, []),
 (⟨(some 25), .fieldAddr 1 (.tmp 24), none⟩, []),
 (⟨(some 26), .idxArr 16 1 (.tmp 25) (.tmp 23), none⟩, []),
 (⟨(some 27), .load none (.tmp 26), none⟩, []),
 (⟨(some 29), .mov (.tmp 4), none⟩, []),
 (⟨(some 30), .conv .u64 (.tmp 29), none⟩, []),
 (⟨(some 31), .bin .shl (.const (.int .i64 1)) (.tmp 30), none⟩, []),
 (⟨(some 33), .nilCheck (.tmp 18), none⟩, []),
 (⟨(some 34), .fieldAddr 1 (.tmp 33), none⟩, []),
 (⟨(some 21), .call (.func k_part_graph_all) [(.tmp 20)], none⟩, [⟨(some 27), .load none (.tmp 26), none⟩]),
 (⟨(some 28), .bin .andNot (.tmp 21) (.tmp 27), none⟩, []),
 (⟨(some 32), .bin .andNot (.tmp 28) (.tmp 31), none⟩, []),
 (⟨(some 35), .idxArr 16 1 (.tmp 34) (.tmp 19), none⟩, []),
 (⟨none, .store 1 (.tmp 35) (.tmp 32), none⟩, [])])))
 (.reg [
 (⟨(some 36), .bin .add (.tmp 15) (.const (.int .i64 1)), none⟩, []),
 (⟨(some 15), .mov (.tmp 36), none⟩, [])])))))))
 (.seq (.reg [
 (⟨(some 37), .mov (.tmp 3), none⟩, []),
 (⟨(some 2), .mov (.tmp 37), none⟩, [])])
 (.ret))))⟩
theorem ok_part_graph_complement : FnOK PP k_part_graph_complement v_part_graph_complement := fnOK (fn := Tryd.f62) (by kernel_rfl) (by kernel_rfl) (by kernel_rfl)

/- (*forcola/part.graph).all -/
noncomputable def v_part_graph_all : VFn := ⟨10, 1, [.tmp 2],
  .seq (.reg [
 (⟨(some 2), .mov (.const (.int .i64 0)), none⟩, [])])
 (.seq (.reg [
 (⟨(some 3), .mov (.tmp 0), none⟩, []),
 (⟨(some 4), .nilCheck (.tmp 3), none⟩, []),
 (⟨(some 5), .fieldAddr 0 (.tmp 4), none⟩, []),
 (⟨(some 6), .load none (.tmp 5), none⟩, []),
 (⟨(some 7), .conv .u64 (.tmp 6), none⟩, []),
 (⟨(some 8), .bin .shl (.const (.int .i64 1)) (.tmp 7), none⟩, []),
 (⟨(some 9), .bin .sub (.tmp 8) (.const (.int .i64 1)), none⟩, []),
 (⟨(some 2), .mov (.tmp 9), none⟩, [])])
 (.ret))⟩
theorem ok_part_graph_all : FnOK PP k_part_graph_all v_part_graph_all := fnOK (fn := Tryd.f63) (by kernel_rfl) (by kernel_rfl) (by kernel_rfl)

noncomputable def ca_part_graph_splitters_0 : Code := rA Tryd.f64 0
noncomputable def cb_part_graph_splitters_0 : Code := rB Tryd.f64 0
noncomputable def a_part_graph_splitters_0 : VC := .reg [
 (⟨(some 8), .mov (.tmp 14), none⟩, [])]
noncomputable def b_part_graph_splitters_0 : VC := .block 1 (.seq (.reg [
 (⟨(some 15), .load none (.tmp 3), none⟩, []),
 (⟨(some 16), .mov (.tmp 8), none⟩, []),
 (⟨(some 17), .nilCheck (.tmp 15), none⟩, []),
 (⟨(some 18), .fieldAddr 1 (.tmp 17), none⟩, []),
 (⟨(some 19), .idxArr 16 1 (.tmp 18) (.tmp 16), none⟩, []),
 (⟨(some 20), .load none (.tmp 19), none⟩, []),
 (⟨(some 21), .load none (.tmp 4), none⟩, []),
 (⟨(some 22), .bin .and (.tmp 20) (.tmp 21), none⟩, []),
 (⟨(some 9), .mov (.tmp 22), none⟩, [])])
 (.seq (.reg [
 (⟨(some 23), .mov (.tmp 9), none⟩, []),
 (⟨(some 24), .bin .neq (.tmp 23) (.const (.int .i64 0)), none⟩, []),
 (⟨(some 25), .mov (.tmp 24), none⟩, []),
 (⟨(some 26), .mov (.tmp 9), (some ((some 25), true))⟩, []),
 (⟨(some 27), .load none (.tmp 4), (some ((some 25), true))⟩, []),
 (⟨(some 28), .bin .neq (.tmp 26) (.tmp 27), (some ((some 25), true))⟩, []),
 (⟨(some 29), .pick (.tmp 25) (.tmp 28) (.const (.bool false)), none⟩, [])])
 (.cond (.tmp 29) (.reg [
 (⟨(some 30), .load none (.tmp 7), none⟩, []),
 (⟨(some 31), .mov (.tmp 8), none⟩, []),
 (⟨(some 32), .conv .u64 (.tmp 31), none⟩, []),
 (⟨(some 33), .bin .shl (.const (.int .i64 1)) (.tmp 32), none⟩, []),
 (⟨(some 34), .bin .or (.tmp 30) (.tmp 33), none⟩, []),
 (⟨none, .store 1 (.tmp 7) (.tmp 34), none⟩, [])])
 (.skip))))
theorem oka_part_graph_splitters_0 : cc PP 36 ca_part_graph_splitters_0 = some a_part_graph_splitters_0 := by kernel_rfl
theorem okb_part_graph_splitters_0 : cc PP 36 cb_part_graph_splitters_0 = some b_part_graph_splitters_0 := by kernel_rfl

/- (*forcola/part.graph).splitters -/
noncomputable def v_part_graph_splitters : VFn := ⟨36, 3, [.tmp 6],
  .seq (.reg [
 (⟨(some 3), .box (.tmp 0), none⟩, []),
 (⟨(some 4), .box (.tmp 1), none⟩, []),
 (⟨(some 6), .mov (.const (.int .i64 0)), none⟩, [])])
 (.seq (.reg [
 (⟨(some 7), .alloc [.int .i64 0], none⟩, []),
 (⟨none, .store 1 (.tmp 7) (.const (.int .i64 0)), none⟩, [])])
 (.seq (.seq (.reg [
 (⟨(some 10), .mov (.tmp 2), none⟩, []),
 (⟨(some 11), .load none (.tmp 4), none⟩, []),
 (⟨(some 12), .bin .andNot (.tmp 10) (.tmp 11), none⟩, []),
 (⟨(some 13), .call (.func k_part_vertices) [(.tmp 12)], none⟩, [])])
 (.block 0 (.rangeF (.tmp 13) #[14] ca_part_graph_splitters_0 cb_part_graph_splitters_0)))
 (.seq (.reg [
 (⟨(some 35), .load none (.tmp 7), none⟩, []),
 (⟨(some 6), .mov (.tmp 35), none⟩, [])])
 (.ret))))⟩
theorem ok_part_graph_splitters : FnOK PP k_part_graph_splitters v_part_graph_splitters := fnOK (fn := Tryd.f64) (by kernel_rfl) (by kernel_rfl) (by kernel_rfl)

/- forcola/part.opened -/
noncomputable def v_part_opened : VFn := ⟨22, 2, [.tmp 4, .tmp 5],
  .seq (.reg [
 (⟨(some 4), .mov (.const (.pointer none)), none⟩, []),
 (⟨(some 5), .mov (.const (.int .i64 0)), none⟩, [])])
 (.seq (.reg [
 (⟨(some 9), .mov (.tmp 0), none⟩, []),
 (⟨(some 10), .mov (.tmp 1), none⟩, []),
 (⟨(some 11), .call (.func k_part_open) [(.tmp 9), (.tmp 10)], none⟩, []),
 (⟨(some 8), .mov (.tmp 11), none⟩, []),
 (⟨(some 12), .extract (.tmp 8) 0, none⟩, []),
 (⟨(some 13), .extract (.tmp 8) 1, none⟩, []),
 (⟨(some 6), .mov (.tmp 12), none⟩, []),
 (⟨(some 7), .mov (.tmp 13), none⟩, [])])
 (.seq (.seq (.reg [
 (⟨(some 14), .mov (.tmp 7), none⟩, []),
 (⟨(some 15), .bin .neq (.tmp 14) (.const (.int .i64 0)), none⟩, [])])
 (.cond (.tmp 15) (.seq (.reg [
 (⟨(some 16), .mov (.tmp 7), none⟩, []),
 (⟨(some 4), .mov (.const (.pointer none)), none⟩, []),
 (⟨(some 5), .mov (.tmp 16), none⟩, [])])
 (.ret))
 (.skip)))
 (.seq (.reg [
 (⟨(some 17), .mov (.tmp 6), none⟩, []),
 (⟨(some 18), .mov (.tmp 6), none⟩, []),
 (⟨(some 19), .call (.func k_part_graph_complement) [(.tmp 18)], none⟩, []),
 (⟨(some 20), .build [.pointer none, .pointer none] [(0, 1, (.tmp 17)), (1, 1, (.tmp 19))], none⟩, []),
 (⟨(some 21), .box (.tmp 20), none⟩, []),
 (⟨(some 4), .mov (.tmp 21), none⟩, []),
 (⟨(some 5), .mov (.const (.int .i64 0)), none⟩, [])])
 (.ret))))⟩
theorem ok_part_opened : FnOK PP k_part_opened v_part_opened := fnOK (fn := Tryd.f65) (by kernel_rfl) (by kernel_rfl) (by kernel_rfl)

/- (*forcola/part.splitter).tree -/
noncomputable def v_part_splitter_tree : VFn := ⟨12, 3, [.cell (some 3) 6],
  .seq (.reg [
 (⟨(some 3), .box (.tmp 0), none⟩, []),
 (⟨(some 5), .box (.tmp 2), none⟩, []),
 (⟨(some 6), .alloc [.int .i64 0, .int .i64 0, .slice none 0 0], none⟩, [])])
 (.seq (.reg [
 (⟨(some 7), .alloc [.nilFunc], none⟩, [])])
 (.seq (.reg [
 (⟨(some 8), .mkFunc k_part_splitter_tree_1 [] [(.tmp 5), (.tmp 3), (.tmp 7)], none⟩, []),
 (⟨none, .store 1 (.tmp 7) (.tmp 8), none⟩, [])])
 (.seq (.reg [
 (⟨(some 9), .load none (.tmp 7), none⟩, []),
 (⟨(some 10), .mov (.tmp 1), none⟩, []),
 (⟨(some 11), .call (.tmp 9) [(.tmp 10)], none⟩, []),
 (⟨none, .store 3 (.tmp 6) (.tmp 11), none⟩, [])])
 (.ret))))⟩
theorem ok_part_splitter_tree : FnOK PP k_part_splitter_tree v_part_splitter_tree := fnOK (fn := Tryd.f66) (by kernel_rfl) (by kernel_rfl) (by kernel_rfl)

/- forcola/part.Split$1 -/
noncomputable def v_part_Split_1 : VFn := ⟨2, 1, [],
  .skip⟩
theorem ok_part_Split_1 : FnOK PP k_part_Split_1 v_part_Split_1 := fnOK (fn := Tryd.f69) (by kernel_rfl) (by kernel_rfl) (by kernel_rfl)

noncomputable def ca_part_splitter_parts_0 : Code := rA Tryd.f70 0
noncomputable def cb_part_splitter_parts_0 : Code := rB Tryd.f70 0
noncomputable def a_part_splitter_parts_0 : VC := .reg [
 (⟨(some 12), .mov (.tmp 51), none⟩, [])]
noncomputable def b_part_splitter_parts_0 : VC := .block 3 (.seq (.reg [
 (⟨(some 52), .load none (.tmp 2), none⟩, []),
 (⟨(some 53), .nilCheck (.tmp 52), none⟩, []),
 (⟨(some 54), .fieldAddr 0 (.tmp 53), none⟩, []),
 (⟨(some 55), .load none (.tmp 54), none⟩, []),
 (⟨(some 56), .load none (.tmp 10), none⟩, []),
 (⟨(some 57), .mov (.tmp 12), none⟩, []),
 (⟨(some 58), .conv .u64 (.tmp 57), none⟩, []),
 (⟨(some 59), .bin .shl (.const (.int .i64 1)) (.tmp 58), none⟩, []),
 (⟨(some 60), .bin .or (.tmp 56) (.tmp 59), none⟩, []),
 (⟨(some 61), .load none (.tmp 3), none⟩, []),
 (⟨(some 62), .call (.func k_part_graph_module) [(.tmp 55), (.tmp 60), (.tmp 61)], none⟩, []),
 (⟨(some 13), .mov (.tmp 62), none⟩, [])])
 (.seq (.reg [
 (⟨(some 63), .mov (.tmp 13), none⟩, []),
 (⟨(some 64), .load none (.tmp 3), none⟩, []),
 (⟨(some 65), .bin .neq (.tmp 63) (.tmp 64), none⟩, [])])
 (.cond (.tmp 65) (.reg [
 (⟨(some 66), .load none (.tmp 11), none⟩, []),
 (⟨(some 67), .mov (.tmp 13), none⟩, []),
 (⟨(some 68), .bin .or (.tmp 66) (.tmp 67), none⟩, []),
 (⟨none, .store 1 (.tmp 11) (.tmp 68), none⟩, [])])
 (.skip))))
theorem oka_part_splitter_parts_0 : cc PP 77 ca_part_splitter_parts_0 = some a_part_splitter_parts_0 := by kernel_rfl
theorem okb_part_splitter_parts_0 : cc PP 77 cb_part_splitter_parts_0 = some b_part_splitter_parts_0 := by kernel_rfl

/- (*forcola/part.splitter).parts -/
noncomputable def v_part_splitter_parts : VFn := ⟨77, 2, [.tmp 4, .tmp 5],
  .seq (.reg [
 (⟨(some 2), .box (.tmp 0), none⟩, []),
 (⟨(some 3), .box (.tmp 1), none⟩, []),
 (⟨(some 4), .mov (.const (.int .i64 0)), none⟩, []),
 (⟨(some 5), .mov (.const (.slice none 0 0)), none⟩, [])])
 (.seq (.seq (.reg [
 (⟨(some 14), .load none (.tmp 3), none⟩, []),
 (⟨(some 15), .load none (.tmp 3), none⟩, []),
 (⟨(some 16), .bin .sub (.tmp 15) (.const (.int .i64 1)), none⟩, []),
 (⟨(some 17), .bin .and (.tmp 14) (.tmp 16), none⟩, []),
 (⟨(some 18), .bin .eql (.tmp 17) (.const (.int .i64 0)), none⟩, [])])
 (.cond (.tmp 18) (.seq (.reg [
 (⟨(some 4), .mov (.const (.int .i64 0)), none⟩, []),
 (⟨(some 5), .mov (.const (.slice none 0 0)), none⟩, [])])
 (.ret))
 (.skip)))
 (.seq (.seq (.reg [
 (⟨(some 19), .load none (.tmp 2), none⟩, []),
 (⟨(some 20), .nilCheck (.tmp 19), none⟩, []),
 (⟨(some 21), .fieldAddr 0 (.tmp 20), none⟩, []),
 (⟨(some 22), .load none (.tmp 21), none⟩, []),
 (⟨(some 23), .load none (.tmp 3), none⟩, []),
 (⟨(some 24), .call (.func k_part_graph_connected) [(.tmp 22), (.tmp 23)], none⟩, []),
 (⟨(some 6), .mov (.tmp 24), none⟩, [])])
 (.seq (.reg [
 (⟨(some 25), .mov (.tmp 6), none⟩, []),
 (⟨(some 26), .lenSl (.tmp 25), none⟩, []),
 (⟨(some 27), .bin .gtr (.tmp 26) (.const (.int .i64 1)), none⟩, [])])
 (.cond (.tmp 27) (.seq (.reg [
 (⟨(some 28), .mov (.tmp 6), none⟩, []),
 (⟨(some 4), .mov (.const (.int .i64 1)), none⟩, []),
 (⟨(some 5), .mov (.tmp 28), none⟩, [])])
 (.ret))
 (.skip))))
 (.seq (.seq (.reg [
 (⟨(some 29), .load none (.tmp 2), none⟩, []),
 (⟨(some 30), .nilCheck (.tmp 29), none⟩, []),
 (⟨(some 31), .fieldAddr 1 (.tmp 30), none⟩, []),
 (⟨(some 32), .load none (.tmp 31), none⟩, []),
 (⟨(some 33), .load none (.tmp 3), none⟩, []),
 (⟨(some 34), .call (.func k_part_graph_connected) [(.tmp 32), (.tmp 33)], none⟩, []),
 (⟨(some 7), .mov (.tmp 34), none⟩, [])])
 (.seq (.reg [
 (⟨(some 35), .mov (.tmp 7), none⟩, []),
 (⟨(some 36), .lenSl (.tmp 35), none⟩, []),
 (⟨(some 37), .bin .gtr (.tmp 36) (.const (.int .i64 1)), none⟩, [])])
 (.cond (.tmp 37) (.seq (.reg [
 (⟨(some 38), .mov (.tmp 7), none⟩, []),
 (⟨(some 4), .mov (.const (.int .i64 2)), none⟩, []),
 (⟨(some 5), .mov (.tmp 38), none⟩, [])])
 (.ret))
 (.skip))))
 (.seq (.reg [
 (⟨(some 8), .mov (.const (.slice none 0 0)), none⟩, [])])
 (.seq (.seq (.reg [
 (⟨(some 39), .load none (.tmp 3), none⟩, []),
 (⟨(some 9), .mov (.tmp 39), none⟩, [])])
 (.block 0 (.loop (.seq (.seq (.reg [
 (⟨(some 40), .mov (.tmp 9), none⟩, []),
 (⟨(some 41), .bin .neq (.tmp 40) (.const (.int .i64 0)), none⟩, [])])
 (.cond (.tmp 41) (.skip)
 (.exit 0)))
 (.block 1 (.seq (.reg [
 (⟨(some 42), .mov (.tmp 9), none⟩, []),
 (⟨(some 43), .mov (.tmp 9), none⟩, []),
 (⟨(some 44), .neg (.tmp 43), none⟩, []),
 (⟨(some 45), .bin .and (.tmp 42) (.tmp 44), none⟩, []),
 (⟨(some 10), .alloc [.int .i64 0], none⟩, []),
 (⟨none, .store 1 (.tmp 10) (.tmp 45), none⟩, [])])
 (.seq (.reg [
 (⟨(some 46), .load none (.tmp 10), none⟩, []),
 (⟨(some 11), .alloc [.int .i64 0], none⟩, []),
 (⟨none, .store 1 (.tmp 11) (.tmp 46), none⟩, [])])
 (.seq (.seq (.reg [
 (⟨(some 47), .mov (.tmp 9), none⟩, []),
 (⟨(some 48), .load none (.tmp 10), none⟩, []),
 (⟨(some 49), .bin .andNot (.tmp 47) (.tmp 48), none⟩, []),
 (⟨(some 50), .call (.func k_part_vertices) [(.tmp 49)], none⟩, [])])
 (.block 2 (.rangeF (.tmp 50) #[51] ca_part_splitter_parts_0 cb_part_splitter_parts_0)))
 (.seq (.reg [
 (⟨(some 69), .mov (.tmp 8), none⟩, []),
 (⟨(some 70), .load none (.tmp 11), none⟩, []),
 (⟨(some 71), .buildSlice 1 1 [.int .i64 0] [(0, 1, (.tmp 70))], none⟩, []),
 (⟨(some 72), .append 1 (.tmp 69) (.tmp 71), none⟩, []),
 (⟨(some 8), .mov (.tmp 72), none⟩, [])])
 (.reg [
 (⟨(some 73), .mov (.tmp 9), none⟩, []),
 (⟨(some 74), .load none (.tmp 11), none⟩, []),
 (⟨(some 75), .bin .andNot (.tmp 73) (.tmp 74), none⟩, []),
 (⟨(some 9), .mov (.tmp 75), none⟩, [])]))))))))))
 (.seq (.reg [
 (⟨(some 76), .mov (.tmp 8), none⟩, []),
 (⟨(some 4), .mov (.const (.int .i64 3)), none⟩, []),
 (⟨(some 5), .mov (.tmp 76), none⟩, [])])
 (.ret)))))))⟩
theorem ok_part_splitter_parts : FnOK PP k_part_splitter_parts v_part_splitter_parts := fnOK (fn := Tryd.f70) (by kernel_rfl) (by kernel_rfl) (by kernel_rfl)

/- math/bits.TrailingZeros -/
noncomputable def v_math_bits_TrailingZeros : VFn := ⟨8, 1, [.tmp 2],
  .seq (.reg [
 (⟨(some 2), .mov (.const (.int .i64 0)), none⟩, [])])
 (.seq (.cond (.const (.bool false)) (.seq (.reg [
 (⟨(some 3), .mov (.tmp 0), none⟩, []),
 (⟨(some 4), .conv .u32 (.tmp 3), none⟩, []),
 (⟨(some 5), .call (.func k_math_bits_TrailingZeros32) [(.tmp 4)], none⟩, []),
 (⟨(some 2), .mov (.tmp 5), none⟩, [])])
 (.ret))
 (.skip))
 (.seq (.reg [
 (⟨(some 6), .mov (.tmp 0), none⟩, []),
 (⟨(some 7), .call (.func k_math_bits_TrailingZeros64) [(.tmp 6)], none⟩, []),
 (⟨(some 2), .mov (.tmp 7), none⟩, [])])
 (.ret)))⟩
theorem ok_math_bits_TrailingZeros : FnOK PP k_math_bits_TrailingZeros v_math_bits_TrailingZeros := fnOK (fn := Tryd.f71) (by kernel_rfl) (by kernel_rfl) (by kernel_rfl)

/- slices.Compare[[]int,int] -/
noncomputable def v_slices_Compareint_int : VFn := ⟨36, 2, [.tmp 4],
  .seq (.reg [
 (⟨(some 4), .mov (.const (.int .i64 0)), none⟩, [])])
 (.seq (.seq (.reg [
 (⟨(some 9), .mov (.tmp 0), none⟩, []),
 (⟨(some 10), .lenSl (.tmp 9), none⟩, []),
 (⟨(some 11), .mov (.const (.int .i64 0)), none⟩, [])])
 (.block 0 (.loop (.seq (.reg [
 (⟨(some 12), .bin .lss (.tmp 11) (.tmp 10), none⟩, [])])
 (.seq (.cond (.tmp 12) (.skip)
 (.exit 0))
 (.seq (.block 1 (.seq (.reg [
 (⟨(some 13), .mov (.tmp 11), none⟩, []),
 (⟨(some 14), .idxSl 1 (.tmp 9) (.tmp 11), none⟩, []),
 (⟨(some 15), .load none (.tmp 14), none⟩, []),
 (⟨(some 5), .mov (.tmp 13), none⟩, []),
 (⟨(some 6), .mov (.tmp 15), none⟩, [])])
 (.seq (.seq (.reg [
 (⟨(some 16), .mov (.tmp 5), none⟩, []),
 (⟨(some 17), .mov (.tmp 1), none⟩, []),
 (⟨(some 18), .lenSl (.tmp 17), none⟩, []),
 (⟨(some 19), .bin .geq (.tmp 16) (.tmp 18), none⟩, [])])
 (.cond (.tmp 19) (.seq (.reg [
 (⟨(some 4), .mov (.const (.int .i64 1)), none⟩, [])])
 (.ret))
 (.skip)))
 (.seq (.reg [
 (⟨(some 20), .mov (.tmp 1), none⟩, []),
 (⟨(some 21), .mov (.tmp 5), none⟩, []),
 (⟨(some 22), .idxSl 1 (.tmp 20) (.tmp 21), none⟩, []),
 (⟨(some 23), .load none (.tmp 22), none⟩, []),
 (⟨(some 7), .mov (.tmp 23), none⟩, [])])
 (.seq (.reg [
 (⟨(some 24), .mov (.tmp 6), none⟩, []),
 (⟨(some 25), .mov (.tmp 7), none⟩, []),
 (⟨(some 26), .call (.func k_cmp_Compareint) [(.tmp 24), (.tmp 25)], none⟩, []),
 (⟨(some 8), .mov (.tmp 26), none⟩, [])])
 (.seq (.reg [
 (⟨(some 27), .mov (.tmp 8), none⟩, []),
 (⟨(some 28), .bin .neq (.tmp 27) (.const (.int .i64 0)), none⟩, [])])
 (.cond (.tmp 28) (.seq (.reg [
 (⟨(some 29), .mov (.tmp 8), none⟩, []),
 (⟨(some 4), .mov (.tmp 29), none⟩, [])])
 (.ret))
 (.skip))))))))
 (.reg [
 (⟨(some 30), .bin .add (.tmp 11) (.const (.int .i64 1)), none⟩, []),
 (⟨(some 11), .mov (.tmp 30), none⟩, [])])))))))
 (.seq (.seq (.reg [
 (⟨(some 31), .mov (.tmp 0), none⟩, []),
 (⟨(some 32), .lenSl (.tmp 31), none⟩, []),
 (⟨(some 33), .mov (.tmp 1), none⟩, []),
 (⟨(some 34), .lenSl (.tmp 33), none⟩, []),
 (⟨(some 35), .bin .lss (.tmp 32) (.tmp 34), none⟩, [])])
 (.cond (.tmp 35) (.seq (.reg [
 (⟨(some 4), .mov (.const (.int .i64 (-1))), none⟩, [])])
 (.ret))
 (.skip)))
 (.seq (.reg [
 (⟨(some 4), .mov (.const (.int .i64 0)), none⟩, [])])
 (.ret))))⟩
theorem ok_slices_Compareint_int : FnOK PP k_slices_Compareint_int v_slices_Compareint_int := fnOK (fn := Tryd.f73) (by kernel_rfl) (by kernel_rfl) (by kernel_rfl)

/- forcola/part.vertices -/
noncomputable def v_part_vertices : VFn := ⟨4, 1, [.tmp 2],
  .seq (.reg [
 (⟨(some 1), .box (.tmp 0), none⟩, []),
 (⟨(some 2), .mov (.const (.nilFunc)), none⟩, [])])
 (.seq (.reg [
 (⟨(some 3), .mkFunc k_part_vertices_1 [] [(.tmp 1)], none⟩, []),
 (⟨(some 2), .mov (.tmp 3), none⟩, [])])
 (.ret))⟩
theorem ok_part_vertices : FnOK PP k_part_vertices v_part_vertices := fnOK (fn := Tryd.f74) (by kernel_rfl) (by kernel_rfl) (by kernel_rfl)

/- slices.Sort[[]string,string] -/
noncomputable def v_slices_Sortstring_string : VFn := ⟨11, 1, [],
  .seq (.reg [
 (⟨(some 3), .mov (.tmp 0), none⟩, []),
 (⟨(some 4), .lenSl (.tmp 3), none⟩, []),
 (⟨(some 2), .mov (.tmp 4), none⟩, [])])
 (.reg [
 (⟨(some 5), .mov (.tmp 0), none⟩, []),
 (⟨(some 6), .mov (.tmp 2), none⟩, []),
 (⟨(some 7), .mov (.tmp 2), none⟩, []),
 (⟨(some 8), .conv .u64 (.tmp 7), none⟩, []),
 (⟨(some 9), .call (.func k_math_bits_Len) [(.tmp 8)], none⟩, []),
 (⟨(some 10), .call (.func k_slices_pdqsortOrderedstring) [(.tmp 5), (.const (.int .i64 0)), (.tmp 6), (.tmp 9)], none⟩, [])])⟩
theorem ok_slices_Sortstring_string : FnOK PP k_slices_Sortstring_string v_slices_Sortstring_string := fnOK (fn := Tryd.f75) (by kernel_rfl) (by kernel_rfl) (by kernel_rfl)

/- strings.Join -/
noncomputable def v_strings_Join : VFn := ⟨75, 2, [.tmp 4],
  .seq (.reg [
 (⟨(some 4), .mov (.const (.string ⟨#[]⟩)), none⟩, [])])
 (.seq (.seq (.reg [
 (⟨(some 11), .mov (.tmp 0), none⟩, []),
 (⟨(some 12), .lenSl (.tmp 11), none⟩, [])])
 (.block 0 (.seq (.reg [
 (⟨(some 14), .bin .eql (.tmp 12) (.const (.int .i64 0)), none⟩, []),
 (⟨(some 13), .mov (.tmp 14), none⟩, [])])
 (.cond (.tmp 13) (.seq (.reg [
 (⟨(some 4), .mov (.const (.string ⟨#[]⟩)), none⟩, [])])
 (.ret))
 (.seq (.reg [
 (⟨(some 16), .bin .eql (.tmp 12) (.const (.int .i64 1)), none⟩, []),
 (⟨(some 15), .mov (.tmp 16), none⟩, [])])
 (.cond (.tmp 15) (.seq (.reg [
 (⟨(some 17), .mov (.tmp 0), none⟩, []),
 (⟨(some 18), .idxSl 1 (.tmp 17) (.const (.int .i64 0)), none⟩, []),
 (⟨(some 19), .load none (.tmp 18), none⟩, []),
 (⟨(some 4), .mov (.tmp 19), none⟩, [])])
 (.ret))
 (.skip)))))))
 (.seq (.reg [
 (⟨(some 5), .mov (.const (.int .i64 0)), none⟩, [])])
 (.seq (.seq (.reg [
 (⟨(some 20), .mov (.tmp 1), none⟩, []),
 (⟨(some 21), .lenStr (.tmp 20), none⟩, []),
 (⟨(some 22), .bin .gtr (.tmp 21) (.const (.int .i64 0)), none⟩, [])])
 (.cond (.tmp 22) (.seq (.seq (.reg [
 (⟨(some 23), .mov (.tmp 1), none⟩, []),
 (⟨(some 24), .lenStr (.tmp 23), none⟩, []),
 (⟨(some 25), .mov (.tmp 0), none⟩, []),
 (⟨(some 26), .lenSl (.tmp 25), none⟩, []),
 (⟨(some 27), .bin .sub (.tmp 26) (.const (.int .i64 1)), none⟩, []),
 (⟨(some 28), .bin .quo (.const (.int .i64 9223372036854775807)) (.tmp 27), none⟩, []),
 (⟨(some 29), .bin .geq (.tmp 24) (.tmp 28), none⟩, [])])
 (.cond (.tmp 29) (.reg [
 (⟨(some 30), .never, none⟩, []),
 (⟨none, .never, none⟩, [])])
 (.skip)))
 (.reg [
 (⟨(some 31), .mov (.tmp 5), none⟩, []),
 (⟨(some 32), .mov (.tmp 1), none⟩, []),
 (⟨(some 33), .lenStr (.tmp 32), none⟩, []),
 (⟨(some 34), .mov (.tmp 0), none⟩, []),
 (⟨(some 35), .lenSl (.tmp 34), none⟩, []),
 (⟨(some 36), .bin .sub (.tmp 35) (.const (.int .i64 1)), none⟩, []),
 (⟨(some 37), .bin .mul (.tmp 33) (.tmp 36), none⟩, []),
 (⟨(some 38), .bin .add (.tmp 31) (.tmp 37), none⟩, []),
 (⟨(some 5), .mov (.tmp 38), none⟩, [])]))
 (.skip)))
 (.seq (.seq (.reg [
 (⟨(some 39), .mov (.tmp 0), none⟩, []),
 (⟨(some 40), .lenSl (.tmp 39), none⟩, []),
 (⟨(some 41), .mov (.const (.int .i64 0)), none⟩, [])])
 (.block 1 (.loop (.seq (.reg [
 (⟨(some 42), .bin .lss (.tmp 41) (.tmp 40), none⟩, [])])
 (.seq (.cond (.tmp 42) (.skip)
 (.exit 1))
 (.seq (.block 2 (.seq (.reg [
 (⟨(some 43), .idxSl 1 (.tmp 39) (.tmp 41), none⟩, []),
 (⟨(some 44), .load none (.tmp 43), none⟩, []),
 (⟨(some 7), .mov (.tmp 44), none⟩, [])])
 (.seq (.seq (.reg [
 (⟨(some 45), .mov (.tmp 7), none⟩, []),
 (⟨(some 46), .lenStr (.tmp 45), none⟩, []),
 (⟨(some 47), .mov (.tmp 5), none⟩, []),
 (⟨(some 48), .bin .sub (.const (.int .i64 9223372036854775807)) (.tmp 47), none⟩, []),
 (⟨(some 49), .bin .gtr (.tmp 46) (.tmp 48), none⟩, [])])
 (.cond (.tmp 49) (.reg [
 (⟨(some 50), .never, none⟩, []),
 (⟨none, .never, none⟩, [])])
 (.skip)))
 (.reg [
 (⟨(some 51), .mov (.tmp 5), none⟩, []),
 (⟨(some 52), .mov (.tmp 7), none⟩, []),
 (⟨(some 53), .lenStr (.tmp 52), none⟩, []),
 (⟨(some 54), .bin .add (.tmp 51) (.tmp 53), none⟩, []),
 (⟨(some 5), .mov (.tmp 54), none⟩, [])]))))
 (.reg [
 (⟨(some 55), .bin .add (.tmp 41) (.const (.int .i64 1)), none⟩, []),
 (⟨(some 41), .mov (.tmp 55), none⟩, [])])))))))
 (.seq (.reg [
 (⟨(some 8), .alloc [.pointer none, .slice none 0 0], none⟩, [])])
 (.seq (.reg [
 (⟨(some 56), .mov (.tmp 5), none⟩, []),
 (⟨(some 57), .call (.func k_strings_Builder_Grow) [(.tmp 8), (.tmp 56)], none⟩, [])])
 (.seq (.reg [
 (⟨(some 58), .mov (.tmp 0), none⟩, []),
 (⟨(some 59), .idxSl 1 (.tmp 58) (.const (.int .i64 0)), none⟩, []),
 (⟨(some 60), .load none (.tmp 59), none⟩, []),
 (⟨(some 61), .call (.func k_strings_Builder_WriteString) [(.tmp 8), (.tmp 60)], none⟩, [])])
 (.seq (.seq (.reg [
 (⟨(some 62), .mov (.tmp 0), none⟩, []),
 (⟨(some 63), .sliceSl 1 (.tmp 62) (some (.const (.int .i64 1))) none none, none⟩, []),
 (⟨(some 64), .lenSl (.tmp 63), none⟩, []),
 (⟨(some 65), .mov (.const (.int .i64 0)), none⟩, [])])
 (.block 3 (.loop (.seq (.reg [
 (⟨(some 66), .bin .lss (.tmp 65) (.tmp 64), none⟩, [])])
 (.seq (.cond (.tmp 66) (.skip)
 (.exit 3))
 (.seq (.block 4 (.seq (.reg [
 (⟨(some 67), .idxSl 1 (.tmp 63) (.tmp 65), none⟩, []),
 (⟨(some 68), .load none (.tmp 67), none⟩, []),
 (⟨(some 10), .mov (.tmp 68), none⟩, [])])
 (.seq (.reg [
 (⟨(some 69), .mov (.tmp 1), none⟩, []),
 (⟨(some 70), .call (.func k_strings_Builder_WriteString) [(.tmp 8), (.tmp 69)], none⟩, [])])
 (.reg [
 (⟨(some 71), .mov (.tmp 10), none⟩, []),
 (⟨(some 72), .call (.func k_strings_Builder_WriteString) [(.tmp 8), (.tmp 71)], none⟩, [])]))))
 (.reg [
 (⟨(some 73), .bin .add (.tmp 65) (.const (.int .i64 1)), none⟩, []),
 (⟨(some 65), .mov (.tmp 73), none⟩, [])])))))))
 (.seq (.reg [
 (⟨(some 74), .call (.func k_strings_Builder_String) [(.tmp 8)], none⟩, []),
 (⟨(some 4), .mov (.tmp 74), none⟩, [])])
 (.ret))))))))))⟩
theorem ok_strings_Join : FnOK PP k_strings_Join v_strings_Join := fnOK (fn := Tryd.f76) (by kernel_rfl) (by kernel_rfl) (by kernel_rfl)

/- strings.HasPrefix -/
noncomputable def v_strings_HasPrefix : VFn := ⟨8, 2, [.tmp 4],
  .seq (.reg [
 (⟨(some 4), .mov (.const (.bool false)), none⟩, [])])
 (.seq (.reg [
 (⟨(some 5), .mov (.tmp 0), none⟩, []),
 (⟨(some 6), .mov (.tmp 1), none⟩, []),
 (⟨(some 7), .call (.func k_internal_stringslite_HasPrefix) [(.tmp 5), (.tmp 6)], none⟩, []),
 (⟨(some 4), .mov (.tmp 7), none⟩, [])])
 (.ret))⟩
theorem ok_strings_HasPrefix : FnOK PP k_strings_HasPrefix v_strings_HasPrefix := fnOK (fn := Tryd.f79) (by kernel_rfl) (by kernel_rfl) (by kernel_rfl)

/- (*forcola/part.splitter).tree$1 -/
noncomputable def v_part_splitter_tree_1 : VFn := ⟨44, 1, [.cell (some 3) 5],
  .seq (.reg [
 (⟨(some 5), .alloc [.int .i64 0, .int .i64 0, .slice none 0 0], none⟩, [])])
 (.seq (.reg [
 (⟨(some 11), .load none (.tmp 1), none⟩, []),
 (⟨(some 12), .mov (.tmp 0), none⟩, []),
 (⟨(some 13), .call (.tmp 11) [(.tmp 12)], none⟩, [])])
 (.seq (.reg [
 (⟨(some 15), .load none (.tmp 2), none⟩, []),
 (⟨(some 16), .mov (.tmp 0), none⟩, []),
 (⟨(some 17), .call (.func k_part_splitter_parts) [(.tmp 15), (.tmp 16)], none⟩, []),
 (⟨(some 14), .mov (.tmp 17), none⟩, []),
 (⟨(some 18), .extract (.tmp 14) 0, none⟩, []),
 (⟨(some 19), .extract (.tmp 14) 1, none⟩, []),
 (⟨(some 6), .mov (.tmp 18), none⟩, []),
 (⟨(some 7), .mov (.tmp 19), none⟩, [])])
 (.seq (.seq (.reg [
 (⟨(some 20), .mov (.tmp 6), none⟩, []),
 (⟨(some 21), .bin .eql (.tmp 20) (.const (.int .i64 0)), none⟩, [])])
 (.cond (.tmp 21) (.seq (.reg [
 (⟨(some 22), .mov (.tmp 0), none⟩, []),
 (⟨(some 23), .conv .u64 (.tmp 22), none⟩, []),
 (⟨(some 24), .call (.func k_math_bits_TrailingZeros) [(.tmp 23)], none⟩, []),
 (⟨(some 25), .build [.int .i64 0, .int .i64 0, .slice none 0 0] [(1, 1, (.tmp 24))], none⟩, []),
 (⟨none, .store 3 (.tmp 5) (.tmp 25), none⟩, [])])
 (.ret))
 (.skip)))
 (.seq (.reg [
 (⟨(some 26), .mov (.tmp 6), none⟩, []),
 (⟨(some 27), .build [.int .i64 0, .int .i64 0, .slice none 0 0] [(0, 1, (.tmp 26))], none⟩, []),
 (⟨(some 8), .alloc [.int .i64 0, .int .i64 0, .slice none 0 0], none⟩, []),
 (⟨none, .store 3 (.tmp 8) (.tmp 27), none⟩, [])])
 (.seq (.seq (.reg [
 (⟨(some 28), .mov (.tmp 7), none⟩, []),
 (⟨(some 29), .lenSl (.tmp 28), none⟩, []),
 (⟨(some 30), .mov (.const (.int .i64 0)), none⟩, [])])
 (.block 0 (.loop (.seq (.reg [
 (⟨(some 31), .bin .lss (.tmp 30) (.tmp 29), none⟩, [])])
 (.seq (.cond (.tmp 31) (.skip)
 (.exit 0))
 (.seq (.block 1 (.seq (.reg [
 (⟨(some 32), .idxSl 1 (.tmp 28) (.tmp 30), none⟩, []),
 (⟨(some 33), .load none (.tmp 32), none⟩, []),
 (⟨(some 10), .mov (.tmp 33), none⟩, [])])
 (.reg [
 (⟨(some 34), .fieldAddr 2 (.tmp 8), none⟩, []),
 (⟨(some 35), .load none (.tmp 34), none⟩, []),
 (⟨(some 36), .load none (.tmp 3), none⟩, []),
 (⟨(some 37), .mov (.tmp 10), none⟩, []),
 (⟨(some 38), .call (.tmp 36) [(.tmp 37)], none⟩, [⟨(some 35), .load none (.tmp 34), none⟩]),
 (⟨(some 39), .buildSlice 3 1 [.int .i64 0, .int .i64 0, .slice none 0 0] [(0, 3, (.tmp 38))], none⟩, [⟨(some 35), .load none (.tmp 34), none⟩]),
 (⟨(some 40), .append 3 (.tmp 35) (.tmp 39), none⟩, []),
 (⟨(some 41), .fieldAddr 2 (.tmp 8), none⟩, []),
 (⟨none, .store 1 (.tmp 41) (.tmp 40), none⟩, [])])))
 (.reg [
 (⟨(some 42), .bin .add (.tmp 30) (.const (.int .i64 1)), none⟩, []),
 (⟨(some 30), .mov (.tmp 42), none⟩, [])])))))))
 (.seq (.reg [
 (⟨(some 43), .load (some 3) (.tmp 8), none⟩, []),
 (⟨none, .store 3 (.tmp 5) (.tmp 43), none⟩, [])])
 (.ret)))))))⟩
theorem ok_part_splitter_tree_1 : FnOK PP k_part_splitter_tree_1 v_part_splitter_tree_1 := fnOK (fn := Tryd.f80) (by kernel_rfl) (by kernel_rfl) (by kernel_rfl)

/- math/bits.Len -/
noncomputable def v_math_bits_Len : VFn := ⟨8, 1, [.tmp 2],
  .seq (.reg [
 (⟨(some 2), .mov (.const (.int .i64 0)), none⟩, [])])
 (.seq (.cond (.const (.bool false)) (.seq (.reg [
 (⟨(some 3), .mov (.tmp 0), none⟩, []),
 (⟨(some 4), .conv .u32 (.tmp 3), none⟩, []),
 (⟨(some 5), .call (.func k_math_bits_Len32) [(.tmp 4)], none⟩, []),
 (⟨(some 2), .mov (.tmp 5), none⟩, [])])
 (.ret))
 (.skip))
 (.seq (.reg [
 (⟨(some 6), .mov (.tmp 0), none⟩, []),
 (⟨(some 7), .call (.func k_math_bits_Len64) [(.tmp 6)], none⟩, []),
 (⟨(some 2), .mov (.tmp 7), none⟩, [])])
 (.ret)))⟩
theorem ok_math_bits_Len : FnOK PP k_math_bits_Len v_math_bits_Len := fnOK (fn := Tryd.f82) (by kernel_rfl) (by kernel_rfl) (by kernel_rfl)

noncomputable def ca_part_graph_connected_0 : Code := rA Tryd.f83 0
noncomputable def cb_part_graph_connected_0 : Code := rB Tryd.f83 0
noncomputable def a_part_graph_connected_0 : VC := .reg [
 (⟨(some 8), .mov (.tmp 21), none⟩, [])]
noncomputable def b_part_graph_connected_0 : VC := .block 5 (.reg [
 (⟨(some 22), .load none (.tmp 6), none⟩, []),
 (⟨(some 23), .load none (.tmp 2), none⟩, []),
 (⟨(some 24), .mov (.tmp 8), none⟩, []),
 (⟨(some 25), .nilCheck (.tmp 23), none⟩, []),
 (⟨(some 26), .fieldAddr 1 (.tmp 25), none⟩, []),
 (⟨(some 27), .idxArr 16 1 (.tmp 26) (.tmp 24), none⟩, []),
 (⟨(some 28), .load none (.tmp 27), none⟩, []),
 (⟨(some 29), .load none (.tmp 3), none⟩, []),
 (⟨(some 30), .bin .and (.tmp 28) (.tmp 29), none⟩, []),
 (⟨(some 31), .bin .or (.tmp 22) (.tmp 30), none⟩, []),
 (⟨none, .store 1 (.tmp 6) (.tmp 31), none⟩, [])])
theorem oka_part_graph_connected_0 : cc PP 40 ca_part_graph_connected_0 = some a_part_graph_connected_0 := by kernel_rfl
theorem okb_part_graph_connected_0 : cc PP 40 cb_part_graph_connected_0 = some b_part_graph_connected_0 := by kernel_rfl

/- (*forcola/part.graph).connected -/
noncomputable def v_part_graph_connected : VFn := ⟨40, 2, [.tmp 4],
  .seq (.reg [
 (⟨(some 2), .box (.tmp 0), none⟩, []),
 (⟨(some 3), .box (.tmp 1), none⟩, []),
 (⟨(some 4), .mov (.const (.slice none 0 0)), none⟩, [])])
 (.seq (.reg [
 (⟨(some 5), .mov (.const (.slice none 0 0)), none⟩, [])])
 (.seq (.block 0 (.loop (.seq (.seq (.reg [
 (⟨(some 9), .load none (.tmp 3), none⟩, []),
 (⟨(some 10), .bin .neq (.tmp 9) (.const (.int .i64 0)), none⟩, [])])
 (.cond (.tmp 10) (.skip)
 (.exit 0)))
 (.block 1 (.seq (.reg [
 (⟨(some 11), .load none (.tmp 3), none⟩, []),
 (⟨(some 12), .load none (.tmp 3), none⟩, []),
 (⟨(some 13), .neg (.tmp 12), none⟩, []),
 (⟨(some 14), .bin .and (.tmp 11) (.tmp 13), none⟩, []),
 (⟨(some 6), .alloc [.int .i64 0], none⟩, []),
 (⟨none, .store 1 (.tmp 6) (.tmp 14), none⟩, [])])
 (.seq (.seq (.reg [
 (⟨(some 7), .mov (.const (.int .i64 0)), none⟩, [])])
 (.block 2 (.loop (.seq (.seq (.reg [
 (⟨(some 15), .mov (.tmp 7), none⟩, []),
 (⟨(some 16), .load none (.tmp 6), none⟩, []),
 (⟨(some 17), .bin .neq (.tmp 15) (.tmp 16), none⟩, [])])
 (.cond (.tmp 17) (.skip)
 (.exit 2)))
 (.block 3 (.seq (.reg [
 (⟨(some 18), .load none (.tmp 6), none⟩, []),
 (⟨(some 7), .mov (.tmp 18), none⟩, [])])
 (.seq (.reg [
 (⟨(some 19), .mov (.tmp 7), none⟩, []),
 (⟨(some 20), .call (.func k_part_vertices) [(.tmp 19)], none⟩, [])])
 (.block 4 (.rangeF (.tmp 20) #[21] ca_part_graph_connected_0 cb_part_graph_connected_0)))))))))
 (.seq (.reg [
 (⟨(some 32), .mov (.tmp 5), none⟩, []),
 (⟨(some 33), .load none (.tmp 6), none⟩, []),
 (⟨(some 34), .buildSlice 1 1 [.int .i64 0] [(0, 1, (.tmp 33))], none⟩, []),
 (⟨(some 35), .append 1 (.tmp 32) (.tmp 34), none⟩, []),
 (⟨(some 5), .mov (.tmp 35), none⟩, [])])
 (.reg [
 (⟨(some 36), .load none (.tmp 3), none⟩, []),
 (⟨(some 37), .load none (.tmp 6), none⟩, []),
 (⟨(some 38), .bin .andNot (.tmp 36) (.tmp 37), none⟩, []),
 (⟨none, .store 1 (.tmp 3) (.tmp 38), none⟩, [])]))))))))
 (.seq (.reg [
 (⟨(some 39), .mov (.tmp 5), none⟩, []),
 (⟨(some 4), .mov (.tmp 39), none⟩, [])])
 (.ret))))⟩
theorem ok_part_graph_connected : FnOK PP k_part_graph_connected v_part_graph_connected := fnOK (fn := Tryd.f83) (by kernel_rfl) (by kernel_rfl) (by kernel_rfl)

/- (*forcola/part.graph).module -/
noncomputable def v_part_graph_module : VFn := ⟨19, 3, [.tmp 6],
  .seq (.reg [
 (⟨(some 6), .mov (.const (.int .i64 0)), none⟩, [])])
 (.seq (.seq (.reg [
 (⟨(some 8), .mov (.tmp 1), none⟩, []),
 (⟨(some 7), .mov (.tmp 8), none⟩, [])])
 (.block 0 (.loop (.seq (.seq (.reg [
 (⟨(some 9), .mov (.tmp 7), none⟩, []),
 (⟨(some 10), .bin .neq (.tmp 9) (.const (.int .i64 0)), none⟩, [])])
 (.cond (.tmp 10) (.skip)
 (.exit 0)))
 (.seq (.block 1 (.reg [
 (⟨(some 14), .mov (.tmp 0), none⟩, []),
 (⟨(some 15), .mov (.tmp 1), none⟩, []),
 (⟨(some 16), .mov (.tmp 2), none⟩, []),
 (⟨(some 17), .call (.func k_part_graph_splitters) [(.tmp 14), (.tmp 15), (.tmp 16)], none⟩, []),
 (⟨(some 7), .mov (.tmp 17), none⟩, [])]))
 (.reg [
 (⟨(some 11), .mov (.tmp 1), none⟩, []),
 (⟨(some 12), .mov (.tmp 7), none⟩, []),
 (⟨(some 13), .bin .or (.tmp 11) (.tmp 12), none⟩, []),
 (⟨(some 1), .mov (.tmp 13), none⟩, [])]))))))
 (.seq (.reg [
 (⟨(some 18), .mov (.tmp 1), none⟩, []),
 (⟨(some 6), .mov (.tmp 18), none⟩, [])])
 (.ret)))⟩
theorem ok_part_graph_module : FnOK PP k_part_graph_module v_part_graph_module := fnOK (fn := Tryd.f84) (by kernel_rfl) (by kernel_rfl) (by kernel_rfl)

/- cmp.Compare[int] -/
noncomputable def v_cmp_Compareint : VFn := ⟨20, 2, [.tmp 4],
  .seq (.reg [
 (⟨(some 4), .mov (.const (.int .i64 0)), none⟩, [])])
 (.seq (.reg [
 (⟨(some 7), .mov (.tmp 0), none⟩, []),
 (⟨(some 8), .call (.func k_cmp_isNaNint) [(.tmp 7)], none⟩, []),
 (⟨(some 5), .mov (.tmp 8), none⟩, [])])
 (.seq (.reg [
 (⟨(some 9), .mov (.tmp 1), none⟩, []),
 (⟨(some 10), .call (.func k_cmp_isNaNint) [(.tmp 9)], none⟩, []),
 (⟨(some 6), .mov (.tmp 10), none⟩, [])])
 (.seq (.seq (.reg [
 (⟨(some 11), .mov (.tmp 5), none⟩, [])])
 (.cond (.tmp 11) (.seq (.seq (.reg [
 (⟨(some 12), .mov (.tmp 6), none⟩, [])])
 (.cond (.tmp 12) (.seq (.reg [
 (⟨(some 4), .mov (.const (.int .i64 0)), none⟩, [])])
 (.ret))
 (.skip)))
 (.seq (.reg [
 (⟨(some 4), .mov (.const (.int .i64 (-1))), none⟩, [])])
 (.ret)))
 (.skip)))
 (.seq (.seq (.reg [
 (⟨(some 13), .mov (.tmp 6), none⟩, [])])
 (.cond (.tmp 13) (.seq (.reg [
 (⟨(some 4), .mov (.const (.int .i64 1)), none⟩, [])])
 (.ret))
 (.skip)))
 (.seq (.seq (.reg [
 (⟨(some 14), .mov (.tmp 0), none⟩, []),
 (⟨(some 15), .mov (.tmp 1), none⟩, []),
 (⟨(some 16), .bin .lss (.tmp 14) (.tmp 15), none⟩, [])])
 (.cond (.tmp 16) (.seq (.reg [
 (⟨(some 4), .mov (.const (.int .i64 (-1))), none⟩, [])])
 (.ret))
 (.skip)))
 (.seq (.seq (.reg [
 (⟨(some 17), .mov (.tmp 0), none⟩, []),
 (⟨(some 18), .mov (.tmp 1), none⟩, []),
 (⟨(some 19), .bin .gtr (.tmp 17) (.tmp 18), none⟩, [])])
 (.cond (.tmp 19) (.seq (.reg [
 (⟨(some 4), .mov (.const (.int .i64 1)), none⟩, [])])
 (.ret))
 (.skip)))
 (.seq (.reg [
 (⟨(some 4), .mov (.const (.int .i64 0)), none⟩, [])])
 (.ret))))))))⟩
theorem ok_cmp_Compareint : FnOK PP k_cmp_Compareint v_cmp_Compareint := fnOK (fn := Tryd.f87) (by kernel_rfl) (by kernel_rfl) (by kernel_rfl)

/- forcola/part.vertices$1 -/
noncomputable def v_part_vertices_1 : VFn := ⟨15, 1, [],
  .block 0 (.loop (.seq (.seq (.reg [
 (⟨(some 3), .load none (.tmp 1), none⟩, []),
 (⟨(some 4), .bin .neq (.tmp 3) (.const (.int .i64 0)), none⟩, [])])
 (.cond (.tmp 4) (.skip)
 (.exit 0)))
 (.seq (.block 1 (.seq (.reg [
 (⟨(some 9), .mov (.tmp 0), none⟩, []),
 (⟨(some 10), .load none (.tmp 1), none⟩, []),
 (⟨(some 11), .conv .u64 (.tmp 10), none⟩, []),
 (⟨(some 12), .call (.func k_math_bits_TrailingZeros) [(.tmp 11)], none⟩, []),
 (⟨(some 13), .call (.tmp 9) [(.tmp 12)], none⟩, []),
 (⟨(some 14), .not (.tmp 13), none⟩, [])])
 (.cond (.tmp 14) (.ret)
 (.skip))))
 (.reg [
 (⟨(some 5), .load none (.tmp 1), none⟩, []),
 (⟨(some 6), .load none (.tmp 1), none⟩, []),
 (⟨(some 7), .bin .sub (.tmp 6) (.const (.int .i64 1)), none⟩, []),
 (⟨(some 8), .bin .and (.tmp 5) (.tmp 7), none⟩, []),
 (⟨none, .store 1 (.tmp 1) (.tmp 8), none⟩, [])]))))⟩
theorem ok_part_vertices_1 : FnOK PP k_part_vertices_1 v_part_vertices_1 := fnOK (fn := Tryd.f88) (by kernel_rfl) (by kernel_rfl) (by kernel_rfl)

/- slices.pdqsortOrdered[string] -/
noncomputable def v_slices_pdqsortOrderedstring : VFn := ⟨134, 4, [],
  .seq (.reg [
 (⟨(some 8), .mov (.const (.bool true)), none⟩, [])])
 (.seq (.reg [
 (⟨(some 9), .mov (.const (.bool true)), none⟩, [])])
 (.block 0 (.loop (.block 1 (.seq (.reg [
 (⟨(some 19), .mov (.tmp 2), none⟩, []),
 (⟨(some 20), .mov (.tmp 1), none⟩, []),
 (⟨(some 21), .bin .sub (.tmp 19) (.tmp 20), none⟩, []),
 (⟨(some 10), .mov (.tmp 21), none⟩, [])])
 (.seq (.seq (.reg [
 (⟨(some 22), .mov (.tmp 10), none⟩, []),
 (⟨(some 23), .bin .leq (.tmp 22) (.const (.int .i64 12)), none⟩, [])])
 (.cond (.tmp 23) (.seq (.reg [
 (⟨(some 24), .mov (.tmp 0), none⟩, []),
 (⟨(some 25), .mov (.tmp 1), none⟩, []),
 (⟨(some 26), .mov (.tmp 2), none⟩, []),
 (⟨(some 27), .call (.func k_slices_insertionSortOrderedstring) [(.tmp 24), (.tmp 25), (.tmp 26)], none⟩, [])])
 (.ret))
 (.skip)))
 (.seq (.seq (.reg [
 (⟨(some 28), .mov (.tmp 3), none⟩, []),
 (⟨(some 29), .bin .eql (.tmp 28) (.const (.int .i64 0)), none⟩, [])])
 (.cond (.tmp 29) (.seq (.reg [
 (⟨(some 30), .mov (.tmp 0), none⟩, []),
 (⟨(some 31), .mov (.tmp 1), none⟩, []),
 (⟨(some 32), .mov (.tmp 2), none⟩, []),
 (⟨(some 33), .call (.func k_slices_heapSortOrderedstring) [(.tmp 30), (.tmp 31), (.tmp 32)], none⟩, [])])
 (.ret))
 (.skip)))
 (.seq (.seq (.reg [
 (⟨(some 34), .mov (.tmp 8), none⟩, []),
 (⟨(some 35), .not (.tmp 34), none⟩, [])])
 (.cond (.tmp 35) (.seq (.reg [
 (⟨(some 36), .mov (.tmp 0), none⟩, []),
 (⟨(some 37), .mov (.tmp 1), none⟩, []),
 (⟨(some 38), .mov (.tmp 2), none⟩, []),
 (⟨(some 39), .call (.func k_slices_breakPatternsOrderedstring) [(.tmp 36), (.tmp 37), (.tmp 38)], none⟩, [])])
 (.reg [
 (⟨(some 40), .mov (.tmp 3), none⟩, []),
 (⟨(some 41), .bin .sub (.tmp 40) (.const (.int .i64 1)), none⟩, []),
 (⟨(some 3), .mov (.tmp 41), none⟩, [])]))
 (.skip)))
 (.seq (.reg [
 (⟨(some 43), .mov (.tmp 0), none⟩, []),
 (⟨(some 44), .mov (.tmp 1), none⟩, []),
 (⟨(some 45), .mov (.tmp 2), none⟩, []),
 (⟨(some 46), .call (.func k_slices_choosePivotOrderedstring) [(.tmp 43), (.tmp 44), (.tmp 45)], none⟩, []),
 (⟨(some 42), .mov (.tmp 46), none⟩, []),
 (⟨(some 47), .extract (.tmp 42) 0, none⟩, []),
 (⟨(some 48), .extract (.tmp 42) 1, none⟩, []),
 (⟨(some 11), .mov (.tmp 47), none⟩, []),
 (⟨(some 12), .mov (.tmp 48), none⟩, [])])
 (.seq (.seq (.reg [
 (⟨(some 49), .mov (.tmp 12), none⟩, []),
 (⟨(some 50), .bin .eql (.tmp 49) (.const (.int .i64 2)), none⟩, [])])
 (.cond (.tmp 50) (.seq (.reg [
 (⟨(some 51), .mov (.tmp 0), none⟩, []),
 (⟨(some 52), .mov (.tmp 1), none⟩, []),
 (⟨(some 53), .mov (.tmp 2), none⟩, []),
 (⟨(some 54), .call (.func k_slices_reverseRangeOrderedstring) [(.tmp 51), (.tmp 52), (.tmp 53)], none⟩, [])])
 (.seq (.reg [
 (⟨(some 55), .mov (.tmp 2), none⟩, []),
 (⟨(some 56), .bin .sub (.tmp 55) (.const (.int .i64 1)), none⟩, []),
 (⟨(some 57), .mov (.tmp 11), none⟩, []),
 (⟨(some 58), .mov (.tmp 1), none⟩, []),
 (⟨(some 59), .bin .sub (.tmp 57) (.tmp 58), none⟩, []),
 (⟨(some 60), .bin .sub (.tmp 56) (.tmp 59), none⟩, []),
 (⟨(some 11), .mov (.tmp 60), none⟩, [])])
 (.reg [
 (⟨(some 12), .mov (.const (.int .i64 1)), none⟩, [])])))
 (.skip)))
 (.seq (.seq (.reg [
 (⟨(some 61), .mov (.tmp 8), none⟩, []),
 (⟨(some 62), .mov (.tmp 61), none⟩, []),
 (⟨(some 63), .mov (.tmp 9), (some ((some 62), true))⟩, []),
 (⟨(some 64), .pick (.tmp 62) (.tmp 63) (.const (.bool false)), none⟩, []),
 (⟨(some 65), .mov (.tmp 64), none⟩, []),
 (⟨(some 66), .mov (.tmp 12), (some ((some 65), true))⟩, []),
 (⟨(some 67), .bin .eql (.tmp 66) (.const (.int .i64 1)), (some ((some 65), true))⟩, []),
 (⟨(some 68), .pick (.tmp 65) (.tmp 67) (.const (.bool false)), none⟩, [])])
 (.cond (.tmp 68) (.seq (.reg [
 (⟨(some 69), .mov (.tmp 0), none⟩, []),
 (⟨(some 70), .mov (.tmp 1), none⟩, []),
 (⟨(some 71), .mov (.tmp 2), none⟩, []),
 (⟨(some 72), .call (.func k_slices_partialInsertionSortOrderedstring) [(.tmp 69), (.tmp 70), (.tmp 71)], none⟩, [])])
 (.cond (.tmp 72) (.ret)
 (.skip)))
 (.skip)))
 (.seq (.seq (.reg [
 (⟨(some 73), .mov (.tmp 1), none⟩, []),
 (⟨(some 74), .bin .gtr (.tmp 73) (.const (.int .i64 0)), none⟩, []),
 (⟨(some 75), .mov (.tmp 74), none⟩, []),
 (⟨(some 76), .mov (.tmp 0), (some ((some 75), true))⟩, []),
 (⟨(some 77), .mov (.tmp 1), (some ((some 75), true))⟩, []),
 (⟨(some 78), .bin .sub (.tmp 77) (.const (.int .i64 1)), (some ((some 75), true))⟩, []),
 (⟨(some 79), .idxSl 1 (.tmp 76) (.tmp 78), (some ((some 75), true))⟩, []),
 (⟨(some 80), .load none (.tmp 79), (some ((some 75), true))⟩, []),
 (⟨(some 81), .mov (.tmp 0), (some ((some 75), true))⟩, []),
 (⟨(some 82), .mov (.tmp 11), (some ((some 75), true))⟩, []),
 (⟨(some 83), .idxSl 1 (.tmp 81) (.tmp 82), (some ((some 75), true))⟩, []),
 (⟨(some 84), .load none (.tmp 83), (some ((some 75), true))⟩, []),
 (⟨(some 85), .call (.func k_cmp_Lessstring) [(.tmp 80), (.tmp 84)], (some ((some 75), true))⟩, []),
 (⟨(some 86), .not (.tmp 85), (some ((some 75), true))⟩, []),
 (⟨(some 87), .pick (.tmp 75) (.tmp 86) (.const (.bool false)), none⟩, [])])
 (.cond (.tmp 87) (.seq (.reg [
 (⟨(some 88), .mov (.tmp 0), none⟩, []),
 (⟨(some 89), .mov (.tmp 1), none⟩, []),
 (⟨(some 90), .mov (.tmp 2), none⟩, []),
 (⟨(some 91), .mov (.tmp 11), none⟩, []),
 (⟨(some 92), .call (.func k_slices_partitionEqualOrderedstring) [(.tmp 88), (.tmp 89), (.tmp 90), (.tmp 91)], none⟩, []),
 (⟨(some 13), .mov (.tmp 92), none⟩, [])])
 (.seq (.reg [
 (⟨(some 93), .mov (.tmp 13), none⟩, []),
 (⟨(some 1), .mov (.tmp 93), none⟩, [])])
 (.exit 1)))
 (.skip)))
 (.seq (.reg [
 (⟨(some 95), .mov (.tmp 0), none⟩, []),
 (⟨(some 96), .mov (.tmp 1), none⟩, []),
 (⟨(some 97), .mov (.tmp 2), none⟩, []),
 (⟨(some 98), .mov (.tmp 11), none⟩, []),
 (⟨(some 99), .call (.func k_slices_partitionOrderedstring) [(.tmp 95), (.tmp 96), (.tmp 97), (.tmp 98)], none⟩, []),
 (⟨(some 94), .mov (.tmp 99), none⟩, []),
 (⟨(some 100), .extract (.tmp 94) 0, none⟩, []),
 (⟨(some 101), .extract (.tmp 94) 1, none⟩, []),
 (⟨(some 14), .mov (.tmp 100), none⟩, []),
 (⟨(some 15), .mov (.tmp 101), none⟩, [])])
 (.seq (.reg [
 (⟨(some 102), .mov (.tmp 15), none⟩, []),
 (⟨(some 9), .mov (.tmp 102), none⟩, [])])
 (.seq (.reg [
 (⟨(some 103), .mov (.tmp 14), none⟩, []),
 (⟨(some 104), .mov (.tmp 1), none⟩, []),
 (⟨(some 105), .bin .sub (.tmp 103) (.tmp 104), none⟩, []),
 (⟨(some 106), .mov (.tmp 2), none⟩, []),
 (⟨(some 107), .mov (.tmp 14), none⟩, []),
 (⟨(some 108), .bin .sub (.tmp 106) (.tmp 107), none⟩, []),
 (⟨(some 16), .mov (.tmp 105), none⟩, []),
 (⟨(some 17), .mov (.tmp 108), none⟩, [])])
 (.seq (.reg [
 (⟨(some 109), .mov (.tmp 10), none⟩, []),
 (⟨(some 110), .bin .quo (.tmp 109) (.const (.int .i64 8)), none⟩, []),
 (⟨(some 18), .mov (.tmp 110), none⟩, [])])
 (.seq (.reg [
 (⟨(some 111), .mov (.tmp 16), none⟩, []),
 (⟨(some 112), .mov (.tmp 17), none⟩, []),
 (⟨(some 113), .bin .lss (.tmp 111) (.tmp 112), none⟩, [])])
 (.cond (.tmp 113) (.seq (.reg [
 (⟨(some 114), .mov (.tmp 16), none⟩, []),
 (⟨(some 115), .mov (.tmp 18), none⟩, []),
 (⟨(some 116), .bin .geq (.tmp 114) (.tmp 115), none⟩, []),
 (⟨(some 8), .mov (.tmp 116), none⟩, [])])
 (.seq (.reg [
 (⟨(some 117), .mov (.tmp 0), none⟩, []),
 (⟨(some 118), .mov (.tmp 1), none⟩, []),
 (⟨(some 119), .mov (.tmp 14), none⟩, []),
 (⟨(some 120), .mov (.tmp 3), none⟩, []),
 (⟨(some 121), .call (.func k_slices_pdqsortOrderedstring) [(.tmp 117), (.tmp 118), (.tmp 119), (.tmp 120)], none⟩, [])])
 (.reg [
 (⟨(some 122), .mov (.tmp 14), none⟩, []),
 (⟨(some 123), .bin .add (.tmp 122) (.const (.int .i64 1)), none⟩, []),
 (⟨(some 1), .mov (.tmp 123), none⟩, [])])))
 (.seq (.reg [
 (⟨(some 124), .mov (.tmp 17), none⟩, []),
 (⟨(some 125), .mov (.tmp 18), none⟩, []),
 (⟨(some 126), .bin .geq (.tmp 124) (.tmp 125), none⟩, []),
 (⟨(some 8), .mov (.tmp 126), none⟩, [])])
 (.seq (.reg [
 (⟨(some 127), .mov (.tmp 0), none⟩, []),
 (⟨(some 128), .mov (.tmp 14), none⟩, []),
 (⟨(some 129), .bin .add (.tmp 128) (.const (.int .i64 1)), none⟩, []),
 (⟨(some 130), .mov (.tmp 2), none⟩, []),
 (⟨(some 131), .mov (.tmp 3), none⟩, []),
 (⟨(some 132), .call (.func k_slices_pdqsortOrderedstring) [(.tmp 127), (.tmp 129), (.tmp 130), (.tmp 131)], none⟩, [])])
 (.reg [
 (⟨(some 133), .mov (.tmp 14), none⟩, []),
 (⟨(some 2), .mov (.tmp 133), none⟩, [])])))))))))))))))))))))⟩
theorem ok_slices_pdqsortOrderedstring : FnOK PP k_slices_pdqsortOrderedstring v_slices_pdqsortOrderedstring := fnOK (fn := Tryd.f89) (by kernel_rfl) (by kernel_rfl) (by kernel_rfl)

/- internal/stringslite.HasPrefix -/
noncomputable def v_internal_stringslite_HasPrefix : VFn := ⟨18, 2, [.tmp 4],
  .seq (.reg [
 (⟨(some 4), .mov (.const (.bool false)), none⟩, [])])
 (.seq (.reg [
 (⟨(some 5), .mov (.tmp 0), none⟩, []),
 (⟨(some 6), .lenStr (.tmp 5), none⟩, []),
 (⟨(some 7), .mov (.tmp 1), none⟩, []),
 (⟨(some 8), .lenStr (.tmp 7), none⟩, []),
 (⟨(some 9), .bin .geq (.tmp 6) (.tmp 8), none⟩, []),
 (⟨(some 10), .mov (.tmp 9), none⟩, []),
 (⟨(some 11), .mov (.tmp 0), (some ((some 10), true))⟩, []),
 (⟨(some 12), .mov (.tmp 1), (some ((some 10), true))⟩, []),
 (⟨(some 13), .lenStr (.tmp 12), (some ((some 10), true))⟩, []),
 (⟨(some 14), .sliceStr (.tmp 11) none (some (.tmp 13)), (some ((some 10), true))⟩, []),
 (⟨(some 15), .mov (.tmp 1), (some ((some 10), true))⟩, []),
 (⟨(some 16), .bin .eql (.tmp 14) (.tmp 15), (some ((some 10), true))⟩, []),
 (⟨(some 17), .pick (.tmp 10) (.tmp 16) (.const (.bool false)), none⟩, []),
 (⟨(some 4), .mov (.tmp 17), none⟩, [])])
 (.ret))⟩
theorem ok_internal_stringslite_HasPrefix : FnOK PP k_internal_stringslite_HasPrefix v_internal_stringslite_HasPrefix := fnOK (fn := Tryd.f93) (by kernel_rfl) (by kernel_rfl) (by kernel_rfl)

/- math/bits.Len32 -/
noncomputable def v_math_bits_Len32 : VFn := ⟨19, 1, [.tmp 2],
  .seq (.reg [
 (⟨(some 2), .mov (.const (.int .i64 0)), none⟩, [])])
 (.seq (.seq (.reg [
 (⟨(some 3), .mov (.tmp 0), none⟩, []),
 (⟨(some 4), .bin .geq (.tmp 3) (.const (.int .u32 65536)), none⟩, [])])
 (.cond (.tmp 4) (.seq (.reg [
 (⟨(some 5), .mov (.tmp 0), none⟩, []),
 (⟨(some 6), .bin .shr (.tmp 5) (.const (.int .u64 16)), none⟩, []),
 (⟨(some 0), .mov (.tmp 6), none⟩, [])])
 (.reg [
 (⟨(some 2), .mov (.const (.int .i64 16)), none⟩, [])]))
 (.skip)))
 (.seq (.seq (.reg [
 (⟨(some 7), .mov (.tmp 0), none⟩, []),
 (⟨(some 8), .bin .geq (.tmp 7) (.const (.int .u32 256)), none⟩, [])])
 (.cond (.tmp 8) (.seq (.reg [
 (⟨(some 9), .mov (.tmp 0), none⟩, []),
 (⟨(some 10), .bin .shr (.tmp 9) (.const (.int .u64 8)), none⟩, []),
 (⟨(some 0), .mov (.tmp 10), none⟩, [])])
 (.reg [
 (⟨(some 11), .mov (.tmp 2), none⟩, []),
 (⟨(some 12), .bin .add (.tmp 11) (.const (.int .i64 8)), none⟩, []),
 (⟨(some 2), .mov (.tmp 12), none⟩, [])]))
 (.skip)))
 (.seq (.reg [
 (⟨(some 13), .mov (.tmp 2), none⟩, []),
 (⟨(some 14), .mov (.tmp 0), none⟩, []),
 (⟨(some 15), .conv .u8 (.tmp 14), none⟩, []),
 (⟨(some 16), .idxStr (.const (.string ⟨#[0, 1, 2, 2, 3, 3, 3, 3, 4, 4, 4, 4, 4, 4, 4, 4, 5, 5, 5, 5, 5, 5, 5, 5, 5, 5, 5, 5, 5, 5, 5, 5, 6, 6, 6, 6, 6, 6, 6, 6, 6, 6, 6, 6, 6, 6, 6, 6, 6, 6, 6, 6, 6, 6, 6, 6, 6, 6, 6, 6, 6, 6, 6, 6, 7, 7, 7, 7, 7, 7, 7, 7, 7, 7, 7, 7, 7, 7, 7, 7, 7, 7, 7, 7, 7, 7, 7, 7, 7, 7, 7, 7, 7, 7, 7, 7, 7, 7, 7, 7, 7, 7, 7, 7, 7, 7, 7, 7, 7, 7, 7, 7, 7, 7, 7, 7, 7, 7, 7, 7, 7, 7, 7, 7, 7, 7, 7, 7, 8, 8, 8, 8, 8, 8, 8, 8, 8, 8, 8, 8, 8, 8, 8, 8, 8, 8, 8, 8, 8, 8, 8, 8, 8, 8, 8, 8, 8, 8, 8, 8, 8, 8, 8, 8, 8, 8, 8, 8, 8, 8, 8, 8, 8, 8, 8, 8, 8, 8, 8, 8, 8, 8, 8, 8, 8, 8, 8, 8, 8, 8, 8, 8, 8, 8, 8, 8, 8, 8, 8, 8, 8, 8, 8, 8, 8, 8, 8, 8, 8, 8, 8, 8, 8, 8, 8, 8, 8, 8, 8, 8, 8, 8, 8, 8, 8, 8, 8, 8, 8, 8, 8, 8, 8, 8, 8, 8, 8, 8, 8, 8, 8, 8, 8, 8, 8, 8, 8, 8, 8, 8, 8, 8, 8, 8, 8, 8]⟩)) (.tmp 15), none⟩, []),
 (⟨(some 17), .conv .i64 (.tmp 16), none⟩, []),
 (⟨(some 18), .bin .add (.tmp 13) (.tmp 17), none⟩, []),
 (⟨(some 2), .mov (.tmp 18), none⟩, [])])
 (.ret))))⟩
theorem ok_math_bits_Len32 : FnOK PP k_math_bits_Len32 v_math_bits_Len32 := fnOK (fn := Tryd.f103) (by kernel_rfl) (by kernel_rfl) (by kernel_rfl)

/- math/bits.Len64 -/
noncomputable def v_math_bits_Len64 : VFn := ⟨25, 1, [.tmp 2],
  .seq (.reg [
 (⟨(some 2), .mov (.const (.int .i64 0)), none⟩, [])])
 (.seq (.seq (.reg [
 (⟨(some 3), .mov (.tmp 0), none⟩, []),
 (⟨(some 4), .bin .geq (.tmp 3) (.const (.int .u64 4294967296)), none⟩, [])])
 (.cond (.tmp 4) (.seq (.reg [
 (⟨(some 5), .mov (.tmp 0), none⟩, []),
 (⟨(some 6), .bin .shr (.tmp 5) (.const (.int .u64 32)), none⟩, []),
 (⟨(some 0), .mov (.tmp 6), none⟩, [])])
 (.reg [
 (⟨(some 2), .mov (.const (.int .i64 32)), none⟩, [])]))
 (.skip)))
 (.seq (.seq (.reg [
 (⟨(some 7), .mov (.tmp 0), none⟩, []),
 (⟨(some 8), .bin .geq (.tmp 7) (.const (.int .u64 65536)), none⟩, [])])
 (.cond (.tmp 8) (.seq (.reg [
 (⟨(some 9), .mov (.tmp 0), none⟩, []),
 (⟨(some 10), .bin .shr (.tmp 9) (.const (.int .u64 16)), none⟩, []),
 (⟨(some 0), .mov (.tmp 10), none⟩, [])])
 (.reg [
 (⟨(some 11), .mov (.tmp 2), none⟩, []),
 (⟨(some 12), .bin .add (.tmp 11) (.const (.int .i64 16)), none⟩, []),
 (⟨(some 2), .mov (.tmp 12), none⟩, [])]))
 (.skip)))
 (.seq (.seq (.reg [
 (⟨(some 13), .mov (.tmp 0), none⟩, []),
 (⟨(some 14), .bin .geq (.tmp 13) (.const (.int .u64 256)), none⟩, [])])
 (.cond (.tmp 14) (.seq (.reg [
 (⟨(some 15), .mov (.tmp 0), none⟩, []),
 (⟨(some 16), .bin .shr (.tmp 15) (.const (.int .u64 8)), none⟩, []),
 (⟨(some 0), .mov (.tmp 16), none⟩, [])])
 (.reg [
 (⟨(some 17), .mov (.tmp 2), none⟩, []),
 (⟨(some 18), .bin .add (.tmp 17) (.const (.int .i64 8)), none⟩, []),
 (⟨(some 2), .mov (.tmp 18), none⟩, [])]))
 (.skip)))
 (.seq (.reg [
 (⟨(some 19), .mov (.tmp 2), none⟩, []),
 (⟨(some 20), .mov (.tmp 0), none⟩, []),
 (⟨(some 21), .conv .u8 (.tmp 20), none⟩, []),
 (⟨(some 22), .idxStr (.const (.string ⟨#[0, 1, 2, 2, 3, 3, 3, 3, 4, 4, 4, 4, 4, 4, 4, 4, 5, 5, 5, 5, 5, 5, 5, 5, 5, 5, 5, 5, 5, 5, 5, 5, 6, 6, 6, 6, 6, 6, 6, 6, 6, 6, 6, 6, 6, 6, 6, 6, 6, 6, 6, 6, 6, 6, 6, 6, 6, 6, 6, 6, 6, 6, 6, 6, 7, 7, 7, 7, 7, 7, 7, 7, 7, 7, 7, 7, 7, 7, 7, 7, 7, 7, 7, 7, 7, 7, 7, 7, 7, 7, 7, 7, 7, 7, 7, 7, 7, 7, 7, 7, 7, 7, 7, 7, 7, 7, 7, 7, 7, 7, 7, 7, 7, 7, 7, 7, 7, 7, 7, 7, 7, 7, 7, 7, 7, 7, 7, 7, 8, 8, 8, 8, 8, 8, 8, 8, 8, 8, 8, 8, 8, 8, 8, 8, 8, 8, 8, 8, 8, 8, 8, 8, 8, 8, 8, 8, 8, 8, 8, 8, 8, 8, 8, 8, 8, 8, 8, 8, 8, 8, 8, 8, 8, 8, 8, 8, 8, 8, 8, 8, 8, 8, 8, 8, 8, 8, 8, 8, 8, 8, 8, 8, 8, 8, 8, 8, 8, 8, 8, 8, 8, 8, 8, 8, 8, 8, 8, 8, 8, 8, 8, 8, 8, 8, 8, 8, 8, 8, 8, 8, 8, 8, 8, 8, 8, 8, 8, 8, 8, 8, 8, 8, 8, 8, 8, 8, 8, 8, 8, 8, 8, 8, 8, 8, 8, 8, 8, 8, 8, 8, 8, 8, 8, 8, 8, 8]⟩)) (.tmp 21), none⟩, []),
 (⟨(some 23), .conv .i64 (.tmp 22), none⟩, []),
 (⟨(some 24), .bin .add (.tmp 19) (.tmp 23), none⟩, []),
 (⟨(some 2), .mov (.tmp 24), none⟩, [])])
 (.ret)))))⟩
theorem ok_math_bits_Len64 : FnOK PP k_math_bits_Len64 v_math_bits_Len64 := fnOK (fn := Tryd.f104) (by kernel_rfl) (by kernel_rfl) (by kernel_rfl)

/- cmp.isNaN[int] -/
noncomputable def v_cmp_isNaNint : VFn := ⟨6, 1, [.tmp 2],
  .seq (.reg [
 (⟨(some 2), .mov (.const (.bool false)), none⟩, [])])
 (.seq (.reg [
 (⟨(some 3), .mov (.tmp 0), none⟩, []),
 (⟨(some 4), .mov (.tmp 0), none⟩, []),
 (⟨(some 5), .bin .neq (.tmp 3) (.tmp 4), none⟩, []),
 (⟨(some 2), .mov (.tmp 5), none⟩, [])])
 (.ret))⟩
theorem ok_cmp_isNaNint : FnOK PP k_cmp_isNaNint v_cmp_isNaNint := fnOK (fn := Tryd.f105) (by kernel_rfl) (by kernel_rfl) (by kernel_rfl)

/- slices.insertionSortOrdered[string] -/
noncomputable def v_slices_insertionSortOrderedstring : VFn := ⟨49, 3, [],
  .seq (.reg [
 (⟨(some 8), .mov (.tmp 1), none⟩, []),
 (⟨(some 9), .bin .add (.tmp 8) (.const (.int .i64 1)), none⟩, []),
 (⟨(some 6), .mov (.tmp 9), none⟩, [])])
 (.block 0 (.loop (.seq (.seq (.reg [
 (⟨(some 10), .mov (.tmp 6), none⟩, []),
 (⟨(some 11), .mov (.tmp 2), none⟩, []),
 (⟨(some 12), .bin .lss (.tmp 10) (.tmp 11), none⟩, [])])
 (.cond (.tmp 12) (.skip)
 (.exit 0)))
 (.seq (.block 1 (.seq (.reg [
 (⟨(some 15), .mov (.tmp 6), none⟩, []),
 (⟨(some 7), .mov (.tmp 15), none⟩, [])])
 (.block 2 (.loop (.seq (.seq (.reg [
 (⟨(some 16), .mov (.tmp 7), none⟩, []),
 (⟨(some 17), .mov (.tmp 1), none⟩, []),
 (⟨(some 18), .bin .gtr (.tmp 16) (.tmp 17), none⟩, []),
 (⟨(some 19), .mov (.tmp 18), none⟩, []),
 (⟨(some 20), .mov (.tmp 0), (some ((some 19), true))⟩, []),
 (⟨(some 21), .mov (.tmp 7), (some ((some 19), true))⟩, []),
 (⟨(some 22), .idxSl 1 (.tmp 20) (.tmp 21), (some ((some 19), true))⟩, []),
 (⟨(some 23), .load none (.tmp 22), (some ((some 19), true))⟩, []),
 (⟨(some 24), .mov (.tmp 0), (some ((some 19), true))⟩, []),
 (⟨(some 25), .mov (.tmp 7), (some ((some 19), true))⟩, []),
 (⟨(some 26), .bin .sub (.tmp 25) (.const (.int .i64 1)), (some ((some 19), true))⟩, []),
 (⟨(some 27), .idxSl 1 (.tmp 24) (.tmp 26), (some ((some 19), true))⟩, []),
 (⟨(some 28), .load none (.tmp 27), (some ((some 19), true))⟩, []),
 (⟨(some 29), .call (.func k_cmp_Lessstring) [(.tmp 23), (.tmp 28)], (some ((some 19), true))⟩, []),
 (⟨(some 30), .pick (.tmp 19) (.tmp 29) (.const (.bool false)), none⟩, [])])
 (.cond (.tmp 30) (.skip)
 (.exit 2)))
 (.seq (.block 3 (.reg [
 (⟨(some 33), .mov (.tmp 0), none⟩, []),
 (⟨(some 34), .mov (.tmp 7), none⟩, []),
 (⟨(some 35), .mov (.tmp 0), none⟩, []),
 (⟨(some 36), .mov (.tmp 7), none⟩, []),
 (⟨(some 37), .bin .sub (.tmp 36) (.const (.int .i64 1)), none⟩, []),
 (⟨(some 38), .mov (.tmp 0), none⟩, []),
 (⟨(some 39), .mov (.tmp 7), none⟩, []),
 (⟨(some 40), .bin .sub (.tmp 39) (.const (.int .i64 1)), none⟩, []),
 (⟨(some 41), .idxSl 1 (.tmp 38) (.tmp 40), none⟩, []),
 (⟨(some 42), .load none (.tmp 41), none⟩, []),
 (⟨(some 43), .mov (.tmp 0), none⟩, []),
 (⟨(some 44), .mov (.tmp 7), none⟩, []),
 (⟨(some 45), .idxSl 1 (.tmp 43) (.tmp 44), none⟩, []),
 (⟨(some 46), .load none (.tmp 45), none⟩, []),
 (⟨(some 47), .idxSl 1 (.tmp 33) (.tmp 34), none⟩, []),
 (⟨none, .store 1 (.tmp 47) (.tmp 42), none⟩, []),
 (⟨(some 48), .idxSl 1 (.tmp 35) (.tmp 37), none⟩, []),
 (⟨none, .store 1 (.tmp 48) (.tmp 46), none⟩, [])]))
 (.reg [
 (⟨(some 31), .mov (.tmp 7), none⟩, []),
 (⟨(some 32), .bin .sub (.tmp 31) (.const (.int .i64 1)), none⟩, []),
 (⟨(some 7), .mov (.tmp 32), none⟩, [])])))))))
 (.reg [
 (⟨(some 13), .mov (.tmp 6), none⟩, []),
 (⟨(some 14), .bin .add (.tmp 13) (.const (.int .i64 1)), none⟩, []),
 (⟨(some 6), .mov (.tmp 14), none⟩, [])])))))⟩
theorem ok_slices_insertionSortOrderedstring : FnOK PP k_slices_insertionSortOrderedstring v_slices_insertionSortOrderedstring := fnOK (fn := Tryd.f106) (by kernel_rfl) (by kernel_rfl) (by kernel_rfl)

/- cmp.Less[string] -/
noncomputable def v_cmp_Lessstring : VFn := ⟨17, 2, [.tmp 4],
  .seq (.reg [
 (⟨(some 4), .mov (.const (.bool false)), none⟩, [])])
 (.seq (.reg [
 (⟨(some 5), .mov (.tmp 0), none⟩, []),
 (⟨(some 6), .call (.func k_cmp_isNaNstring) [(.tmp 5)], none⟩, []),
 (⟨(some 7), .mov (.tmp 6), none⟩, []),
 (⟨(some 8), .mov (.tmp 1), (some ((some 7), true))⟩, []),
 (⟨(some 9), .call (.func k_cmp_isNaNstring) [(.tmp 8)], (some ((some 7), true))⟩, []),
 (⟨(some 10), .not (.tmp 9), (some ((some 7), true))⟩, []),
 (⟨(some 11), .pick (.tmp 7) (.tmp 10) (.const (.bool false)), none⟩, []),
 (⟨(some 12), .mov (.tmp 11), none⟩, []),
 (⟨(some 13), .mov (.tmp 0), (some ((some 12), false))⟩, []),
 (⟨(some 14), .mov (.tmp 1), (some ((some 12), false))⟩, []),
 (⟨(some 15), .bin .lss (.tmp 13) (.tmp 14), (some ((some 12), false))⟩, []),
 (⟨(some 16), .pick (.tmp 12) (.const (.bool true)) (.tmp 15), none⟩, []),
 (⟨(some 4), .mov (.tmp 16), none⟩, [])])
 (.ret))⟩
theorem ok_cmp_Lessstring : FnOK PP k_cmp_Lessstring v_cmp_Lessstring := fnOK (fn := Tryd.f112) (by kernel_rfl) (by kernel_rfl) (by kernel_rfl)

/- cmp.isNaN[string] -/
noncomputable def v_cmp_isNaNstring : VFn := ⟨6, 1, [.tmp 2],
  .seq (.reg [
 (⟨(some 2), .mov (.const (.bool false)), none⟩, [])])
 (.seq (.reg [
 (⟨(some 3), .mov (.tmp 0), none⟩, []),
 (⟨(some 4), .mov (.tmp 0), none⟩, []),
 (⟨(some 5), .bin .neq (.tmp 3) (.tmp 4), none⟩, []),
 (⟨(some 2), .mov (.tmp 5), none⟩, [])])
 (.ret))⟩
theorem ok_cmp_isNaNstring : FnOK PP k_cmp_isNaNstring v_cmp_isNaNstring := fnOK (fn := Tryd.f125) (by kernel_rfl) (by kernel_rfl) (by kernel_rfl)
end Go.Vm
/- Stores and reads by simp; states that are written again. -/
namespace Go.Vm
variable [Laid] {P : Program}

theorem Tr.setF_setF {α : Type} (a b : α) : ∀ (f : Nat) (t : Tr α) (n : Nat), n < f → Tr.setF f (Tr.setF f t n a) n b = Tr.setF f t n b
  | 0, _, _, h => absurd h (Nat.not_lt_zero _)
  | f + 1, .nil, 0, _ => rfl
  | f + 1, .nil, n + 1, h => by
    simp only [Tr.setF]
    by_cases hn : n % 2 = 0
    · simp only [if_pos hn, Tr.setF]; rw [Tr.setF_setF a b f .nil (n / 2) (by omega)]
    · simp only [if_neg hn, Tr.setF]; rw [Tr.setF_setF a b f .nil (n / 2) (by omega)]
  | f + 1, .node v l r, 0, _ => rfl
  | f + 1, .node v l r, n + 1, h => by
    simp only [Tr.setF]
    by_cases hn : n % 2 = 0
    · simp only [if_pos hn, Tr.setF]; rw [Tr.setF_setF a b f l (n / 2) (by omega)]
    · simp only [if_neg hn, Tr.setF]; rw [Tr.setF_setF a b f r (n / 2) (by omega)]
theorem Tr.set_set {α : Type} (t : Tr α) (n : Nat) (a b : α) : (t.set n a).set n b = t.set n b := Tr.setF_setF a b (n + 1) t n (Nat.lt_succ_self n)
theorem St.push_set (s : St) (a b : Blk) : (s.push a).set s.next b = s.push b := by
  simp only [St.push, St.set, Tr.set_set]
theorem St.set_set (s : St) (n : Nat) (a b : Blk) : (s.set n a).set n b = s.set n b := by
  simp only [St.set, Tr.set_set]

def stW (n : Nat) (v : Value) (b o : Nat) (blk : Option Blk) (s : St) : VR := match blk with
  | some (.cells true cs) => if (vcells v).length = n ∧ o + (vcells v).length ≤ cs.length ∧ oneCells (vcells v) = true then .skip (s.set b (.cells true (setRange cs o (vcells v)))) else .bad
  | _ => .bad
theorem stV_ptr {n b o : Nat} {v : Value} {s : St} : stV n (some (.pointer (some ⟨b, o, none⟩))) (some v) s = stW n v b o (s.get b) s := by
  unfold stV stW storeN
  by_cases hn : (vcells v).length = n
  · simp only [hn, if_true, true_and]
    cases s.get b with
    | none => rfl
    | some blk =>
      cases blk <;> try rfl
      rename_i own cs
      cases own
      · rfl
      · simp only
        by_cases hc : o + n ≤ cs.length ∧ oneCells (vcells v) = true
        · simp only [if_pos hc]
        · simp only [if_neg hc]
  · simp only [hn, if_false, false_and]
    cases s.get b with
    | none => rfl
    | some blk => cases blk <;> try rfl
                  rename_i own cs
                  cases own <;> rfl
section
variable {b o : Nat} {cs : List Value} {s : St}
theorem stW_of {v : Value} (h : one v) : stW 1 v b o (some (.cells true cs)) s = if o < cs.length then .skip (s.set b (.cells true (cs.set o v))) else .bad := by
  simp only [stW, h.1, List.length_singleton, oneCells, List.all_cons, List.all_nil, h.2, Bool.and_true, and_true, true_and, setRange]
  congr 1
theorem stW_int {k : IntKind} {n : Int} : stW 1 (.int k n) b o (some (.cells true cs)) s = if o < cs.length then .skip (s.set b (.cells true (cs.set o (.int k n)))) else .bad := stW_of one_int
theorem stW_bool {x : Bool} : stW 1 (.bool x) b o (some (.cells true cs)) s = if o < cs.length then .skip (s.set b (.cells true (cs.set o (.bool x)))) else .bad := stW_of one_bool
theorem stW_slice {a : Option Addr} {n c : Nat} : stW 1 (.slice a n c) b o (some (.cells true cs)) s = if o < cs.length then .skip (s.set b (.cells true (cs.set o (.slice a n c)))) else .bad := stW_of one_slice
theorem stW_string {x : ByteArray} : stW 1 (.string x) b o (some (.cells true cs)) s = if o < cs.length then .skip (s.set b (.cells true (cs.set o (.string x)))) else .bad := stW_of one_string
theorem stW_ptr {a : Option Addr} : stW 1 (.pointer a) b o (some (.cells true cs)) s = if o < cs.length then .skip (s.set b (.cells true (cs.set o (.pointer a)))) else .bad := stW_of one_ptr
theorem stW_map {a : Option Nat} : stW 1 (.map a) b o (some (.cells true cs)) s = if o < cs.length then .skip (s.set b (.cells true (cs.set o (.map a)))) else .bad := stW_of one_map
theorem stW_func {f fi ca} : stW 1 (.func f fi ca) b o (some (.cells true cs)) s = if o < cs.length then .skip (s.set b (.cells true (cs.set o (.func f fi ca)))) else .bad := stW_of one_func
theorem stW_agg {n : Nat} {vs : List Value} : stW n (.agg vs.toArray) b o (some (.cells true cs)) s = if vs.length = n ∧ o + vs.length ≤ cs.length ∧ vs.all Value.oneCell' = true then .skip (s.set b (.cells true (setRange cs o vs))) else .bad := by
  simp only [stW, vcells, oneCells]
  rfl
end
theorem setRange_nil {cs : List Value} {o : Nat} : setRange cs o [] = cs := rfl
theorem setRange_cons {cs vs : List Value} {o : Nat} {v : Value} : setRange cs o (v :: vs) = setRange (cs.set o v) (o + 1) vs := rfl
theorem oneCell_int {k : IntKind} {n : Int} : Value.oneCell' (.int k n) = true := rfl
theorem oneCell_bool {b : Bool} : Value.oneCell' (.bool b) = true := rfl
theorem oneCell_slice {a : Option Addr} {n c : Nat} : Value.oneCell' (.slice a n c) = true := rfl
theorem oneCell_string {x : ByteArray} : Value.oneCell' (.string x) = true := rfl
theorem oneCell_ptr {a : Option Addr} : Value.oneCell' (.pointer a) = true := rfl
theorem vcells_int {k : IntKind} {n : Int} : vcells (.int k n) = [.int k n] := rfl
theorem vcells_bool {b : Bool} : vcells (.bool b) = [.bool b] := rfl
theorem vcells_slice {a : Option Addr} {n c : Nat} : vcells (.slice a n c) = [.slice a n c] := rfl
theorem vcells_string {x : ByteArray} : vcells (.string x) = [.string x] := rfl
theorem vcells_ptr {a : Option Addr} : vcells (.pointer a) = [.pointer a] := rfl
theorem vcells_map {a : Option Nat} : vcells (.map a) = [.map a] := rfl
theorem vcells_nilFunc : vcells .nilFunc = [.nilFunc] := rfl
theorem vcells_func {f fi ca} : vcells (.func f fi ca) = [.func f fi ca] := rfl
theorem vcells_agg {vs : List Value} : vcells (.agg vs.toArray) = vs := rfl

theorem loadN_set_ne {s : St} {b b' o n : Nat} {x : Blk} (h : b' ≠ b) : loadN (s.set b x) b' o n = loadN s b' o n := by unfold loadN; rw [St.get_set_ne s x h]
theorem loadN_set_same {s : St} {b o n : Nat} {own : Bool} {cs : List Value} : loadN (s.set b (.cells own cs)) b o n = if o + n ≤ cs.length then some ((cs.drop o).take n) else none := by unfold loadN; rw [St.get_set_same]
theorem loadN_push_ne {s : St} {b o n : Nat} {x : Blk} (h : b ≠ s.next) : loadN (s.push x) b o n = loadN s b o n := by unfold loadN; rw [St.get_push_ne s x h]
theorem loadN_push_same {s : St} {o n : Nat} {own : Bool} {cs : List Value} : loadN (s.push (.cells own cs)) s.next o n = if o + n ≤ cs.length then some ((cs.drop o).take n) else none := by unfold loadN; rw [St.get_push_same]

/-- Picks. -/
def pkV (c : Option Value) (a b : Option Value) (s : St) : VR := match c with
  | some (.bool t) => o1 (if t then a else b) s
  | _ => .bad
theorem vx_pick' {c a b : Operand} {ev : Operand → Option Value} {s : St} : vx (.pick c a b) ev s = pkV (ev c) (ev a) (ev b) s := rfl
theorem pkV_t {a b : Option Value} {s : St} : pkV (some (.bool true)) a b s = o1 a s := rfl
theorem pkV_f {a b : Option Value} {s : St} : pkV (some (.bool false)) a b s = o1 b s := rfl
theorem pkV_yes {p : Prop} [Decidable p] {a b : Option Value} {s : St} (h : p) : pkV (some (.bool (decide p))) a b s = o1 a s := by simp [pkV, h]
theorem pkV_no {p : Prop} [Decidable p] {a b : Option Value} {s : St} (h : ¬ p) : pkV (some (.bool (decide p))) a b s = o1 b s := by simp [pkV, h]
theorem pkV_or {p q : Prop} [Decidable p] [Decidable q] {s : St} : pkV (some (.bool (decide p))) (some (.bool true)) (some (.bool (decide q))) s = .val (.bool (decide (p ∨ q))) s := by
  by_cases h : p <;> simp [pkV, h, o1]
theorem pkV_and {p q : Prop} [Decidable p] [Decidable q] {s : St} : pkV (some (.bool (decide p))) (some (.bool (decide q))) (some (.bool false)) s = .val (.bool (decide (p ∧ q))) s := by
  by_cases h : p <;> simp [pkV, h, o1]
theorem pkV_val {p : Prop} [Decidable p] {a b : Value} {s : St} : pkV (some (.bool (decide p))) (some a) (some b) s = .val (if p then a else b) s := by
  by_cases h : p <;> simp [pkV, h, o1]
theorem not_dec {p : Prop} [Decidable p] : (!(decide p)) = decide (¬ p) := by simp

/-- A slice that is a whole block. -/
theorem SlAt.block {s : St} {b c esz n : Nat} {own : Bool} {cs : List Value} (h : s.get b = some (.cells own cs)) (hl : cs.length = n * esz) (hc : c / 2 = esz) : SlAt s esz (some ⟨b, 0, none⟩) n c cs :=
  ⟨hl, .inr ⟨rfl, hc⟩, fun j hj => by
    show load1 s b (0 + j) = _
    rw [load1_own h, Nat.zero_add, List.getElem?_eq_getElem hj]⟩

/-! ### Pairs -/
def prCells : List (Int × Int) → List Value
  | [] => []
  | p :: ps => .int .i64 p.1 :: .int .i64 p.2 :: prCells ps
theorem prCells_length : ∀ (xs : List (Int × Int)), (prCells xs).length = xs.length * 2
  | [] => rfl
  | p :: ps => by simp only [prCells, List.length_cons, prCells_length ps]; omega
theorem prCells_get : ∀ (xs : List (Int × Int)) (i : Nat) (h : i < xs.length), (prCells xs)[i * 2]? = some (.int .i64 xs[i].1) ∧ (prCells xs)[i * 2 + 1]? = some (.int .i64 xs[i].2)
  | p :: ps, 0, _ => ⟨rfl, rfl⟩
  | p :: ps, i + 1, h => by
    have := prCells_get ps i (by simpa using h)
    rw [show (i + 1) * 2 = i * 2 + 1 + 1 from by omega]
    simpa only [prCells, List.getElem?_cons_succ, List.getElem_cons_succ] using this
theorem SlAt.pr {s : St} {a : Option Addr} {n c : Nat} {xs : List (Int × Int)} (h : SlAt s 2 a n c (prCells xs)) :
    n = xs.length ∧ (xs.length ≠ 0 → a = some ⟨bk a, of a, none⟩) ∧ (∀ (i : Nat) (hi : i < xs.length), load1 s (bk a) (of a + i * 2) = some (.int .i64 xs[i].1)) ∧ (∀ (i : Nat) (hi : i < xs.length), load1 s (bk a) (of a + i * 2 + 1) = some (.int .i64 xs[i].2)) ∧
    (∀ (i : Nat) (hi : i < xs.length), loadN s (bk a) (of a + i * 2) 2 = some [.int .i64 xs[i].1, .int .i64 xs[i].2]) := by
  have hn : n = xs.length := by have := h.len; rw [prCells_length] at this; omega
  subst hn
  have h1 : ∀ (i : Nat) (hi : i < xs.length), load1 s (bk a) (of a + i * 2) = some (.int .i64 xs[i].1) := fun i hi => by
    have hl : i * 2 < (prCells xs).length := by rw [prCells_length]; omega
    rw [h.rd _ hl, ← List.getElem?_eq_getElem hl]; exact (prCells_get xs i hi).1
  have h2 : ∀ (i : Nat) (hi : i < xs.length), load1 s (bk a) (of a + i * 2 + 1) = some (.int .i64 xs[i].2) := fun i hi => by
    have hl : i * 2 + 1 < (prCells xs).length := by rw [prCells_length]; omega
    rw [Nat.add_assoc, h.rd _ hl, ← List.getElem?_eq_getElem hl]; exact (prCells_get xs i hi).2
  exact ⟨rfl, h.at, h1, h2, fun i hi => loadN_two (h1 i hi) (h2 i hi)⟩
end Go.Vm
/- Ranges over functions, by rules. -/
namespace Go.Vm
variable [Laid] {P : Program}

def shW (o : Option St) (rs : List VRes) (Q : Value → St → Prop) (fr : Fr) (_ : Tag (Q, fr)) : Prop :=
  match o with
  | some s' => retW (vresAll fr s' rs) Q s' (tg _)
  | none => False
section
variable {rd : Option Nat} {N : Nat} {K : VK} {fr : Fr} {m : List Nat} {s : St}
theorem apW_retm {rs : List VRes} {Q : Value → St → Prop} {t} : apW (retK rs Q) .ret fr m s t = shW (shut m s) rs Q fr (tg _) := rfl
theorem apW_fallm {rs : List VRes} {Q : Value → St → Prop} {t} : apW (retK rs Q) .normal fr m s t = shW (shut m s) rs Q fr (tg _) := rfl
theorem shW_some {s' : St} {rs : List VRes} {Q : Value → St → Prop} {t} : shW (some s') rs Q fr t = retW (vresAll fr s' rs) Q s' (tg _) := rfl
theorem shut_nil : shut [] s = some s := rfl
theorem shut_cons {b : Nat} : shut (b :: m) s = match s.get b with | some .defers => shut m (s.set b .dead) | _ => none := rfl

/-- Yields. -/
def yldW (P : Program) (b : Nat) (args : List Value) (d : Option Tmp) (l : List (COp × List COp)) (K : VK) (m : List Nat) (fr : Fr) (s : St) (_ : Tag (l, K, fr, s)) : Prop :=
  VYield P b args s fun v s' => vrun P l (fun fr s => K .normal fr m s) (fput fr d v) s'
theorem resW_yield {b : Nat} {args : List Value} {d : Option Tmp} {l : List (COp × List COp)} {t} : resW P (.yield b args) d l K m fr s t = yldW P b args d l K m fr s (tg _) := rfl
theorem yldW_of {b : Nat} {args : List Value} {d : Option Tmp} {l : List (COp × List COp)} {t} {R : Value → St → Prop} (h : VYield P b args s R) (hk : ∀ v s', R v s' → vrunW P l K m (fput fr d v) s' (tg _)) : yldW P b args d l K m fr s t :=
  VYield.mono h hk
def clV (f : Option Value) (az : Option (List Value)) : VR := match f, az with
    | some (.func (.func f) fi ca), some vs => .call f (fi.toList ++ vs ++ ca.toList)
    | some (.func (.yield b) _ _), some vs => .yield b vs
    | _, _ => .bad
theorem vx_call' {f : Operand} {az : List Operand} {ev : Operand → Option Value} : vx (.call f az) ev s = clV (ev f) (getAll ev az) := rfl
theorem clV_func {f : FuncId} {fi ca : Array Value} {vs : List Value} : clV (some (.func (.func f) fi ca)) (some vs) = .call f (fi.toList ++ vs ++ ca.toList) := rfl
theorem clV_yield {b : Nat} {fi ca : Array Value} {vs : List Value} : clV (some (.func (.yield b) fi ca)) (some vs) = .yield b vs := rfl
abbrev yV (l : Nat) : Value := .func (.yield l) #[] #[]

/-- Entering a range, outermost; and within a round. -/
theorem range_out {f : Operand} {ps : Array Tmp} {az bo : Code} {t} {g : FuncId} {fi ca : Array Value} (hf : ev fr f = some (.func (.func g) fi ca))
    (h : VCalls P g (fi.toList ++ [yV (s.next + 1)] ++ ca.toList) ((s.push .defers).push (.loop .ready none fr N ps az bo)) fun _ s3 => rangeK (s.next + 1) K fr (s.next :: m) s3) :
    runW P none N (.rangeF f ps az bo) K fr m s t := by
  unfold runW VC.run
  rw [hf]
  exact h
theorem range_in {f : Operand} {ps : Array Tmp} {az bo : Code} {t} {g : FuncId} {fi ca : Array Value} {b : Nat} {st : LoopState} {pend : Option Code} {fr' : Fr} {N' : Nat} {ps' : Array Tmp} {az' bo' : Code}
    (hf : ev fr f = some (.func (.func g) fi ca)) (hb : s.get b = some (.loop st pend fr' N' ps' az' bo'))
    (h : VCalls P g (fi.toList ++ [yV s.next] ++ ca.toList) (s.push (.loop .ready none fr N ps az bo)) fun _ s3 => rangeK s.next K fr m s3) :
    runW P (some b) N (.rangeF f ps az bo) K fr m s t := by
  unfold runW VC.run
  simp only [hf, rangeIn, hb]
  exact h
variable {l : Nat} {pend : Option Code} {fr' : Fr} {N' : Nat} {ps' : Array Tmp} {az' bo' : Code}
theorem rangeK_ready (hl : s.get l = some (.loop .ready none fr' N' ps' az' bo')) (h : apW K .normal fr m (s.set l (.loop .exhausted none fr' N' ps' az' bo')) (tg _)) : rangeK l K fr m s := by
  unfold rangeK; rw [hl]; exact ⟨by simp, h⟩
theorem rangeK_exit {id : Nat} (hl : s.get l = some (.loop .done (some (.exit id)) fr' N' ps' az' bo')) (h : apW K (.exit id) fr m (s.set l (.loop .exhausted (some (.exit id)) fr' N' ps' az' bo')) (tg _)) : rangeK l K fr m s := by
  unfold rangeK; rw [hl]; exact ⟨by simp, h⟩
theorem rangeK_ret (hl : s.get l = some (.loop .done (some .ret) fr' N' ps' az' bo')) (h : apW K .ret fr m (s.set l (.loop .exhausted (some .ret) fr' N' ps' az' bo')) (tg _)) : rangeK l K fr m s := by
  unfold rangeK; rw [hl]; exact ⟨by simp, h⟩

/-- A round. -/
def bgW (l : Nat) (blk : Option Blk) (R : Fr → List Nat → St → Prop) (fr : Fr) (m : List Nat) (s : St) (_ : Tag (R, fr, s)) : Prop :=
  match blk with
  | some (.loop .ready pend fr' N' ps' az' bo') => R fr m (s.set l (.loop .busy pend fr' N' ps' az' bo'))
  | _ => False
theorem beginK_eq {R : Fr → List Nat → St → Prop} : beginK l R fr m s = bgW l (s.get l) R fr m s (tg _) := rfl
theorem bgW_run {c : VC} {t} : bgW l (some (.loop .ready pend fr' N' ps' az' bo')) (VC.run P rd N c K) fr m s t = runW P rd N c K fr m (s.set l (.loop .busy pend fr' N' ps' az' bo')) (tg _) := rfl
def enW (l : Nat) (blk : Option Blk) (x : VX) (Q : Value → St → Prop) (s : St) (_ : Tag (Q, s)) : Prop :=
  match blk with
  | some (.loop _ _ fr' N' ps' az' bo') => (match x with
    | .normal => Q (.bool true) (s.set l (.loop .ready none fr' N' ps' az' bo'))
    | .exit id => Q (.bool false) (s.set l (.loop .done (some (.exit id)) fr' N' ps' az' bo'))
    | .ret => Q (.bool false) (s.set l (.loop .done (some .ret) fr' N' ps' az' bo')))
  | _ => False
theorem apW_end {x : VX} {Q : Value → St → Prop} {t} : apW (endK l Q) x fr m s t = enW l (s.get l) x Q s (tg _) := by
  unfold apW enW
  cases x <;> simp only [endK] <;> generalize s.get l = o <;> cases o <;> try rfl
  all_goals (rename_i blk; cases blk <;> rfl)
theorem enW_normal {st : LoopState} {Q : Value → St → Prop} {t} : enW l (some (.loop st pend fr' N' ps' az' bo')) .normal Q s t = Q (.bool true) (s.set l (.loop .ready none fr' N' ps' az' bo')) := rfl
theorem enW_exit {st : LoopState} {id : Nat} {Q : Value → St → Prop} {t} : enW l (some (.loop st pend fr' N' ps' az' bo')) (.exit id) Q s t = Q (.bool false) (s.set l (.loop .done (some (.exit id)) fr' N' ps' az' bo')) := rfl
theorem enW_ret {st : LoopState} {Q : Value → St → Prop} {t} : enW l (some (.loop st pend fr' N' ps' az' bo')) .ret Q s t = Q (.bool false) (s.set l (.loop .done (some .ret) fr' N' ps' az' bo')) := rfl

/-- A call of yield, by its body. -/
theorem yield_of (hm : P.follows .mixedOrders = true) {t : St} {Q : Value → St → Prop} {args : List Value} {ps : Array Tmp} {az bo : Code} {va vb : VC} (hl : t.get l = some (.loop .ready none fr N ps az bo)) (ha : cc P N az = some va) (hb : cc P N bo = some vb)
    (hn : args.length = ps.size) (hps : (ps.toList.all fun t => decide (t < N)) = true)
    (h : runW P (some l) N va (thenK (beginK l (vb.run P (some l) N (endK l Q))) noK) (setAll fr ps.toList args) [] t (tg _)) : VYield P l args t Q := by
  refine yield_sound hm ?_
  unfold yieldRun
  rw [hl]
  refine ⟨hn, hps, ?_⟩
  simp only [ha, hb]
  exact h
theorem setAll_one {t : Tmp} {v : Value} : setAll fr [t] [v] = fr.set t v := rfl
theorem setAll_two {t u : Tmp} {v w : Value} : setAll fr [t, u] [v, w] = (fr.set t v).set u w := rfl
end
end Go.Vm
/- The least number of a set; further constants. -/
namespace Go.Vm
section
variable [Laid] {fr : Fr}
theorem ev_nilFn : ev fr (.const .nilFunc) = some .nilFunc := rfl
theorem ev_nilPtr : ev fr (.const (.pointer none)) = some (.pointer none) := rfl
theorem ev_agg {cs : Array Value} (h : constOkA (.agg cs) = true) : ev fr (.const (.agg cs)) = some (.agg cs) := by simp only [ev, h, if_true]
end

/-- The least number of a set. -/
def low (x : BitVec 64) : Nat := Lib.ctz 64 x.toNat
theorem low_spec {x : BitVec 64} (h : x ≠ 0#64) : ∃ m, x.toNat = 2 ^ low x * (2 * m + 1) ∧ low x < 64 := by
  have hx : x.toNat ≠ 0 := fun e => h (BitVec.eq_of_toNat_eq (by simpa using e))
  have := Lib.ctzFrom_spec 64 x.toNat (by omega) x.isLt
  unfold low Lib.ctz
  rw [if_neg hx]
  exact this
theorem low_lt {x : BitVec 64} (h : x ≠ 0#64) : low x < 64 := (low_spec h).choose_spec.2
theorem low_get {x : BitVec 64} (h : x ≠ 0#64) : x.getLsbD (low x) = true := by
  obtain ⟨m, e, hk⟩ := low_spec h
  show x.toNat.testBit (low x) = true
  rw [e, Nat.testBit_two_pow_mul]
  simp
theorem low_least {x : BitVec 64} (h : x ≠ 0#64) {j : Nat} (hj : j < low x) : x.getLsbD j = false := by
  obtain ⟨m, e, hk⟩ := low_spec h
  show x.toNat.testBit j = false
  rw [e, Nat.testBit_two_pow_mul]
  simp; omega
/-- Without the least one. -/
theorem low_drop {x : BitVec 64} (h : x ≠ 0#64) (j : Nat) : (x &&& (x - 1#64)).getLsbD j = (x.getLsbD j && decide (j ≠ low x)) := by
  obtain ⟨m, e, hk⟩ := low_spec h
  have h1 : (x - 1#64).toNat = 2 ^ low x * (2 * m) + (2 ^ low x - 1) := by
    rw [BitVec.toNat_sub]
    show (2 ^ 64 - 1 + x.toNat) % 2 ^ 64 = _
    have hp : 1 ≤ 2 ^ low x := Nat.one_le_two_pow
    have hlt := x.isLt
    have e2 : 2 ^ low x * (2 * m + 1) = 2 ^ low x * (2 * m) + 2 ^ low x := by rw [Nat.mul_add, Nat.mul_one]
    rw [e2] at e
    omega
  rw [BitVec.getLsbD_and]
  show (x.toNat.testBit j && (x - 1#64).toNat.testBit j) = (x.toNat.testBit j && _)
  rw [h1, Nat.testBit_two_pow_mul_add _ (by have : 1 ≤ 2 ^ low x := Nat.one_le_two_pow; omega)]
  rw [e, Nat.testBit_two_pow_mul]
  by_cases h2 : j < low x
  · have : ¬ low x ≤ j := by omega
    simp [this]
  · rw [if_neg h2]
    by_cases h3 : j = low x
    · subst h3; simp
    · obtain ⟨d, hd⟩ : ∃ d, j - low x = d + 1 := ⟨j - low x - 1, by omega⟩
      rw [hd, Nat.testBit_succ, Nat.testBit_succ, show (2 * m + 1) / 2 = m from by omega, show 2 * m / 2 = m from by omega]
      simp [h3]
end Go.Vm
/- Appending to slices of one's own. -/
namespace Go.Vm
variable [Laid] {P : Program}

/-- A slice that was made since s0, and is a whole block. -/
structure OwnSl (s0 s : St) (esz : Nat) (a : Option Addr) (n c : Nat) (vs : List Value) : Prop where
  len : vs.length = n * esz
  adr : (a = none ∧ n = 0) ∨ ∃ b, a = some ⟨b, 0, none⟩ ∧ s0.next ≤ b ∧ b < s.next ∧ s.get b = some (.cells true vs) ∧ c / 2 = esz
theorem OwnSl.nil (s0 s : St) (esz c : Nat) : OwnSl s0 s esz none 0 c [] := ⟨by simp, .inl ⟨rfl, rfl⟩⟩
theorem OwnSl.at {s0 s : St} {esz n c : Nat} {a : Option Addr} {vs : List Value} (h : OwnSl s0 s esz a n c vs) : SlAt s esz a n c vs := by
  refine ⟨h.len, ?_, fun j hj => ?_⟩
  · rcases h.adr with h | ⟨b, rfl, _, _, _, hc⟩
    · exact .inl h
    · exact .inr ⟨rfl, hc⟩
  · rcases h.adr with ⟨_, h0⟩ | ⟨b, rfl, _, _, hb, hc⟩
    · have := h.len; rw [h0] at this; omega
    · show load1 s b (0 + j) = _
      rw [load1_own hb, Nat.zero_add, List.getElem?_eq_getElem hj]
theorem OwnSl.mono {s0 s t : St} {esz n c : Nat} {a : Option Addr} {vs : List Value} (h : OwnSl s0 s esz a n c vs) (hn : s.next ≤ t.next) (hk : ∀ b, b < s.next → a = some ⟨b, 0, none⟩ → t.get b = s.get b) : OwnSl s0 t esz a n c vs := by
  refine ⟨h.len, ?_⟩
  rcases h.adr with h | ⟨b, rfl, h1, h2, hb, hc⟩
  · exact .inl h
  · exact .inr ⟨b, rfl, h1, by omega, by rw [hk b h2 rfl]; exact hb, hc⟩
theorem OwnSl.ext {s0 s t : St} {esz n c : Nat} {a : Option Addr} {vs : List Value} (h : OwnSl s0 s esz a n c vs) (k : Ext s t) : OwnSl s0 t esz a n c vs :=
  h.mono k.next fun b hb _ => k.get b hb
theorem OwnSl.block {s0 s : St} {b esz n c : Nat} {vs : List Value} (h1 : s0.next ≤ b) (h2 : b < s.next) (hb : s.get b = some (.cells true vs)) (hl : vs.length = n * esz) (hc : c / 2 = esz) : OwnSl s0 s esz (some ⟨b, 0, none⟩) n c vs :=
  ⟨hl, .inr ⟨b, rfl, h1, h2, hb, hc⟩⟩

def apV (esz : Nat) (x y : Option Value) (s : St) : VR := match x, y with
    | some (.slice none 0 c), some (.slice none 0 _) => .val (.slice none 0 c) s
    | some (.slice none 0 c), some (.slice (some ⟨b, o, none⟩) k cx) =>
      if k = 0 then .val (.slice none 0 c) s else
      if k ≤ 1048576 ∧ cx / 2 = esz then
        (match loadN s b o (k * esz) with
         | some new => .val (.slice (some ⟨s.next, 0, none⟩) k (2 * esz)) (s.push (.cells true new))
         | none => .bad)
      else .bad
    | some (.slice (some ⟨b, o, none⟩) n c), some (.slice none 0 _) => appendV esz s n b o c [] 0
    | some (.slice (some ⟨b, o, none⟩) n c), some (.slice (some ⟨bx, ox, none⟩) k cx) =>
      if cx / 2 = esz then (match loadN s bx ox (k * esz) with
        | some new => appendV esz s n b o c new k
        | none => .bad) else .bad
    | _, _ => .bad
theorem vx_append' {esz : Nat} {x y : Operand} {ev : Operand → Option Value} {s : St} : vx (.append esz x y) ev s = apV esz (ev x) (ev y) s := rfl

/-- Some elements more. -/
theorem apV_own {s0 s : St} {esz n c k cx : Nat} {a : Option Addr} {vs ws : List Value} {bx ox : Nat} (h : OwnSl s0 s esz a n c vs) (he : Ext s0 s) (hx : loadN s bx ox (k * esz) = some ws) (hk : 0 < k) (hcx : cx / 2 = esz) (hlen : n + k ≤ 1048576) (h1 : oneCells ws = true) :
    ∃ s', apV esz (some (.slice a n c)) (some (.slice (some ⟨bx, ox, none⟩) k cx)) s = .val (.slice (some ⟨s.next, 0, none⟩) (n + k) (2 * esz)) s' ∧ s'.next = s.next + 1 ∧ s'.get s.next = some (.cells true (vs ++ ws)) ∧ Ext s0 s' ∧
      (∀ b, b < s.next → a ≠ some ⟨b, 0, none⟩ → s'.get b = s.get b) := by
  rcases h.adr with ⟨rfl, rfl⟩ | ⟨b, rfl, h2, h3, hb, hc⟩
  · have hvs : vs = [] := List.eq_nil_of_length_eq_zero (by simpa using h.len)
    subst hvs
    refine ⟨s.push (.cells true ws), ?_, rfl, St.get_push_same _ _, he.push _, fun b hb _ => St.get_push_ne _ _ (by omega)⟩
    show (if k = 0 then VR.val (.slice none 0 c) s else
      if k ≤ 1048576 ∧ cx / 2 = esz then
        (match loadN s bx ox (k * esz) with
         | some new => .val (.slice (some ⟨s.next, 0, none⟩) k (2 * esz)) (s.push (.cells true new))
         | none => .bad)
      else .bad) = _
    rw [if_neg (by omega), if_pos ⟨by omega, hcx⟩, hx, Nat.zero_add]
  · have hl : loadN s b 0 (n * esz) = some vs := by
      rw [loadN_own hb (by rw [h.len]; omega), List.drop_zero, ← h.len, List.take_length]
    have key : apV esz (some (.slice (some ⟨b, 0, none⟩) n c)) (some (.slice (some ⟨bx, ox, none⟩) k cx)) s = appendV esz s n b 0 c ws k := by
      show (if cx / 2 = esz then (match loadN s bx ox (k * esz) with
        | some new => appendV esz s n b 0 c new k
        | none => .bad) else .bad) = _
      rw [if_pos hcx, hx]
    rw [key]
    unfold appendV
    rw [if_neg (by omega), if_pos ⟨hlen, hc, h1⟩, hl]
    simp only
    by_cases hc1 : c % 2 = 1
    · rw [if_pos hc1]
      exact ⟨_, rfl, rfl, St.get_push_same _ _, he.push _, fun b' hb' _ => St.get_push_ne _ _ (by omega)⟩
    · rw [if_neg hc1, hb]
      refine ⟨_, rfl, rfl, ?_, (he.set _ h2 h3).push _, fun b' hb' hne => ?_⟩
      · have := St.get_push_same (s.set b .dead) (.cells true (vs ++ ws))
        simpa using this
      · rw [St.get_push_ne _ _ (by simp; omega), St.get_set_ne _ _ (by rintro rfl; exact hne rfl)]
/-- One element more; on behind it. -/
theorem appW_of {K : VK} {fr : Fr} {m : List Nat} {d : Option Tmp} {l : List (COp × List COp)} {s0 s : St} {t : Tag (l, K, fr, s)} {esz n c k cx : Nat} {a : Option Addr} {vs ws : List Value} {bx ox : Nat} (h : OwnSl s0 s esz a n c vs) (he : Ext s0 s) (hx : loadN s bx ox (k * esz) = some ws) (hk : 0 < k) (hcx : cx / 2 = esz) (hlen : n + k ≤ 1048576) (h1 : oneCells ws = true)
    (hn : ∀ s', s'.next = s.next + 1 → s'.get s.next = some (.cells true (vs ++ ws)) → OwnSl s0 s' esz (some ⟨s.next, 0, none⟩) (n + k) (2 * esz) (vs ++ ws) → Ext s0 s' → (∀ b, b < s.next → a ≠ some ⟨b, 0, none⟩ → s'.get b = s.get b) →
      vrunW P l K m (fput fr d (.slice (some ⟨s.next, 0, none⟩) (n + k) (2 * esz))) s' (tg _)) :
    resW P (apV esz (some (.slice a n c)) (some (.slice (some ⟨bx, ox, none⟩) k cx)) s) d l K m fr s t := by
  obtain ⟨s', e, e1, e2, e3, e4⟩ := apV_own h he hx hk hcx hlen h1
  rw [e]
  have hlen' : (vs ++ ws).length = (n + k) * esz := by
    have hw : ws.length = k * esz := by
      unfold loadN at hx
      split at hx
      · split at hx
        · cases hx; simp; omega
        · cases hx
      · cases hx
    rw [List.length_append, h.len, hw, Nat.add_mul]
  exact hn s' e1 e2 (.block he.next (by omega) e2 hlen' (by omega)) e3 e4
theorem eqV_bool {p q : Prop} [Decidable p] [Decidable q] : eqV (.one .bool) (.bool (decide p)) (.bool (decide q)) = some (decide (p ↔ q)) := by
  show some (decide p == decide q) = _
  by_cases h1 : p <;> by_cases h2 : q <;> simp [h1, h2]
end Go.Vm
/- Operations that are asked again. -/
namespace Go.Vm
variable [Laid] {P : Program}

def stab (r : VR) (s : St) (o : Option Value) : Prop := match r, o with
  | .val v t, some u => u = v ∧ t = s
  | _, _ => False
theorem stab_val {v u : Value} {t s : St} : stab (.val v t) s (some u) = (u = v ∧ t = s) := rfl
section
variable {K : VK} {fr : Fr} {m : List Nat} {s s' : St}
/-- An operation behind which one is asked again. -/
def resC (P : Program) (r : VR) (d : Option Tmp) (d2 : Tmp) (op2 : VOp) (l : List (COp × List COp)) (K : VK) (m : List Nat) (fr : Fr) (s : St) (_ : Tag (op2, l, K, fr, s)) : Prop :=
  match r with
  | .val v s' => stab (vx op2 (ev (fput fr d v)) s') s' ((fput fr d v).get d2) ∧ vrunW P l K m (fput fr d v) s' (tg _)
  | .skip s' => stab (vx op2 (ev (fput fr d undef)) s') s' ((fput fr d undef).get d2) ∧ vrunW P l K m (fput fr d undef) s' (tg _)
  | .call f args => VCalls P f args s fun v s' => (∀ c ∈ [(⟨some d2, op2, none⟩ : COp)], stable c (fput fr d v) s') ∧ vrun P l (fun fr s => K .normal fr m s) (fput fr d v) s'
  | .yield b args => VYield P b args s fun v s' => (∀ c ∈ [(⟨some d2, op2, none⟩ : COp)], stable c (fput fr d v) s') ∧ vrun P l (fun fr s => K .normal fr m s) (fput fr d v) s'
  | .any xs => ∀ x ∈ xs, (∀ c ∈ [(⟨some d2, op2, none⟩ : COp)], stable c (fput fr d x.1) x.2) ∧ vrun P l (fun fr s => K .normal fr m s) (fput fr d x.1) x.2
  | .bad => False
theorem resC_val {v : Value} {d : Option Tmp} {d2 : Tmp} {op2 : VOp} {l : List (COp × List COp)} {t} : resC P (.val v s') d d2 op2 l K m fr s t = (stab (vx op2 (ev (fput fr d v)) s') s' ((fput fr d v).get d2) ∧ vrunW P l K m (fput fr d v) s' (tg _)) := rfl
theorem resC_skip {d : Option Tmp} {d2 : Tmp} {op2 : VOp} {l : List (COp × List COp)} {t} : resC P (.skip s') d d2 op2 l K m fr s t = (stab (vx op2 (ev (fput fr d undef)) s') s' ((fput fr d undef).get d2) ∧ vrunW P l K m (fput fr d undef) s' (tg _)) := rfl
theorem stab_spec {op2 : VOp} {d2 : Tmp} {fr : Fr} : stable ⟨some d2, op2, none⟩ fr s ↔ stab (vx op2 (ev fr) s) s (fr.get d2) := by
  constructor
  · rintro ⟨v, h1, h2⟩
    rw [h1, h2 d2 rfl]; exact ⟨rfl, rfl⟩
  · intro h
    unfold stab at h
    split at h
    · rename_i v t u h1 h2
      obtain ⟨rfl, rfl⟩ := h
      refine ⟨u, h1, fun d hd => ?_⟩
      cases hd; exact h2
    · exact h.elim
theorem vrunW_chk {op : VOp} {d : Option Tmp} {d2 : Tmp} {op2 : VOp} {l : List (COp × List COp)} {t} : vrunW P ((⟨d, op, none⟩, [⟨some d2, op2, none⟩]) :: l) K m fr s t = resC P (vx op (ev fr) s) d d2 op2 l K m fr s (tg _) := by
  unfold vrunW vrun vstep vres resC
  simp only [cwant]
  generalize vx op (ev fr) s = r
  cases r with
  | val v s' => simp only [List.mem_singleton, forall_eq, stab_spec]; rfl
  | skip s' => simp only [List.mem_singleton, forall_eq, stab_spec]; rfl
  | call f args => rfl
  | yield b args => rfl
  | any xs => rfl
  | bad => rfl
end
end Go.Vm
/- Graphs as sets of neighbours; how they lie. -/
namespace Go.Vm
variable [Laid]

abbrev Gr := Nat → BitVec 64
def upd (G : Gr) (a : Nat) (v : BitVec 64) : Gr := fun i => if i = a then v else G i
def cellsG (n : Nat) (G : Gr) : List Value := (List.range n).map fun i => .int .i64 (G i).toInt
@[simp] theorem cellsG_len (n : Nat) (G : Gr) : (cellsG n G).length = n := by simp [cellsG]
theorem cellsG_get {n : Nat} {G : Gr} {i : Nat} (h : i < n) : (cellsG n G)[i]? = some (.int .i64 (G i).toInt) := by simp [cellsG, h]
theorem cellsG_set {n : Nat} {G : Gr} {a : Nat} {v : BitVec 64} : (cellsG n G).set a (.int .i64 v.toInt) = cellsG n (upd G a v) := by
  refine List.ext_getElem? fun i => ?_
  rw [List.getElem?_set]
  by_cases h : a = i
  · subst h
    by_cases hi : a < n
    · simp [cellsG, hi, upd]
    · simp [cellsG, hi]
  · rw [if_neg h]
    have : ¬ i = a := fun e => h e.symm
    by_cases hi : i < n
    · simp [cellsG, hi, upd, this]
    · simp [cellsG, hi]
theorem set_one_add {x v : Value} {l : List Value} {a : Nat} : (x :: l).set (1 + a) v = x :: l.set a v := by rw [Nat.add_comm, List.set_cons_succ]
theorem get_one_add {x : Value} {l : List Value} {a : Nat} : (x :: l)[1 + a]? = l[a]? := by rw [Nat.add_comm, List.getElem?_cons_succ]
theorem cellsG_zero (n : Nat) : cellsG n (fun _ => 0#64) = List.replicate n (.int .i64 0) := by
  refine List.ext_getElem? fun i => ?_
  by_cases hi : i < n
  · simp [cellsG, hi]
  · simp [cellsG, hi]

/-- An edge more. -/
def addEd (G : Gr) (p : Nat × Nat) : Gr := let H := upd G p.1 (G p.1 ||| BitVec.twoPow 64 p.2); upd H p.2 (H p.2 ||| BitVec.twoPow 64 p.1)
def gr (xs : List (Nat × Nat)) : Gr := xs.foldl addEd fun _ => 0#64
theorem gr_snoc (xs : List (Nat × Nat)) (p : Nat × Nat) : gr (xs ++ [p]) = addEd (gr xs) p := by simp [gr]
/-- Edges of n vertices. -/
def Valid (n : Nat) (xs : List (Nat × Nat)) : Prop := ∀ p ∈ xs, p.1 < p.2 ∧ p.2 < n

theorem addEd_get {G : Gr} {p : Nat × Nat} (h1 : p.1 < 64) (h2 : p.2 < 64) (i j : Nat) : (addEd G p i).getLsbD j = ((G i).getLsbD j || decide (i = p.1 ∧ j = p.2 ∨ i = p.2 ∧ j = p.1)) := by
  simp only [addEd, upd]
  by_cases a1 : i = p.2
  · subst a1
    simp only [if_true, BitVec.getLsbD_or, BitVec.getLsbD_twoPow, h1, decide_true, Bool.true_and]
    by_cases a2 : p.2 = p.1
    · simp only [a2, if_true, BitVec.getLsbD_or, BitVec.getLsbD_twoPow, h1, decide_true, Bool.true_and, true_and, or_self]
      by_cases a3 : p.1 = j
      · simp [a3]
      · have : ¬ j = p.1 := fun e => a3 e.symm
        simp [a3, this]
    · simp only [a2, if_false, false_and, false_or, true_and]
      by_cases a3 : p.1 = j
      · simp [a3]
      · have : ¬ j = p.1 := fun e => a3 e.symm
        simp [a3, this]
  · simp only [a1, if_false, false_and, or_false]
    by_cases a2 : i = p.1
    · subst a2
      simp only [if_true, BitVec.getLsbD_or, BitVec.getLsbD_twoPow, h2, decide_true, Bool.true_and, true_and]
      by_cases a3 : p.2 = j
      · simp [a3]
      · have : ¬ j = p.2 := fun e => a3 e.symm
        simp [a3, this]
    · simp [a2]

/-- What two vertices are neighbours. -/
theorem gr_get {n : Nat} {xs : List (Nat × Nat)} (hv : Valid n xs) (hn : n ≤ 64) (i j : Nat) : (gr xs i).getLsbD j = decide ((i, j) ∈ xs ∨ (j, i) ∈ xs) := by
  have : ∀ (l : List (Nat × Nat)) (G : Gr), (∀ p ∈ l, p.1 < 64 ∧ p.2 < 64) → (l.foldl addEd G i).getLsbD j = ((G i).getLsbD j || decide ((i, j) ∈ l ∨ (j, i) ∈ l)) := by
    intro l
    induction l with
    | nil => intro G _; simp
    | cons p l ih =>
      intro G h
      obtain ⟨k1, k2⟩ := h p (List.mem_cons_self ..)
      rw [List.foldl_cons, ih _ fun q hq => h q (List.mem_cons_of_mem _ hq), addEd_get k1 k2, Bool.or_assoc]
      congr 1
      rw [← Bool.decide_or]
      simp only [List.mem_cons, decide_eq_decide]
      constructor
      · rintro ((⟨a, b⟩ | ⟨a, b⟩) | h | h)
        · exact .inl (.inl (by rw [a, b]))
        · exact .inr (.inl (by rw [a, b]))
        · exact .inl (.inr h)
        · exact .inr (.inr h)
      · rintro ((h | h) | (h | h))
        · exact .inl (.inl ⟨by rw [← h], by rw [← h]⟩)
        · exact .inr (.inl h)
        · exact .inl (.inr ⟨by rw [← h], by rw [← h]⟩)
        · exact .inr (.inr h)
  rw [gr, this]
  · simp
  · intro p hp; have := hv p hp; omega
structure GW (n : Nat) (G : Gr) : Prop where
  upto : ∀ i, Upto n (G i)
  out : ∀ i, n ≤ i → G i = 0#64
  symm : ∀ i j, (G i).getLsbD j = (G j).getLsbD i
  irr : ∀ i, (G i).getLsbD i = false
theorem gr_GW {n : Nat} {xs : List (Nat × Nat)} (hv : Valid n xs) (hn : n ≤ 64) : GW n (gr xs) where
  upto := fun i j hj => by
    rw [gr_get hv hn]; simp
    refine ⟨fun h => ?_, fun h => ?_⟩ <;> have := hv _ h <;> simp at this <;> omega
  out := fun i hi => by
    apply BitVec.eq_of_getLsbD_eq
    intro j _
    rw [gr_get hv hn]; simp
    refine ⟨fun h => ?_, fun h => ?_⟩ <;> have := hv _ h <;> simp at this <;> omega
  symm := fun i j => by rw [gr_get hv hn, gr_get hv hn]; simp only [decide_eq_decide]; exact Or.comm
  irr := fun i => by
    rw [gr_get hv hn]; simp
    intro h; have := hv _ h; simp at this

/-- Pairs of numbers as cells. -/
def np (xs : List (Nat × Nat)) : List (Int × Int) := xs.map fun p => ((p.1 : Int), (p.2 : Int))
@[simp] theorem np_length (xs : List (Nat × Nat)) : (np xs).length = xs.length := by simp [np]
theorem np_get (xs : List (Nat × Nat)) (i : Nat) (h : i < (np xs).length) : (np xs)[i] = (((xs[i]'(by simpa using h)).1 : Int), ((xs[i]'(by simpa using h)).2 : Int)) := by simp [np]
theorem SlAt.np {s : St} {a : Option Addr} {n c : Nat} {xs : List (Nat × Nat)} (h : SlAt s 2 a n c (prCells (np xs))) :
    n = xs.length ∧ (xs.length ≠ 0 → a = some ⟨bk a, of a, none⟩) ∧ (∀ (i : Nat) (hi : i < xs.length), load1 s (bk a) (of a + i * 2) = some (.int .i64 (xs[i].1 : Int))) ∧ (∀ (i : Nat) (hi : i < xs.length), load1 s (bk a) (of a + i * 2 + 1) = some (.int .i64 (xs[i].2 : Int))) ∧
    (∀ (i : Nat) (hi : i < xs.length), loadN s (bk a) (of a + i * 2) 2 = some [.int .i64 (xs[i].1 : Int), .int .i64 (xs[i].2 : Int)]) := by
  obtain ⟨h1, h2, h3, h4, h5⟩ := h.pr
  simp only [np_length] at h1 h2 h3 h4 h5
  refine ⟨h1, h2, fun i hi => ?_, fun i hi => ?_, fun i hi => ?_⟩
  · rw [h3 i hi, np_get]
  · rw [h4 i hi, np_get]
  · rw [h5 i hi, np_get]

/-- A graph behind a pointer. -/
def GrAt (s : St) (b n : Nat) (G : Gr) : Prop := s.get b = some (.cells true (.int .i64 (n : Int) :: cellsG 16 G))
theorem GrAt.n {s : St} {b n : Nat} {G : Gr} (h : GrAt s b n G) : load1 s b 0 = some (.int .i64 (n : Int)) := by rw [load1_own h]; rfl
theorem GrAt.g {s : St} {b n : Nat} {G : Gr} (h : GrAt s b n G) (i : Nat) (hi : i < 16) : load1 s b (1 + i) = some (.int .i64 (G i).toInt) := by rw [load1_own h, get_one_add, cellsG_get hi]
theorem GrAt.mono {s t : St} {b n : Nat} {G : Gr} (h : GrAt s b n G) (hs : s.WF) (k : Ext s t) : GrAt t b n G := k.old hs h
/-- A graph as a slice. -/
theorem SlAt.gr {s : St} {a : Option Addr} {n c : Nat} {G : Gr} (h : SlAt s 1 a n c (cellsG n G)) : ∀ (i : Nat) (hi : i < n), load1 s (bk a) (of a + i) = some (.int .i64 (G i).toInt) := fun i hi => by
  have hl : i < (cellsG n G).length := by simpa using hi
  rw [h.rd i hl, ← List.getElem?_eq_getElem hl, cellsG_get hi]
end Go.Vm
