/- Memory on both sides: loads, stores, new blocks. -/
import Derived.Test.YtjandhdjjbfgcaaDoorV2
set_option linter.unusedSectionVars false
set_option linter.unusedSimpArgs false
set_option linter.unusedVariables false
/- Memory on both sides: loads, stores, new blocks. -/
namespace Go.Vm
open Go.RowKit (Below)
variable [Laid]

theorem Addr.add_none (B o n : Nat) : (⟨B, o, none⟩ : Addr).add n = ⟨B, o + n, none⟩ := by
  unfold Addr.add; split
  · next h => subst h; rfl
  · rfl

theorem VRel.const {ι : Emb} {v : Value} (h : constOk v = true) : VRel ι v v := by
  unfold constOk at h
  split at h
  · exact .bool _
  · exact .int _ _
  · exact .string _
  · exact .ptrNil
  · exact .sliceNil _
  · exact .mapNil
  · exact .nilFunc
  · exact .nilIface
  · cases h

theorem VRel.constA {ι : Emb} {v : Value} (h : constOkA v = true) : VRel ι v v := by
  unfold constOkA at h
  split at h
  · rename_i cs
    refine .agg rfl fun i v v' e e' => ?_
    rw [e] at e'; cases e'
    refine .const ?_
    rw [List.all_eq_true] at h
    exact h v (by rw [Array.mem_toList_iff]; exact Array.mem_of_getElem? e)
  · exact .const h

theorem Rels.const {ι : Emb} {vs : List Value} (h : vs.all constOk = true) : Rels ι vs vs :=
  ⟨rfl, fun i v v' e e' => by
    rw [e] at e'; cases e'
    rw [List.all_eq_true] at h
    exact .const (h v (List.mem_of_getElem? e))⟩

theorem VRel.cells {ι : Emb} {v v' : Value} (h : VRel ι v v') : Rels ι (vcells v) v'.cells.toList := by
  cases h <;> first
    | (rename_i h1 h2; exact ⟨by simpa [vcells, Value.cells] using h1, fun i v v' e e' => h2 i v v' (by simpa [vcells] using e) (by simpa [Value.cells] using e')⟩)
    | (refine Rels.cons ?_ (Rels.nil _); constructor <;> assumption)

theorem VRel.oneCell {ι : Emb} {v v' : Value} (h : VRel ι v v') : v'.oneCell' = v.oneCell' := by cases h <;> rfl

theorem Rels.oneCells {ι : Emb} {xs ys : List Value} (h : Rels ι xs ys) (ho : oneCells xs = true) : ∀ y ∈ ys, y.oneCell' = true := by
  intro y hy
  obtain ⟨i, hi, e⟩ := List.mem_iff_getElem.1 hy
  have hx : i < xs.length := by rw [h.1]; exact hi
  have := h.2 i xs[i] ys[i] (List.getElem?_eq_getElem hx) (List.getElem?_eq_getElem hi)
  rw [← e, this.oneCell]
  unfold Vm.oneCells at ho
  rw [List.all_eq_true] at ho
  exact ho _ (List.getElem_mem hx)

/-! ### Reading -/
section
variable {P : Program} {ι : Emb} {s : St} {w : World} {base : Nat} {w0 : World}

theorem Good.cellsAt (g : Good ι s w base w0) {b : Nat} {own : Bool} {cs : List Value} {p : Pl} (hb : s.get b = some (.cells own cs)) (hp : ι b = some p) :
    ∃ mc ty fz, w.heap[p.B]? = some (.cells mc ty fz) ∧ mc.size = p.Z ∧ CRel ι cs mc p.d ∧ (own = true → fz = (0, 0) ∧ base ≤ p.B) := by
  obtain ⟨p', ob, h1, h2, h3, h4⟩ := g.blk b _ hb rfl
  rw [hp] at h1; cases h1
  obtain ⟨mc, ty, fz, rfl, h5, h6, h7⟩ := h3
  exact ⟨mc, ty, fz, h2, h5, h6, fun h => ⟨h7 h, h4 (by simp [Blk.own, h])⟩⟩

theorem cell?_of_heap {w : World} {B o : Nat} {mc : Array Value} {ty : TypeId} {fz : Nat × Nat} (h : w.heap[B]? = some (.cells mc ty fz)) : w.cell? ⟨B, o, none⟩ = mc[o]? := by
  simp [World.cell?, h]

theorem Good.load1 (g : Good ι s w base w0) {b o : Nat} {v : Value} {p : Pl} (h : Vm.load1 s b o = some v) (hp : ι b = some p) :
    ∃ v', w.cell? ⟨p.B, p.d + o, none⟩ = some v' ∧ VRel ι v v' := by
  unfold Vm.load1 at h
  split at h
  · rename_i own cs hb
    obtain ⟨mc, ty, fz, h2, _, h6, _⟩ := g.cellsAt hb hp
    obtain ⟨v', e1, e2⟩ := h6 o v h
    exact ⟨v', by rw [cell?_of_heap h2]; exact e1, e2⟩
  · cases h

theorem Good.loadN (g : Good ι s w base w0) {b o n : Nat} {vs : List Value} {p : Pl} (h : Vm.loadN s b o n = some vs) (hp : ι b = some p) :
    vs.length = n ∧ ∃ vs', Rels ι vs vs' ∧ ∀ j v, vs'[j]? = some v → w.cell? ⟨p.B, p.d + o + j, none⟩ = some v := by
  unfold Vm.loadN at h
  split at h
  · rename_i own cs hb
    split at h
    · rename_i hle
      cases h
      obtain ⟨mc, ty, fz, h2, _, h6, _⟩ := g.cellsAt hb hp
      have hlen : ((cs.drop o).take n).length = n := by simp; omega
      refine ⟨hlen, (List.range n).map (fun j => mc[p.d + o + j]?.getD undef), ⟨by simp [hlen], fun i v v' e e' => ?_⟩, fun j v e => ?_⟩
      · have hi : i < n := by have := (List.getElem?_eq_some_iff.1 e).1; rw [hlen] at this; exact this
        rw [List.getElem?_take_of_lt hi, List.getElem?_drop] at e
        obtain ⟨u, f1, f2⟩ := h6 _ v e
        rw [List.getElem?_map, List.getElem?_range hi] at e'
        simp only [Option.map_some, Option.some.injEq] at e'
        rw [← Nat.add_assoc] at f1
        rw [f1] at e'
        simp at e'; rw [← e']; exact f2
      · have hj : j < n := by have := (List.getElem?_eq_some_iff.1 e).1; simpa using this
        rw [List.getElem?_map, List.getElem?_range hj] at e
        simp only [Option.map_some, Option.some.injEq] at e
        have hin : o + j < cs.length := by omega
        obtain ⟨u, f1, f2⟩ := h6 (o + j) _ (List.getElem?_eq_getElem hin)
        rw [← Nat.add_assoc] at f1
        rw [cell?_of_heap h2, f1]
        rw [f1] at e; simpa using e
    · cases h
  · cases h

theorem run_loadCellsFrom {B o : Nat} : ∀ (vs : List Value) (i : Nat) (acc : Array Value), (∀ j v, vs[j]? = some v → w.cell? ⟨B, o + i + j, none⟩ = some v) →
    (loadCellsFrom ⟨B, o, none⟩ i vs.length acc).run P w = .ok (acc ++ vs.toArray) w
  | [], i, acc, _ => by simp [loadCellsFrom]
  | v :: vs, i, acc, h => by
    have h0 : w.cell? ⟨B, o + i, none⟩ = some v := by have := h 0 v rfl; simpa using this
    have ih := run_loadCellsFrom (B := B) (o := o) vs (i + 1) (acc.push v) (fun j u e => by have := h (j + 1) u (by simpa using e); rw [← this]; congr 2; omega)
    simp only [List.length_cons, loadCellsFrom, Sem.run_bind, run_load, Addr.add_none, h0, Result.andThen_ok, ih]
    congr 1
    apply Array.ext'; simp

theorem run_loadCells {B o n : Nat} {vs : List Value} (hn : vs.length = n) (h : ∀ j v, vs[j]? = some v → w.cell? ⟨B, o + j, none⟩ = some v) :
    (loadCells ⟨B, o, none⟩ n).run P w = .ok vs.toArray w := by
  subst hn
  unfold loadCells
  rw [run_loadCellsFrom vs 0 #[] (fun j v e => by simpa using h j v e)]
  simp

/-! ### Writing -/

def putA : Array Value → Nat → List Value → Array Value
  | mc, _, [] => mc
  | mc, o, v :: vs => putA (mc.setIfInBounds o v) (o + 1) vs
@[simp] theorem putA_size : ∀ (mc : Array Value) (o : Nat) (vs : List Value), (putA mc o vs).size = mc.size
  | mc, _, [] => rfl
  | mc, o, v :: vs => by simp [putA, putA_size]

theorem putObj_putObj (w : World) (r : Nat) (o o' : Obj) : (w.putObj r o).putObj r o' = w.putObj r o' := by
  simp [World.putObj]
theorem putObj_same {w : World} {r : Nat} {o : Obj} (h : w.heap[r]? = some o) : w.putObj r o = w := by
  unfold World.putObj
  have : w.heap.setIfInBounds r o = w.heap := by
    apply Array.ext_getElem?
    intro i
    rw [Array.getElem?_setIfInBounds]
    split
    · rename_i e; subst e
      have := (Array.getElem?_eq_some_iff.1 h).1
      rw [if_pos this, h]
    · rfl
  rw [this]

theorem setCell_putObj {w : World} {B o : Nat} {v : Value} {mc : Array Value} {ty : TypeId} {fz : Nat × Nat} (h : w.heap[B]? = some (.cells mc ty fz)) :
    w.setCell ⟨B, o, none⟩ v = w.putObj B (.cells (mc.setIfInBounds o v) ty fz) := by
  unfold World.setCell World.putObj
  congr 1
  apply Array.ext_getElem?
  intro i
  rw [Array.getElem?_modify, Array.getElem?_setIfInBounds]
  split
  · rename_i e
    have e' : B = i := e
    subst e'
    have hlt := (Array.getElem?_eq_some_iff.1 h).1
    rw [if_pos hlt, h]; simp
  · rfl

theorem run_storeCells {B o : Nat} {ty : TypeId} : ∀ (vs : List Value) (i : Nat) (mc : Array Value) (w : World), w.heap[B]? = some (.cells mc ty (0, 0)) → (vs ≠ [] → o + i + vs.length ≤ mc.size) → (∀ v ∈ vs, v.oneCell' = true) →
    (storeCells ⟨B, o, none⟩ vs i).run P w = .ok () (w.putObj B (.cells (putA mc (o + i) vs) ty (0, 0)))
  | [], i, mc, w, h, _, _ => by simp [storeCells, putA, putObj_same h]
  | v :: vs, i, mc, w, h, hle, hone => by
    have hle := hle (by simp)
    have hlt : o + i < mc.size := by simp at hle; omega
    have hc : w.cell? ⟨B, o + i, none⟩ = some mc[o + i] := by rw [cell?_of_heap h]; exact Array.getElem?_eq_getElem hlt
    have hfz : w.frozen? ⟨B, o + i, none⟩ = false := by simp [World.frozen?, h]
    have hB := (Array.getElem?_eq_some_iff.1 h).1
    have ih := run_storeCells (B := B) (o := o) (ty := ty) vs (i + 1) (mc.setIfInBounds (o + i) v) (w.putObj B (.cells (mc.setIfInBounds (o + i) v) ty (0, 0)))
      (World.putObj_heap_same hB) (fun _ => by simp at hle ⊢; omega) (fun u hu => hone u (List.mem_cons_of_mem _ hu))
    simp only [storeCells, Sem.run_bind, Addr.add_none, run_store P w _ v _ (hone v (List.mem_cons_self ..)), hc, hfz, Bool.false_eq_true, if_false, Result.andThen_ok, setCell_putObj h]
    rw [ih, putObj_putObj]
    simp only [putA, Nat.add_assoc]

theorem CRel.setOne {cs : List Value} {mc : Array Value} {d o : Nat} {v v' : Value} (h : CRel ι cs mc d) (hv : VRel ι v v') (ho : o < cs.length) :
    CRel ι (cs.set o v) (mc.setIfInBounds (d + o) v') d := by
  intro i u e
  rw [List.getElem?_set] at e
  split at e
  · rename_i heq
    subst heq
    cases e
    obtain ⟨u', f1, _⟩ := h o _ (List.getElem?_eq_getElem ho)
    have hin := (Array.getElem?_eq_some_iff.1 f1).1
    exact ⟨v', by rw [Array.getElem?_setIfInBounds]; simp [hin], hv⟩
  · rename_i hne
    obtain ⟨u', f1, f2⟩ := h i u e
    exact ⟨u', by rw [Array.getElem?_setIfInBounds, if_neg (by omega)]; exact f1, f2⟩

theorem setRange_length : ∀ (vs cs : List Value) (o : Nat), (setRange cs o vs).length = cs.length
  | [], _, _ => rfl
  | v :: vs, cs, o => by simp [setRange, setRange_length vs]

theorem CRel.setRange {d : Nat} : ∀ (vs vs' : List Value) (cs : List Value) (mc : Array Value) (o : Nat), CRel ι cs mc d → Rels ι vs vs' → o + vs.length ≤ cs.length →
    CRel ι (Vm.setRange cs o vs) (putA mc (d + o) vs') d
  | [], vs', cs, mc, o, h, hr, _ => by
    have : vs' = [] := List.length_eq_zero_iff.1 (by have := hr.1; simp at this; omega)
    subst this; exact h
  | v :: vs, [], cs, mc, o, h, hr, _ => by have := hr.1; simp at this
  | v :: vs, v' :: vs', cs, mc, o, h, hr, hle => by
    simp only [List.length_cons] at hle
    have := CRel.setRange (d := d) vs vs' (cs.set o v) (mc.setIfInBounds (d + o) v') (o + 1) (h.setOne (hr.2 0 v v' rfl rfl) (by omega))
      ⟨by have := hr.1; simpa using this, fun i u u' e e' => hr.2 (i + 1) u u' (by simpa using e) (by simpa using e')⟩ (by simp; omega)
    simpa [Vm.setRange, putA, Nat.add_assoc] using this

theorem Good.storeN (g : Good ι s w base w0) {b o : Nat} {vs vs' : List Value} {s' : St} {p : Pl} (h : Vm.storeN s b o vs = some s') (hp : ι b = some p) (hr : Rels ι vs vs') :
    ∃ w', (storeCells ⟨p.B, p.d + o, none⟩ vs').run P w = .ok () w' ∧ Good ι s' w' base w0 := by
  unfold Vm.storeN at h
  split at h
  · rename_i cs hb
    split at h
    · rename_i hc
      cases h
      obtain ⟨hle, hone⟩ := hc
      obtain ⟨mc, ty, fz, h2, h5, h6, h7⟩ := g.cellsAt hb hp
      obtain ⟨rfl, hbase⟩ := h7 rfl
      have hlen := hr.1
      have hmc : vs' ≠ [] → p.d + o + 0 + vs'.length ≤ mc.size := fun hne => by
        have h0 := List.length_pos_iff.2 hne
        obtain ⟨u, f1, _⟩ := h6 (o + vs'.length - 1) _ (List.getElem?_eq_getElem (by omega))
        have := (Array.getElem?_eq_some_iff.1 f1).1
        omega
      have hrun := run_storeCells (P := P) (B := p.B) (o := p.d + o) vs' 0 mc w h2 hmc (hr.oneCells hone)
      refine ⟨_, hrun, ?_⟩
      have hB := (Array.getElem?_eq_some_iff.1 h2).1
      refine g.change hb (o' := .cells true (setRange cs o vs)) rfl hp (.inl rfl) (World.putObj_heap_same hB) (fun k hk => World.putObj_heap_other hk) (by simp) rfl rfl rfl ?_
      exact ⟨_, ty, (0, 0), rfl, by simp [h5], by simpa using CRel.setRange vs vs' cs mc o h6 hr hle, fun _ => rfl⟩
    · cases h
  · cases h
end
end Go.Vm
