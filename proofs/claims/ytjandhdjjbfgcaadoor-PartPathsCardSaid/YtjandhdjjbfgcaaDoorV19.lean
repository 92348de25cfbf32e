/- Contracts of the kit's, lifted: bits.TrailingZeros, strings.Join. -/
import Derived.Test.YtjandhdjjbfgcaaDoorV18
import Derived.Shelf.Spec.TrailingZeros
import Derived.Shelf.Strings.OnBuilder
set_option linter.unusedSectionVars false
set_option linter.unusedSimpArgs false
set_option linter.unusedVariables false
/- Contracts of the kit's, lifted: bits.TrailingZeros, strings.Join. -/
namespace Go.Vm
open Go.RowKit (Below)
open Go.Proofs Go.Shelf
variable [Laid]
variable {P : Program} {ι : Emb} {s : St} {w : World} {base : Nat} {w0 : World}

/-- Where nothing that lies there is turned, all stays. -/
theorem Good.grow {w' : World} (g : Good ι s w base w0) (h : Below w.heap.size w w') : Good ι s w' base w0 := by
  refine ⟨g.below.trans ⟨h.os, h.tape, h.output, ?_, fun k hk => h.block k (Nat.lt_of_lt_of_le hk g.le)⟩, Nat.le_trans g.le h.size, g.fresh, fun b o hb hl => ?_, g.inj, fun b p e => Nat.lt_of_lt_of_le (g.dom b p e) h.size, g.laid⟩
  · have := h.size; have := g.le; omega
  · obtain ⟨p, ob, h1, h2, h3, h4⟩ := g.blk b o hb hl
    exact ⟨p, ob, h1, by rw [h.block p.B (g.dom b p h1)]; exact h2, h3, h4⟩

/-- A contract of the kit's at plain arguments. -/
theorem vcalls_plain {f : FuncId} {args : List Value} {v : Value} (henter : ∀ (args' : Array Value) (w : World), (callFunc f args').run P w = .ok (.enter f args') w)
    (hv : ∀ κ : Emb, VRel κ v v) (ha : ∀ (κ : Emb) (args' : List Value), Rels κ args args' → args' = args)
    (h : ∀ base w0 w, Laid.says base w0 → Below base w0 w → base ≤ w.heap.size → Calls P f args.toArray w fun e w' => e = .returned v ∧ w' = w) : VCalls P f args s fun u t => u = v ∧ t = s := by
  refine ⟨henter, fun ι base w0 w args' g hr => ?_⟩
  have e := ha ι _ hr
  have : args' = args.toArray := by rw [← e]
  subst this
  refine (h base w0 w g.laid g.below g.le).mono ?_
  rintro e w' ⟨rfl, rfl⟩
  exact ⟨v, v, s, ι, rfl, ⟨rfl, rfl⟩, Emb.le_refl ι, hv ι, g⟩

theorem rels_int {κ : Emb} {k : IntKind} {n : Int} {args' : List Value} (h : Rels κ [.int k n] args') : args' = [.int k n] := by
  obtain ⟨h1, h2⟩ := h
  match args', h1 with
  | [y], _ =>
    have := h2 0 _ _ rfl rfl
    cases this; rfl

def tzV : List Value → St → Option (Value × St)
  | [.int .u64 x], s => if 0 ≤ x ∧ x < 18446744073709551616 then some (.int .i64 (Lib.ctz 64 x.toNat), s) else none
  | _, _ => none

theorem tz_ok {ρ : Ren} (L : Lays7.n27 P ρ) (henter : ∀ (args' : Array Value) (w : World), (callFunc (ρ.f 27) args').run P w = .ok (.enter (ρ.f 27) args') w)
    (hT : ∀ base w0, Laid.says base w0 → TabAt (ρ.g 1) Lib.deBruijn64tab w0 ∧ ρ.g 1 < base) {args : List Value} {s : St} {v : Value} {s' : St} (h : tzV args s = some (v, s')) :
    VCalls P (ρ.f 27) args s fun u t => u = v ∧ t = s' := by
  unfold tzV at h
  split at h
  · rename_i x
    split at h
    · rename_i hx
      cases h
      refine vcalls_plain henter (fun κ => .int _ _) (fun κ args' => rels_int) ?_
      intro base w0 w hl hb hle
      obtain ⟨h1, h2⟩ := hT base w0 hl
      have hx' : x = ((x.toNat : Nat) : Int) := by omega
      rw [hx']
      refine Any7.bits_TrailingZeros L x.toNat (by omega) w fun _ j hj => ?_
      rw [← h1 j hj]
      exact World.cell?_of_block (a := ⟨ρ.g 1, j, none⟩) (hb.block _ h2)
    · cases h
  · cases h

/-- The strings of cells. -/
def strs : List Value → Option (List ByteArray)
  | [] => some []
  | .string x :: r => (strs r).map (x :: ·)
  | _ :: _ => none
def joinV : List Value → St → Option (Value × St)
  | [.slice (some ⟨b, o, none⟩) n _, .string sep], s => if n = 0 then none else match loadN s b o n with
    | some vs => match strs vs with
      | some xs => if (Lib.join (xs.map (·.data.toList)) sep.data.toList).length ≤ 1048576 ∧ xs.length ≤ 1048576 then some (.string ⟨(Lib.join (xs.map (·.data.toList)) sep.data.toList).toArray⟩, s) else none
      | none => none
    | none => none
  | _, _ => none

theorem strs_get : ∀ {vs : List Value} {xs : List ByteArray}, strs vs = some xs → xs.length = vs.length ∧ ∀ (j : Nat) (x : ByteArray), xs[j]? = some x → vs[j]? = some (.string x)
  | [], xs, h => by cases h; exact ⟨rfl, fun j x e => by simp at e⟩
  | .string y :: r, xs, h => by
    simp only [strs] at h
    cases hr : strs r with
    | none => rw [hr] at h; cases h
    | some ys =>
      rw [hr] at h; cases h
      obtain ⟨h1, h2⟩ := strs_get hr
      refine ⟨by simp [h1], fun j x e => ?_⟩
      cases j with
      | zero => simp at e; subst e; rfl
      | succ j => simp at e; simpa using h2 j x e
  | .bool _ :: _, _, h | .int _ _ :: _, _, h | .float _ _ :: _, _, h | .complex _ _ _ :: _, _, h | .pointer _ :: _, _, h | .slice _ _ _ :: _, _, h | .map _ :: _, _, h | .nilFunc :: _, _, h | .func _ _ _ :: _, _, h | .nilIface :: _, _, h | .agg _ :: _, _, h | .tuple _ :: _, _, h => by cases h
  | .iface .. :: _, _, h => by cases h
  | .chan .. :: _, _, h => by cases h

theorem join_ok {ρ : Ren} (L : Lays.n156 P ρ) (X : Builder.Extra P ρ) (henter : ∀ (args' : Array Value) (w : World), (callFunc (ρ.f 156) args').run P w = .ok (.enter (ρ.f 156) args') w)
    {args : List Value} {s : St} {v : Value} {s' : St} (h : joinV args s = some (v, s')) : VCalls P (ρ.f 156) args s fun u t => u = v ∧ t = s' := by
  unfold joinV at h
  split at h
  · rename_i b o n c sep
    split at h
    · cases h
    · rename_i hn
      split at h
      · rename_i vs hvs
        split at h
        · rename_i xs hxs
          split at h
          · rename_i hlen
            cases h
            refine ⟨henter, fun ι base w0 w args' g hr => ?_⟩
            obtain ⟨hl, hr⟩ := hr
            obtain ⟨a1, a2, rfl⟩ : ∃ a1 a2, args' = #[a1, a2] := by
              obtain ⟨l⟩ := args'
              match l, hl with
              | [a1, a2], _ => exact ⟨a1, a2, rfl⟩
            have r1 := hr 0 _ _ rfl rfl
            have r2 := hr 1 _ _ rfl rfl
            cases r2
            cases r1 with
            | slice hp hnC hZ hf ho =>
              rename_i C o' p
              have ho := ho (by omega)
              obtain ⟨k1, k2⟩ := strs_get hxs
              unfold loadN at hvs
              split at hvs
              · rename_i own cs hb
                split at hvs
                · rename_i hoc
                  cases hvs
                  obtain ⟨p1, ob, e1, e2, ⟨mc, ty, fz, e3, e4, e5, e6⟩, _⟩ := g.blk b _ hb rfl
                  rw [hp] at e1; cases e1
                  subst e3
                  have hxn : xs.length = n := by rw [k1]; simp; omega
                  have hcells : ∀ (j : Nat) x, xs[j]? = some x → w.cell? ⟨p.B, o' + j, none⟩ = some (.string x) := by
                    intro j x hx
                    have hj : j < n := by rw [← hxn]; exact (List.getElem?_eq_some_iff.1 hx).1
                    have := k2 j x hx
                    rw [List.getElem?_take_of_lt hj, List.getElem?_drop] at this
                    obtain ⟨v', f1, f2⟩ := e5 _ _ this
                    cases f2
                    rw [ho, Nat.add_assoc]
                    simp only [World.cell?, e2]
                    exact f1
                  have := Any.strings_Join L X p.B o' C xs sep w hcells (Array.getElem?_eq_some_iff.1 e2).1 (by omega) (by omega) (by omega)
                  rw [hxn] at this
                  refine this.mono ?_
                  rintro e w' ⟨rfl, hbw⟩
                  exact ⟨_, _, _, ι, rfl, ⟨rfl, rfl⟩, Emb.le_refl ι, .string _, g.grow hbw⟩
                · cases hvs
              · cases hvs
          · cases h
        · cases h
      · cases h
  · cases h
end Go.Vm
