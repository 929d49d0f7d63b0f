/- Operations, further: loads, slices of slices, literals of structs. -/
import Derived.Test.YthpgiimaadohcaaDoorZvOps3
namespace Go.Proofs.YthpgiimaadohcaaDoor.Zv
open Go

theorem All2.of_get {α β : Type} {R : α → β → Prop} : ∀ {as : List α} {bs : List β}, as.length = bs.length → (∀ (j : Nat) x y, as[j]? = some x → bs[j]? = some y → R x y) → All2 R as bs
  | [], [], _, _ => .nil
  | [], _ :: _, h, _ => by simp at h
  | _ :: _, [], h, _ => by simp at h
  | a :: as, b :: bs, h, hr => .cons (hr 0 a b rfl rfl) (All2.of_get (by simpa using h) fun j x y hx hy => hr (j + 1) x y (by simpa using hx) (by simpa using hy))

/-- The model's cells of a stretch of an object. -/
theorem RH.read {nro : Nat} {φ : Em} {L : PH} {w : World} (hR : RH nro φ L w) {i : Nat} {o : VO} (ho : L i = some o) (k n : Nat) (hk : k + n ≤ o.cells.length) :
    ∃ cs', All2 (CellR φ L) ((o.cells.drop k).take n) cs' ∧ cs'.length = n ∧ ∀ (j : Nat) v, cs'[j]? = some v → w.cell? ⟨(φ i).b, (φ i).off + k + j, none⟩ = some v := by
  obtain ⟨C, ty, fz, hb, hc, _⟩ := hR.cells i o ho
  cases n with
  | zero => exact ⟨[], .nil, rfl, fun j v h => by simp at h⟩
  | succ m =>
    have hl : (φ i).off + (k + m) < C.size := by
      obtain ⟨v', hv', _⟩ := hc (k + m) o.cells[k + m] (by first | (simp; done) | (simp; omega))
      exact (Array.getElem?_eq_some_iff.mp hv').1
    refine ⟨(C.toList.drop ((φ i).off + k)).take (m + 1), ?_, by first | (simp; done) | (simp; omega), ?_⟩
    · refine All2.of_get (by first | (simp; done) | (simp; omega)) fun j x y hx hy => ?_
      simp only [List.getElem?_take, List.getElem?_drop] at hx hy
      split at hx
      · rename_i hj
        rw [if_pos hj] at hy
        obtain ⟨v', hv', hr⟩ := hc (k + j) x hx
        rw [show (φ i).off + (k + j) = (φ i).off + k + j by omega] at hv'
        have : C[(φ i).off + k + j]? = some y := by simpa using hy
        rw [this] at hv'
        cases hv'
        exact hr
      · cases hx
    · intro j v hv
      simp only [List.getElem?_take, List.getElem?_drop] at hv
      split at hv
      · have : C[(φ i).off + k + j]? = some v := by simpa using hv
        simp [World.cell?, hb, this]
      · cases hv

section
variable {P : Program} {nro : Nat} {φ : Em} {h : VH} {w : World} {env : List Value} {a : Act} {dst : Option Tmp} {ty : TypeId} {pos : String} {after : Array Edge} {guard : Option (Nat × Bool)} {v : Value} {h' : VH} {call : VCall} {op : VOp}

theorem vget_spec {h : VH} {p : Addr} {n : Nat} {cs : List Value} (hg : vget h p n = some cs) : ∃ o, h[p.block]? = some o ∧ p.spot = some o.cells.length ∧ p.off + n ≤ o.cells.length ∧ cs = (o.cells.drop p.off).take n := by
  unfold vget at hg
  split at hg
  · rename_i o ho
    split at hg
    · rename_i hc
      cases hg
      exact ⟨o, ho, hc.1, hc.2, rfl⟩
    · cases hg
  · cases hg

/-- What a load of an address comes to. -/
theorem run_loadVar_of {t : TypeId} {agg : Bool} {n : Nat} {p : Value} {v v' : Value} (ha : isAggT P t = some agg) (hn : sizeT P t = some n) (h1 : agg = false → n = 1) (hR : RH nro φ h.ph w) (hp : TopR φ h.ph p v')
    (hl : vload agg n h p = some v) : ∃ q u, v' = .pointer (some q) ∧ (loadVar t q).run P w = .ok u w ∧ ValR φ h.ph v u := by
  unfold vload at hl
  split at hl
  · rename_i p
    split at hl
    · rename_i cs hg
      obtain ⟨o, ho, hs, hk, rfl⟩ := vget_spec hg
      obtain ⟨i, k, sp⟩ := p
      simp only at ho hs hk hg hl
      subst hs
      have e := hp.inv_ptr.inv_ptr_some ho rfl
      obtain ⟨cs', hr, hlen, hcell⟩ := hR.read ho k n hk
      refine ⟨⟨(φ i).b, (φ i).off + k, none⟩, ?_⟩
      cases agg with
      | true =>
        simp only [if_true, Option.some.injEq] at hl
        subst hl
        refine ⟨.agg cs'.toArray, e, ?_, .agg (by simpa using hr)⟩
        have := run_loadCells_list (P := P) w ⟨(φ i).b, (φ i).off + k, none⟩ cs' fun j v hv => by rw [Addr.add_mk]; exact hcell j v hv
        rw [hlen] at this
        simp [loadVar, run_isAgg ha, run_size hn, this]
      | false =>
        simp only [Bool.false_eq_true, if_false] at hl
        have h1 := h1 rfl
        subst h1
        split at hl
        · rename_i u hu
          cases hl
          rw [hu] at hr
          cases hr with
          | cons hr t =>
            rename_i y ys
            cases t
            refine ⟨y, e, ?_, .cell hr⟩
            have := hcell 0 y rfl
            simp only [Nat.add_zero] at this
            simp [loadVar, run_isAgg ha, this]
        · cases hl
    · cases hl
  · cases hl

theorem s_load (t : TypeId) (x : Operand) (hc : compOp P ⟨dst, .load t x, ty, pos, after, guard⟩ = some op) (hR : RH nro φ h.ph w) (hE : RE φ h.ph env a)
    (hv : vop call nro (vev env) h op = some (v, h')) : OkRes nro φ h.ph w v h' ((execOp a.eval ⟨dst, .load t x, ty, pos, after, guard⟩).run P w) := by
  simp only [compOp] at hc
  split at hc
  · rename_i hx
    have ex := hE.ev hx
    split at hc
    · rename_i n ha hn
      cases hc
      simp only [vop] at hv
      obtain ⟨hv1, rfl⟩ := prodS hv
      obtain ⟨q, u, e, hr, hu⟩ := run_loadVar_of ha hn (fun h => by cases h) hR ex hv1
      exact .quiet hR (by simp [execOp, Instr.loadAt, e, Instr.sureAddr, hr]) (.val hu)
    · rename_i ha hn
      cases hc
      simp only [vop] at hv
      obtain ⟨hv1, rfl⟩ := prodS hv
      obtain ⟨q, u, e, hr, hu⟩ := run_loadVar_of ha hn (fun _ => rfl) hR ex hv1
      exact .quiet hR (by simp [execOp, Instr.loadAt, e, Instr.sureAddr, hr]) (.val hu)
    · cases hc
  · cases hc

theorem run_bound {k : IntKind} {i : Int} {y : Nat} {code : BoundsCode} (h0 : 0 ≤ i) (h1 : i ≤ y) : (Instr.sliceBound (.int k i) y code).run P w = .ok i.toNat w := by
  simp [Instr.sliceBound, asIntOf, h0, h1]

theorem s_slice (t : TypeId) (x : Operand) (lo hi : Option Operand) (hc : compOp P ⟨dst, .slice t x lo hi none, ty, pos, after, guard⟩ = some op) (hR : RH nro φ h.ph w) (hE : RE φ h.ph env a)
    (hv : vop call nro (vev env) h op = some (v, h')) : OkRes nro φ h.ph w v h' ((execOp a.eval ⟨dst, .slice t x lo hi none, ty, pos, after, guard⟩).run P w) := by
  have bnd : ∀ (y : Option Operand) (d : Value), okO y = true → ∀ k i, (y.map (vev env)).getD d = .int k i → (y = none ∧ d = .int k i) ∨ ∃ z, y = some z ∧ a.eval z = .int k i := by
    intro y d hy k i e
    cases y with
    | none => exact .inl ⟨rfl, e⟩
    | some z =>
      have ez := hE.ev hy
      simp only [Option.map_some, Option.getD_some] at e
      rw [e] at ez
      exact .inr ⟨z, rfl, ez.inv_int⟩
  simp only [compOp] at hc
  split at hc
  · rename_i hx
    simp only [Bool.and_eq_true] at hx
    obtain ⟨⟨hx, hlo⟩, hhi⟩ := hx
    have ex := hE.ev hx
    split at hc
    · rename_i e he
      split at hc
      · rename_i sz hsz
        split at hc
        · rename_i h1
          cases hc
          simp only [vop] at hv
          obtain ⟨hv1, rfl⟩ := prodS hv
          unfold vslice at hv1
          split at hv1
          · rename_i e1
            rw [e1] at ex
            have e2 : a.eval x = .slice none 0 0 := by
              have := ex.inv_sl
              generalize a.eval x = z at this
              cases this
              rfl
            split at hv1
            · rename_i k1 k2 el eh
              cases hv1
              refine .quiet (v' := .slice none 0 0) hR ?_ AtomR.slN.top
              rcases bnd lo _ hlo _ _ el with ⟨rfl, _⟩ | ⟨zl, rfl, ezl⟩ <;> rcases bnd hi _ hhi _ _ eh with ⟨rfl, _⟩ | ⟨zh, rfl, ezh⟩ <;>
                simp [execOp, Instr.sliceAt, Instr.slice, run_und he, Instr.sliceBounds, run_size hsz, *, run_bound (P := P) (w := w) (i := 0) (y := 0) (Int.le_refl 0) (by simp)]
            · cases hv1
          · rename_i p n tot e1
            rw [e1] at ex
            have hs := ex.inv_sl
            obtain ⟨q, k', rfl⟩ := hs.spot_sl
            split at hv1
            · rename_i o ho
              split at hv1
              · rename_i hcond
                obtain ⟨hosz, htot⟩ := hcond
                subst hosz
                obtain ⟨r, c, e3, hk, h1', hcn, hcap, ha⟩ := hs.inv_sl_some ho htot
                split at hv1
                · rename_i k1 l k2 u el eh
                  split at hv1
                  · rename_i hb
                    obtain ⟨hl0, hlu, hun⟩ := hb
                    cases hv1
                    have hle : l.toNat ≤ u.toNat := by omega
                    have hue : u.toNat ≤ n := by omega
                    refine .quiet (v' := .slice (some (if c = l.toNat then r else r.add (l.toNat * o.sz))) (u.toNat - l.toNat) (c - l.toNat)) hR ?_ (AtomR.sl (o := o) ho htot ?_ h1' (by omega) ?_ ?_).top
                    · have hbl : ∀ code, (Instr.sliceBound (.int k1 l) u.toNat code).run P w = .ok l.toNat w := fun code => run_bound hl0 (by omega)
                      have hbh : ∀ code, (Instr.sliceBound (.int k2 u) c code).run P w = .ok u.toNat w := fun code => run_bound (by omega) (by omega)
                      rcases bnd lo _ hlo _ _ el with ⟨rfl, el2⟩ | ⟨zl, rfl, ezl⟩ <;> rcases bnd hi _ hhi _ _ eh with ⟨rfl, eh2⟩ | ⟨zh, rfl, ezh⟩
                      · cases el2; cases eh2
                        simp [execOp, Instr.sliceAt, Instr.slice, run_und he, e3, Instr.sliceBounds, run_size hsz]
                        split <;> simp_all
                      · cases el2
                        simp [execOp, Instr.sliceAt, Instr.slice, run_und he, e3, Instr.sliceBounds, run_size hsz, ezh, hbh]
                        split <;> simp_all
                      · cases eh2
                        have hbl : ∀ code, (Instr.sliceBound (.int k1 l) n code).run P w = .ok l.toNat w := fun code => run_bound hl0 (by omega)
                        simp [execOp, Instr.sliceAt, Instr.slice, run_und he, e3, Instr.sliceBounds, run_size hsz, ezl, hbl]
                        split <;> simp_all
                      · simp [execOp, Instr.sliceAt, Instr.slice, run_und he, e3, Instr.sliceBounds, run_size hsz, ezl, ezh, hbl, hbh]
                        split <;> simp_all
                    · have : k' + l.toNat * o.sz + (u.toNat - l.toNat) * o.sz ≤ k' + n * o.sz := by
                        rw [Nat.sub_mul, Nat.add_assoc]
                        have h3 : l.toNat * o.sz ≤ u.toNat * o.sz := Nat.mul_le_mul_right _ hle
                        have h4 : u.toNat * o.sz ≤ n * o.sz := Nat.mul_le_mul_right _ hue
                        omega
                      exact Nat.le_trans this hk
                    · have h3 : l.toNat * o.sz ≤ c * o.sz := Nat.mul_le_mul_right _ (by omega)
                      show k' + l.toNat * o.sz + (c - l.toNat) * o.sz ≤ (φ q).cap
                      rw [Nat.sub_mul]
                      omega
                    · by_cases hcl : c = l.toNat
                      · exact .inl (by omega)
                      · have hr : r = ⟨(φ q).b, (φ q).off + k', none⟩ := ha.resolve_left (by omega)
                        subst hr
                        rw [if_neg hcl, Addr.add_mk]
                        exact .inr (by simp [Nat.add_assoc])
                  · cases hv1
                · cases hv1
              · cases hv1
            · cases hv1
          · cases hv1
        · cases hc
      · cases hc
    · rename_i he
      cases hc
      simp only [vop] at hv
      obtain ⟨hv1, rfl⟩ := prodS hv
      unfold vsliceStr at hv1
      split at hv1
      · rename_i s e1
        rw [e1] at ex
        have e2 := ex.inv_str
        split at hv1
        · rename_i k1 l k2 u el eh
          split at hv1
          · rename_i hb
            obtain ⟨hl0, hlu, hun⟩ := hb
            cases hv1
            refine .quiet (v' := .string (s.extract l.toNat u.toNat)) hR ?_ (AtomR.str _).top
            have hbl : ∀ code, (Instr.sliceBound (.int k1 l) u.toNat code).run P w = .ok l.toNat w := fun code => run_bound hl0 (by omega)
            have hbh : ∀ code, (Instr.sliceBound (.int k2 u) s.size code).run P w = .ok u.toNat w := fun code => run_bound (by omega) (by omega)
            rcases bnd lo _ hlo _ _ el with ⟨rfl, el2⟩ | ⟨zl, rfl, ezl⟩ <;> rcases bnd hi _ hhi _ _ eh with ⟨rfl, eh2⟩ | ⟨zh, rfl, ezh⟩
            · cases el2; cases eh2
              simp [execOp, Instr.sliceAt, Instr.slice, run_und he, e2, Instr.sliceBounds]
            · cases el2
              simp [execOp, Instr.sliceAt, Instr.slice, run_und he, e2, Instr.sliceBounds, ezh, hbh]
            · cases eh2
              have hbl : ∀ code, (Instr.sliceBound (.int k1 l) s.size code).run P w = .ok l.toNat w := fun code => run_bound hl0 (by omega)
              simp [execOp, Instr.sliceAt, Instr.slice, run_und he, e2, Instr.sliceBounds, ezl, hbl]
            · simp [execOp, Instr.sliceAt, Instr.slice, run_und he, e2, Instr.sliceBounds, ezl, ezh, hbl, hbh]
          · cases hv1
        · cases hv1
      · cases hv1
    · cases hc
  · cases hc
end
end Go.Proofs.YthpgiimaadohcaaDoor.Zv
