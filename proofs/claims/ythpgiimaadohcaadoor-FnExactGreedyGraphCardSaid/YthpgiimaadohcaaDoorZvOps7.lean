/- Operations that make memory or write it, further. -/
import Derived.Test.YthpgiimaadohcaaDoorZvOps6
namespace Go.Proofs.YthpgiimaadohcaaDoor.Zv
open Go

section
variable {P : Program} {nro : Nat} {φ : Em} {h : VH} {w : World} {env : List Value} {a : Act} {dst : Option Tmp} {ty : TypeId} {pos : String} {after : Array Edge} {guard : Option (Nat × Bool)} {v : Value} {h' : VH} {call : VCall} {op : VOp}

/-- A new object, as an operation's end. -/
theorem OkRes.push (hR : RH nro φ h.ph w) (w1 : World) (o : VO) (C : Array Value) (ty : TypeId) (hw : w1.heap = w.heap.push (.cells C ty (0, 0))) (hrest : w1.os = w.os ∧ w1.tape = w.tape ∧ w1.output = w.output)
    (hC : ∀ (j : Nat) v, o.cells[j]? = some v → ∃ v', C[j]? = some v' ∧ CellR φ h.ph v v') (v v' : Value) (r : Result Next) (hr : r = .ok (.value v') w1)
    (hv : AtomR (setE φ h.length ⟨w.heap.size, 0, C.size⟩) (VH.ph (h ++ [o])) v v') : OkRes nro φ h.ph w v (h ++ [o]) r := by
  obtain ⟨h1, h2⟩ := hR.push o C ty hw hrest hC
  exact ⟨_, w1, h1, h2, .inl ⟨v', hr, hv.top⟩⟩

theorem ph_new (h : VH) (o : VO) : VH.ph (h ++ [o]) h.length = some o := by simp [VH.ph]
theorem setE_new (φ : Em) (n : Nat) (b : Blk) : setE φ n b n = b := by simp [setE]

theorem s_box (t : TypeId) (x : Operand) (hc : compOp P ⟨dst, .box t x, ty, pos, after, guard⟩ = some op) (hR : RH nro φ h.ph w) (hE : RE φ h.ph env a)
    (hv : vop call nro (vev env) h op = some (v, h')) : OkRes nro φ h.ph w v h' ((execOp a.eval ⟨dst, .box t x, ty, pos, after, guard⟩).run P w) := by
  simp only [compOp] at hc
  split at hc
  · rename_i hx
    have ex := hE.ev hx
    split at hc
    · rename_i n hn
      cases hc
      simp only [vop] at hv
      split at hv
      · rename_i hcond
        obtain ⟨hlen, hj⟩ := hcond
        simp only [Option.some.injEq, Prod.mk.injEq] at hv
        obtain ⟨rfl, rfl⟩ := hv
        have hcr := ex.cells hj
        refine OkRes.push hR (w.alloc (.cells (a.eval x).cells t (0, 0))) _ (a.eval x).cells t rfl ⟨rfl, rfl, rfl⟩ (fun j v hv => hcr.get_toList j v hv) _ (.pointer (some ⟨w.heap.size, 0, none⟩)) _ ?_ ?_
        · simp [execOp, Instr.box, newVar, newRow]
        · have := AtomR.ptr (φ := setE φ h.length ⟨w.heap.size, 0, (a.eval x).cells.size⟩) (k := 0) (tot := n) (ph_new h ⟨0, vcells (vev env x)⟩) hlen.symm
          rw [setE_new] at this
          exact this
      · cases hv
    · cases hc
  · cases hc

theorem zerosOf_spec {t : TypeId} {z : List Value} (hz : zerosOf P t = some z) : ∃ i zv, P.info? t = some i ∧ i.zero = some zv ∧ zv.cells.toList = z ∧ zv.cells.size = i.size ∧ closedV zv = true := by
  unfold zerosOf at hz
  split at hz
  · rename_i i hi
    split at hz
    · rename_i zv hzv
      split at hz
      · rename_i hcond
        simp only [Bool.and_eq_true, beq_iff_eq] at hcond
        cases hz
        exact ⟨i, zv, hi, hzv, rfl, hcond.2, hcond.1⟩
      · cases hz
    · cases hz
  · cases hz

theorem closed_cells {φ : Em} {L : PH} {v : Value} (hc : closedV v = true) : All2 (CellR φ L) v.cells.toList v.cells.toList := by
  have hr : ValR φ L v v := ValR.closed hc
  cases hr with
  | cell hr =>
    cases v <;> first | exact .cons hr .nil | skip
    all_goals first | exact .cons hr .nil | (cases hr with | atom hr => cases hr)
  | agg hr => exact hr

theorem s_alloc (t : TypeId) (hc : compOp P ⟨dst, .alloc t, ty, pos, after, guard⟩ = some op) (hR : RH nro φ h.ph w)
    (hv : vop call nro (vev env) h op = some (v, h')) : OkRes nro φ h.ph w v h' ((execOp a.eval ⟨dst, .alloc t, ty, pos, after, guard⟩).run P w) := by
  simp only [compOp] at hc
  split at hc
  · rename_i z hz
    cases hc
    obtain ⟨i, zv, hi, hzv, rfl, hsz, hcl⟩ := zerosOf_spec hz
    simp only [vop, Option.some.injEq, Prod.mk.injEq] at hv
    obtain ⟨rfl, rfl⟩ := hv
    refine OkRes.push hR (w.alloc (.cells zv.cells t (0, 0))) _ zv.cells t rfl ⟨rfl, rfl, rfl⟩ (fun j v hv => (closed_cells hcl).get_toList j v hv) _ (.pointer (some ⟨w.heap.size, 0, none⟩)) _ ?_ ?_
    · simp [execOp, Instr.alloc, zeroValue, run_info hi, hzv, newVar, newRow]
    · have := AtomR.ptr (φ := setE φ h.length ⟨w.heap.size, 0, zv.cells.size⟩) (k := 0) (tot := zv.cells.toList.length) (ph_new h ⟨0, zv.cells.toList⟩) rfl
      rw [setE_new] at this
      exact this
  · cases hc

theorem run_mapM_fields {fields : Array Field} (hs : (fields.all fun f => (sizeT P f.type).isSome) = true) :
    (fields.mapM (fun f => do pure (f.offset, ← sizeOf f.type) : Field → Sem (Nat × Nat))).run P w = .ok (fields.map fun f => (f.offset, (sizeT P f.type).getD 0)) w := by
  rw [Array.mapM_eq_mapM_toList]
  have key : ∀ l : List Field, (∀ f ∈ l, (sizeT P f.type).isSome = true) → (l.mapM (fun f => do pure (f.offset, ← sizeOf f.type) : Field → Sem (Nat × Nat))).run P w = .ok (l.map fun f => (f.offset, (sizeT P f.type).getD 0)) w := by
    intro l
    induction l with
    | nil => intro _; rfl
    | cons f l ih =>
      intro hl
      obtain ⟨n, hn⟩ := Option.isSome_iff_exists.mp (hl f (by simp))
      simp only [List.mapM_cons, Sem.run_bind, run_size hn, Result.andThen_ok, Sem.run_pure, ih fun g hg => hl g (by simp [hg])]
      simp [hn]
  simp only [Sem.run_map]
  rw [key]
  · simp only [Result.andThen_ok]
    congr 1
    apply Array.ext'
    simp
  · intro f hf
    rw [Array.all_eq_true_iff_forall_mem] at hs
    exact hs f (by simpa using hf)

theorem s_build (t : TypeId) (parts : Array (Nat × Operand)) (hc : compOp P ⟨dst, .build t parts, ty, pos, after, guard⟩ = some op) (hR : RH nro φ h.ph w) (hE : RE φ h.ph env a)
    (hv : vop call nro (vev env) h op = some (v, h')) : OkRes nro φ h.ph w v h' ((execOp a.eval ⟨dst, .build t parts, ty, pos, after, guard⟩).run P w) := by
  simp only [compOp] at hc
  split at hc
  · rename_i z pl hz hpl
    split at hc
    · rename_i hs
      obtain ⟨ps, hps, rfl⟩ := mapS hc
      obtain ⟨i, zv, hi, hzv, rfl, hsz, hcl⟩ := zerosOf_spec hz
      simp only [vop] at hv
      obtain ⟨cs, hf, hv⟩ := mapS hv
      simp only [Prod.mk.injEq] at hv
      obtain ⟨rfl, rfl⟩ := hv
      unfold placesOf at hpl
      split at hpl
      · rename_i fields hu
        simp only [structSizes, hu] at hs
        have e : (fun i : Nat => ((fields.map fun (f : Field) => (f.offset, (sizeT P f.type).getD 0))[i]? : Option (Nat × Nat))) = pl := by
          cases hpl
          funext j
          rw [Array.getElem?_map]
          cases hfj : fields[j]? with
          | none => rfl
          | some f =>
            rw [Array.all_eq_true_iff_forall_mem] at hs
            have hm : f ∈ fields := Array.mem_of_getElem? hfj
            obtain ⟨n, hn⟩ := Option.isSome_iff_exists.mp (hs f hm)
            simp [hn]
        clear hpl
        obtain ⟨cells', h1, h2⟩ := fill_rel hE _ parts.toList ps _ zv.cells cs hps (closed_cells hcl) hf
        refine .quiet (v' := .agg cells') hR ?_ (.val (.agg (by simpa using h2)))
        simp only [execOp, Instr.build, Sem.run_bind, zeroValue, run_info hi, Result.andThen_ok, hzv, Sem.run_pure, run_und hu, run_mapM_fields hs]
        rw [e]
        rw [Array.toList_map, h1]
        rfl
      · rename_i len e hu
        obtain ⟨n, hn, rfl⟩ := mapS hpl
        obtain ⟨cells', h1, h2⟩ := fill_rel hE _ parts.toList ps _ zv.cells cs hps (closed_cells hcl) hf
        refine .quiet (v' := .agg cells') hR ?_ (.val (.agg (by simpa using h2)))
        simp only [execOp, Instr.build, Sem.run_bind, zeroValue, run_info hi, Result.andThen_ok, hzv, Sem.run_pure, run_und hu, run_size hn]
        rw [Array.toList_map, h1]
        rfl
      · cases hpl
    · cases hc
  · cases hc

theorem elemOf_spec {t e : TypeId} (he : Zv.elemOf P t = some e) : P.underlying t = some (.slice e) := by
  unfold Zv.elemOf at he
  split at he
  · cases he; assumption
  · cases he

theorem zero_rel {φ : Em} {L : PH} (zv : Value) (hcl : closedV zv = true) (n : Nat) :
    All2 (CellR φ L) (List.replicate n zv.cells.toList).flatten ((Array.range (n * zv.cells.size)).map (zv.cells[· % zv.cells.size]!)).toList := by
  rcases Nat.eq_zero_or_pos zv.cells.size with h0 | hp
  · have e1 : zv.cells.toList = [] := by simpa using h0
    rw [e1, h0]
    simp
    exact .nil
  · refine All2.of_get (by simp) fun j x y hx hy => ?_
    have hjl : j < n * zv.cells.size := by
      have := (List.getElem?_eq_some_iff.mp hy).1
      simpa using this
    have hmod : j % zv.cells.size < zv.cells.size := Nat.mod_lt _ hp
    have ey : y = zv.cells[j % zv.cells.size] := by
      simp [hjl] at hy
      rw [← hy, getElem!_pos zv.cells _ hmod]
    have ex : zv.cells.toList[j % zv.cells.size]? = some x := by
      have key : ∀ (m j : Nat), j < m * zv.cells.size → ((List.replicate m zv.cells.toList).flatten)[j]? = zv.cells.toList[j % zv.cells.size]? := by
        intro m
        induction m with
        | zero => intro j hj; omega
        | succ m ih =>
          intro j hj
          rw [List.replicate_succ, List.flatten_cons]
          by_cases hlt : j < zv.cells.size
          · rw [List.getElem?_append_left (by simpa using hlt), Nat.mod_eq_of_lt hlt]
          · rw [List.getElem?_append_right (by simp; omega)]
            rw [Nat.succ_mul] at hj
            simp only [Array.length_toList]
            rw [ih _ (by omega)]
            congr 1
            conv => rhs; rw [show j = (j - zv.cells.size) + zv.cells.size by omega, Nat.add_mod_right]
      rw [key n j hjl] at hx
      exact hx
    have := closed_cells (φ := φ) (L := L) hcl
    obtain ⟨y', hy', hr⟩ := this.get' _ _ ex
    have e2 : zv.cells.toList[j % zv.cells.size]? = some zv.cells[j % zv.cells.size] := by simp [hmod]
    rw [e2] at hy'
    cases hy'
    rw [ey]
    exact hr
end
end Go.Proofs.YthpgiimaadohcaaDoor.Zv
