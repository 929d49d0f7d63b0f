/- Operations that make memory or write it, the last of them. -/
import Derived.Test.YthpgiimaadohcaaDoorZvOps7
namespace Go.Proofs.YthpgiimaadohcaaDoor.Zv
open Go

section
variable {P : Program} {nro : Nat} {φ : Em} {h : VH} {w : World} {env : List Value} {a : Act} {dst : Option Tmp} {ty : TypeId} {pos : String} {after : Array Edge} {guard : Option (Nat × Bool)} {v : Value} {h' : VH} {call : VCall} {op : VOp}

theorem vfill_length : ∀ (ps : List (Nat × Nat × Value)) (cs res : List Value), vfill cs ps = some res → res.length = cs.length
  | [], cs, res, hf => by cases hf; rfl
  | (off, n, v) :: ps, cs, res, hf => by
    simp only [vfill] at hf
    split at hf
    · rename_i hcond
      rw [vfill_length ps _ _ hf]
      simp [splice]
      omega
    · cases hf

theorem s_buildSlice (t : TypeId) (n : Nat) (parts : Array (Nat × Operand)) (hc : compOp P ⟨dst, .buildSlice t n parts, ty, pos, after, guard⟩ = some op) (hR : RH nro φ h.ph w) (hE : RE φ h.ph env a)
    (hv : vop call nro (vev env) h op = some (v, h')) : OkRes nro φ h.ph w v h' ((execOp a.eval ⟨dst, .buildSlice t n parts, ty, pos, after, guard⟩).run P w) := by
  simp only [compOp] at hc
  split at hc
  · rename_i e he
    split at hc
    · rename_i z i hz hi
      split at hc
      · rename_i hcond
        simp only [Bool.and_eq_true, decide_eq_true_eq] at hcond
        obtain ⟨h1, h24⟩ := hcond
        obtain ⟨ps, hps, rfl⟩ := mapS hc
        obtain ⟨i', zv, hi', hzv, rfl, hsz, hcl⟩ := zerosOf_spec hz
        rw [hi] at hi'
        cases hi'
        simp only [vop] at hv
        obtain ⟨cs, hf, hv⟩ := mapS hv
        simp only [Prod.mk.injEq] at hv
        obtain ⟨rfl, rfl⟩ := hv
        have hu := elemOf_spec he
        have hzr := zero_rel (φ := φ) (L := h.ph) zv hcl n
        obtain ⟨cells', hfill, hrel⟩ := fill_rel hE _ parts.toList ps _ _ cs hps hzr hf
        have hlen : cs.length = n * i.size := by
          rw [vfill_length _ _ _ hf]
          simp [hsz]
        refine OkRes.push hR (w.alloc (.cells cells' e (0, 0))) ⟨i.size, cs⟩ cells' e rfl ⟨rfl, rfl, rfl⟩ (fun j v hv => hrel.get_toList j v hv) _ (.slice (some ⟨w.heap.size, 0, none⟩) n n) _ ?_ ?_
        · have h24' : ¬ (n * i.size > 2 ^ 24) := by omega
          by_cases h0 : n * i.size = 0
          · have hza : (Array.range (n * i.size)).map (fun x => (#[] : Array Value)[x % (#[] : Array Value).size]!) = (Array.range (n * zv.cells.size)).map (zv.cells[· % zv.cells.size]!) := by
              rw [hsz, h0]
              apply Array.ext'
              simp
            rw [← hza] at hfill
            simp only [execOp, Instr.buildSlice, Sem.run_bind, run_und hu, Result.andThen_ok, sizeOf, run_info hi, Sem.run_pure, h24', if_false, if_pos h0]
            rw [Array.toList_map, hfill]
            simp [newRow]
          · rw [hsz] at hfill
            simp only [execOp, Instr.buildSlice, Sem.run_bind, run_und hu, Result.andThen_ok, sizeOf, run_info hi, Sem.run_pure, h24', if_false, if_neg h0, zeroValue, hzv]
            rw [Array.toList_map, hsz, hfill]
            simp [newRow]
        · have := AtomR.sl (φ := setE φ h.length ⟨w.heap.size, 0, cells'.size⟩) (k := 0) (n := n) (c := n) (tot := (List.replicate n zv.cells.toList).flatten.length) (a := ⟨w.heap.size, 0, none⟩) (ph_new h ⟨i.size, cs⟩) (by simp [hlen, hsz]) (by simp [hsz]) h1 (Nat.le_refl _)
            (by rw [setE_new]; have := hrel.length'; simp at this; simp; omega) (.inr (by rw [setE_new]))
          exact this
      · cases hc
    · cases hc
  · cases hc

theorem wrap_i64 (n : Int) : IntKind.i64.wrap n = if n % 18446744073709551616 ≥ 9223372036854775808 then n % 18446744073709551616 - 18446744073709551616 else n % 18446744073709551616 := by
  simp [IntKind.wrap, IntKind.bits, IntKind.signed]

theorem wrap_small {n : Int} (h0 : 0 ≤ n) (h1 : n ≤ 2 ^ 47) : IntKind.i64.wrap n = n := by
  rw [wrap_i64]
  split <;> omega

theorem s_makeSlice (t : TypeId) (l c : Operand) (hc : compOp P ⟨dst, .makeSlice t l c, ty, pos, after, guard⟩ = some op) (hR : RH nro φ h.ph w) (hE : RE φ h.ph env a)
    (hv : vop call nro (vev env) h op = some (v, h')) : OkRes nro φ h.ph w v h' ((execOp a.eval ⟨dst, .makeSlice t l c, ty, pos, after, guard⟩).run P w) := by
  simp only [compOp] at hc
  split at hc
  · rename_i hx
    simp only [Bool.and_eq_true] at hx
    have el := hE.ev hx.1
    have ec := hE.ev hx.2
    split at hc
    · rename_i e he
      split at hc
      · rename_i z i hz hi
        split at hc
        · rename_i hcond
          simp only [Bool.and_eq_true, decide_eq_true_eq] at hcond
          obtain ⟨h1, h20⟩ := hcond
          cases hc
          obtain ⟨i', zv, hi', hzv, rfl, hsz, hcl⟩ := zerosOf_spec hz
          rw [hi] at hi'
          cases hi'
          simp only [vop] at hv
          split at hv
          · rename_i n m e1 e2
            rw [e1] at el
            rw [e2] at ec
            split at hv
            · rename_i hcond
              obtain ⟨rfl, h0, hb, hn⟩ := hcond
              simp only [Option.some.injEq, Prod.mk.injEq] at hv
              obtain ⟨rfl, rfl⟩ := hv
              have hu := elemOf_spec he
              have hzr := zero_rel (φ := φ) (L := h.ph) zv hcl n.toNat
              have hwr := wrap_small h0 hn
              refine OkRes.push hR (w.alloc (.cells ((Array.range (n.toNat * zv.cells.size)).map (zv.cells[· % zv.cells.size]!)) e (0, 0))) ⟨i.size, (List.replicate n.toNat zv.cells.toList).flatten⟩ ((Array.range (n.toNat * zv.cells.size)).map (zv.cells[· % zv.cells.size]!)) e rfl ⟨rfl, rfl, rfl⟩ (fun j v hv => hzr.get_toList j v hv) _ (.slice (some ⟨w.heap.size, 0, none⟩) n.toNat n.toNat) _ ?_ ?_
              · have h4 : ¬ ((i.bytes : Int) * n > 2 ^ 48) := by omega
                have h5 : ¬ n < 0 := by omega
                have h6 : ¬ n > n := by omega
                by_cases h0 : n.toNat * i.size = 0
                · have hza : (Array.range (n.toNat * i.size)).map (fun x => (#[] : Array Value)[x % (#[] : Array Value).size]!) = (Array.range (n.toNat * zv.cells.size)).map (zv.cells[· % zv.cells.size]!) := by
                    rw [hsz, h0]
                    apply Array.ext'
                    simp
                  rw [← hza]
                  simp only [execOp, Instr.makeSlice, Sem.run_bind, run_und hu, Result.andThen_ok, el.inv_int, ec.inv_int, asInt, asIntOf, Sem.run_pure, run_info hi, hwr, h4, h5, h6, decide_false, Bool.or_false, Bool.false_eq_true, if_false, run_askRoom, sizeOf, if_pos h0]
                  simp [newRow]
                · simp only [execOp, Instr.makeSlice, Sem.run_bind, run_und hu, Result.andThen_ok, el.inv_int, ec.inv_int, asInt, asIntOf, Sem.run_pure, run_info hi, hwr, h4, h5, h6, decide_false, Bool.or_false, Bool.false_eq_true, if_false, run_askRoom, sizeOf, if_neg h0, zeroValue, hzv]
                  rw [hsz]
                  simp [newRow]
              · have hlen : (List.replicate n.toNat zv.cells.toList).flatten.length = n.toNat * i.size := by simp [hsz]
                have := AtomR.sl (φ := setE φ h.length ⟨w.heap.size, 0, ((Array.range (n.toNat * zv.cells.size)).map (zv.cells[· % zv.cells.size]!)).size⟩) (k := 0) (n := n.toNat) (c := n.toNat) (tot := n.toNat * i.size) (a := ⟨w.heap.size, 0, none⟩) (ph_new h ⟨i.size, (List.replicate n.toNat zv.cells.toList).flatten⟩) hlen.symm (by simp) h1 (Nat.le_refl _)
                  (by rw [setE_new]; simp [hsz]) (.inr (by rw [setE_new]))
                exact this
            · cases hv
          · cases hv
        · cases hc
      · cases hc
    · cases hc
  · cases hc

theorem splice_length {k : Nat} {vs cs : List Value} (h : k + vs.length ≤ cs.length) : (splice k vs cs).length = cs.length := by
  unfold splice
  simp
  omega

theorem s_store (t : TypeId) (p x : Operand) (hc : compOp P ⟨dst, .store t p x, ty, pos, after, guard⟩ = some op) (hR : RH nro φ h.ph w) (hE : RE φ h.ph env a)
    (hv : vop call nro (vev env) h op = some (v, h')) : OkRes nro φ h.ph w v h' ((execOp a.eval ⟨dst, .store t p x, ty, pos, after, guard⟩).run P w) := by
  simp only [compOp] at hc
  split at hc
  · rename_i hx
    simp only [Bool.and_eq_true] at hx
    have ep := hE.ev hx.1
    have ex := hE.ev hx.2
    split at hc
    · rename_i n hn
      cases hc
      simp only [vop] at hv
      obtain ⟨h1, hst, hv⟩ := mapS hv
      simp only [Prod.mk.injEq] at hv
      obtain ⟨rfl, rfl⟩ := hv
      unfold vstore at hst
      split at hst
      · rename_i q e1
        rw [e1] at ep
        obtain ⟨i, k, tot, rfl⟩ := ep.inv_ptr.spot_ptr
        split at hst
        · rename_i o ho
          split at hst
          · rename_i hcond
            obtain ⟨hni, hspot, hle, hlen, hj⟩ := hcond
            simp only [Option.some.injEq] at hspot
            subst hspot
            cases hst
            have e2 := ep.inv_ptr.inv_ptr_some ho rfl
            have hcr := ex.cells (notJunk_of_cells hj)
            have hones := hcr.ones hj
            obtain ⟨C, tC, fz, hb, hcells, hown⟩ := hR.cells i o ho
            obtain ⟨rfl, hoff, hcap⟩ := hown hni
            have hl2 : (a.eval x).cells.size = n := by have := hcr.length'; simp at this; omega
            have hfit : k + (a.eval x).cells.size ≤ C.size := by
              rcases Nat.eq_zero_or_pos n with h0 | h0
              · rw [hl2, h0]
                rcases Nat.eq_zero_or_pos k with hk | hk
                · omega
                · obtain ⟨v', hv', _⟩ := hcells (k - 1) o.cells[k - 1] (by have : k - 1 < o.cells.length := by (simp only at hle; omega)
                                                                           simp [this])
                  have := (Array.getElem?_eq_some_iff.mp hv').1
                  omega
              · obtain ⟨v', hv', _⟩ := hcells (k + n - 1) o.cells[k + n - 1] (by have : k + n - 1 < o.cells.length := by (simp only at hle; omega)
                                                                                 simp [this])
                have := (Array.getElem?_eq_some_iff.mp hv').1
                omega
            have hrun := run_storeCells_at P (φ i).b k tC (a.eval x).cells.toList 0 C w hb (by simpa using hfit) hones
            simp only [Nat.add_zero] at hrun
            have hsp : All2 (CellR φ h.ph) (splice k (vcells (vev env x)) o.cells) (splice k (a.eval x).cells.toList (C.toList.take o.cells.length)) := by
              refine hcr.splice (All2.of_get ?_ fun j x y hx hy => ?_)
              · rcases Nat.eq_zero_or_pos o.cells.length with h0 | h0
                · simp [h0]
                · obtain ⟨v', hv', _⟩ := hcells (o.cells.length - 1) o.cells[o.cells.length - 1] (by simp [show o.cells.length - 1 < o.cells.length by omega])
                  have := (Array.getElem?_eq_some_iff.mp hv').1
                  simp
                  omega
              · obtain ⟨v', hv', hr⟩ := hcells j x hx
                have : j < o.cells.length := (List.getElem?_eq_some_iff.mp hx).1
                rw [hoff, Nat.zero_add] at hv'
                rw [List.getElem?_take, if_pos this] at hy
                have : C[j]? = some y := by simpa using hy
                rw [this] at hv'
                cases hv'
                exact hr
            have hcell2 : ∀ (j : Nat) v, (splice k (vcells (vev env x)) o.cells)[j]? = some v → ∃ v', (C.toList.take k ++ (a.eval x).cells.toList ++ C.toList.drop (k + (a.eval x).cells.toList.length)).toArray[j]? = some v' ∧ CellR φ h.ph v v' := by
              intro j v hv
              obtain ⟨v', hv', hr⟩ := hsp.get' j v hv
              refine ⟨v', ?_, hr⟩
              have hjl : j < o.cells.length := by
                have := (List.getElem?_eq_some_iff.mp hv).1
                rw [splice_length (by simp only at hle; omega)] at this
                exact this
              rw [← hv']
              unfold splice
              simp only [List.getElem?_toArray, List.getElem?_append, List.length_append, List.length_take, List.getElem?_take, List.getElem?_drop, List.take_take, Array.length_toList]
              have hkl : k ≤ o.cells.length := by simp only at hle; omega
              have hkc : k ≤ C.size := by omega
              have e3 : min k o.cells.length = k := by omega
              have e4 : min k C.size = k := by omega
              rw [e3, e4]
              by_cases c1 : j < k + (a.eval x).cells.size
              · simp only [c1, if_true]
              · simp only [c1, if_false]
                rw [if_pos (by omega)]
            obtain ⟨r1, r2⟩ := hR.write (w1 := w.setRow (φ i).b (C.toList.take k ++ (a.eval x).cells.toList ++ C.toList.drop (k + (a.eval x).cells.toList.length)).toArray) ho hni (splice k (vcells (vev env x)) o.cells) (by rw [splice_length (by simp only at hle; omega)]; exact Nat.le_refl _) C _ tC (0, 0) hb
              (by simp; omega) (by
                apply Array.ext_getElem?
                intro q
                have hbl : (φ i).b < w.heap.size := (Array.getElem?_eq_some_iff.mp hb).1
                by_cases hq : q = (φ i).b
                · subst hq
                  rw [setRow_heap w _ C _ tC (0, 0) hb]
                  simp [hbl]
                · rw [setRow_other w _ _ _ hq, Array.getElem?_setIfInBounds_ne (fun h => hq h.symm)]) ⟨rfl, rfl, rfl⟩ hcell2
            refine ⟨φ, _, r1, r2, .inr ⟨?_, rfl⟩⟩
            have e4 : (⟨(φ i).b, (φ i).off + k, none⟩ : Addr) = ⟨(φ i).b, k, none⟩ := by rw [hoff, Nat.zero_add]
            simp only [execOp, Instr.storeAt, Sem.run_bind, e2, Instr.sureAddr, Sem.run_pure, Result.andThen_ok, storeVar, run_size hn, hl2, ne_eq, not_true_eq_false, if_false, e4, hrun]
          · cases hst
        · cases hst
      · cases hst
    · cases hc
  · cases hc
end
end Go.Proofs.YthpgiimaadohcaaDoor.Zv
