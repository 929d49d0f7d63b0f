/- append. -/
import Derived.Test.YthpgiimaadohcaaDoorZvOps8
namespace Go.Proofs.YthpgiimaadohcaaDoor.Zv
open Go

section
variable {P : Program} {nro : Nat} {φ : Em} {h : VH} {w : World} {env : List Value} {a : Act} {dst : Option Tmp} {ty : TypeId} {pos : String} {after : Array Edge} {guard : Option (Nat × Bool)} {v : Value} {h' : VH} {call : VCall} {op : VOp}

/-- What is appended, in the model. -/
theorem src_rel (hR : RH nro φ h.ph w) {sz m : Nat} {x xv : Value} {cs : List Value} (hx : TopR φ h.ph xv x) (hs : vsrc sz h xv = some (cs, m)) :
    (x = .slice none 0 0 ∧ m = 0 ∧ cs = []) ∨ ∃ q c news, x = .slice (some q) m c ∧ All2 (CellR φ h.ph) cs news ∧ news.length = m * sz ∧ cs.length = m * sz ∧ (0 < m → 0 < sz → ∀ (j : Nat) v, news[j]? = some v → w.cell? (q.add j) = some v) := by
  unfold vsrc at hs
  split at hs
  · simp only [Option.some.injEq, Prod.mk.injEq] at hs
    obtain ⟨rfl, rfl⟩ := hs
    refine .inl ⟨?_, rfl, rfl⟩
    have := hx.inv_sl
    cases this
    rfl
  · simp only [Option.some.injEq, Prod.mk.injEq] at hs
    obtain ⟨rfl, rfl⟩ := hs
    have := hx.inv_sl
    cases this with
    | slE q c => exact .inr ⟨q, c, [], rfl, .nil, by simp, by simp, fun h => by omega⟩
  · rename_i p n tot
    split at hs
    · rename_i o ho
      split at hs
      · rename_i hcond
        obtain ⟨rfl, htot, hle⟩ := hcond
        simp only [Option.some.injEq, Prod.mk.injEq] at hs
        obtain ⟨rfl, rfl⟩ := hs
        have hsl := hx.inv_sl
        obtain ⟨i, k, rfl⟩ := hsl.spot_sl
        obtain ⟨q, c, rfl, hk, h1, hc, hcap, ha⟩ := hsl.inv_sl_some ho htot
        obtain ⟨news, hr, hlen, hcell⟩ := hR.read ho k (n * o.sz) (by simp only at hle; omega)
        refine .inr ⟨q, c, news, rfl, hr, hlen, by rw [hr.length', hlen], fun hn hz j v hv => ?_⟩
        have hq : q = ⟨(φ i).b, (φ i).off + k, none⟩ := ha.resolve_left (by omega)
        subst hq
        rw [Addr.add_mk]
        exact hcell j v hv
      · cases hs
    · cases hs
  · cases hs

theorem size_zeros (z : Array Value) (n : Nat) : (Builtin.zeroCells z n).size = n * z.size := by simp [Builtin.zeroCells]

theorem grownCap_ge (w : World) (n c : Nat) (e : TypeId) : n ≤ grownCap w n c e := by
  show n ≤ n + _ % _
  exact Nat.le_add_right _ _

theorem s_append (c : Call) (t : TypeId) (s x : Operand) (e : TypeId) (i : TypeInfo) (z : List Value) (hcl : c.callee = .builtin .append) (hargs : c.args = #[s, x]) (hts : c.argTypes = #[t, t]) (hs : okOpd s = true) (hx : okOpd x = true)
    (he : P.underlying t = some (.slice e)) (hi : P.info? e = some i) (hz : zerosOf P e = some z) (h1 : 1 ≤ i.size) (hb : i.bytes ≤ 2 ^ 20)
    (hR : RH nro φ h.ph w) (hE : RE φ h.ph env a) (hv : vop call nro (vev env) h (.app i.size i.bytes z s x) = some (v, h')) : OkRes nro φ h.ph w v h' ((execOp a.eval ⟨dst, .call c, ty, pos, after, guard⟩).run P w) := by
  obtain ⟨i', zv, hi', hzv, rfl, hzsz, hzcl⟩ := zerosOf_spec hz
  rw [hi] at hi'
  cases hi'
  have es := hE.ev hs
  have ex := hE.ev hx
  have hexec : ∀ {r : Value} {W : World}, (Builtin.append_ #[t, t] ty #[a.eval s, a.eval x]).run P w = .ok r W → (execOp a.eval ⟨dst, .call c, ty, pos, after, guard⟩).run P w = .ok (.value r) W := by
    intro r W hr
    simp [execOp, resolve, hcl, hargs, hts, invoke, builtin, hr]
  simp only [vop] at hv
  unfold vappend at hv
  split at hv
  · cases hv
  · rename_i cs m hsrc
    have hsr := src_rel hR ex hsrc
    split at hv
    · rename_i hcond
      obtain ⟨hj, _⟩ := hcond
      split at hv
      · rename_i e1
        rw [e1] at es
        have e2 : a.eval s = .slice none 0 0 := by
          have := es.inv_sl
          generalize a.eval s = q at this
          cases this
          rfl
        split at hv
        · rename_i hm
          subst hm
          simp only [Option.some.injEq, Prod.mk.injEq] at hv
          obtain ⟨rfl, rfl⟩ := hv
          refine .quiet (v' := .slice none 0 0) hR (hexec ?_) AtomR.slN.top
          rcases hsr with ⟨e3, _, _⟩ | ⟨q, c', news, e3, _⟩
          · simp [Builtin.append_, run_und he, sizeOf, run_info hi, e2, e3, Builtin.lenOf, Builtin.firstCells]
          · simp [Builtin.append_, run_und he, sizeOf, run_info hi, e2, e3, Builtin.lenOf, Builtin.firstCells, loadCells, loadCellsFrom]
        · rename_i hm
          split at hv
          · rename_i hlim
            simp only [Option.some.injEq, Prod.mk.injEq] at hv
            obtain ⟨rfl, rfl⟩ := hv
            rcases hsr with ⟨_, hm0, _⟩ | ⟨q, c', news, e3, hr, hln, hlc, hcell⟩
            · exact absurd hm0 hm
            · have hrun := run_append_nil (P := P) w t ty e i zv he hi hzv q m c' news hln (hcell (by omega) (by omega)) (by omega) (by omega) (by omega)
              rw [← e2, ← e3] at hrun
              have hC : ∀ (j : Nat) v, cs[j]? = some v → ∃ v', (news.toArray ++ Builtin.zeroCells zv.cells (grownCap w m 0 e - m))[j]? = some v' ∧ CellR φ h.ph v v' := by
                intro j v hv
                obtain ⟨v', hv', hr⟩ := hr.get' j v hv
                have hjl := (List.getElem?_eq_some_iff.mp hv').1
                exact ⟨v', by rw [Array.getElem?_append_left (by simpa using hjl)]; simpa using hv', hr⟩
              have hge : m ≤ grownCap w m 0 e := grownCap_ge _ _ _ _
              refine OkRes.push hR (w.drew.alloc (.cells (news.toArray ++ Builtin.zeroCells zv.cells (grownCap w m 0 e - m)) e)) ⟨i.size, cs⟩ _ e rfl ⟨rfl, rfl, rfl⟩ hC _ _ _ (hexec hrun) ?_
              exact AtomR.sl (o := ⟨i.size, cs⟩) (ph_new h _) rfl (by simp [hlc]) h1 hge (by
                rw [setE_new]
                simp only [Array.size_append, List.size_toArray, size_zeros, hln, hzsz, Nat.zero_add]
                rw [← Nat.add_mul]
                exact Nat.le_of_eq (by congr 1; omega)) (.inr (by rw [setE_new]))
          · cases hv
      · rename_i p n tot e1
        rw [e1] at es
        have hsl := es.inv_sl
        obtain ⟨i0, k, rfl⟩ := hsl.spot_sl
        split at hv
        · rename_i o ho
          split at hv
          · rename_i hcond2
            obtain ⟨hni, hosz, htot, hoff0, hfull, hlim1, hlim2⟩ := hcond2
            simp only at hoff0 hni ho
            subst hoff0
            simp only [Option.some.injEq, Prod.mk.injEq] at hv
            obtain ⟨rfl, rfl⟩ := hv
            obtain ⟨q0, c0, e2, hk, hs1, hnc, hcap, ha⟩ := hsl.inv_sl_some ho htot
            obtain ⟨C, tC, fz, hblk, hcells, hown⟩ := hR.cells i0 o ho
            obtain ⟨rfl, hoff, hCsz⟩ := hown hni
            have hil : i0 < h.length := VH.ph_lt ho
            by_cases hm : m = 0
            · subst hm
              have hcs : cs = [] := by
                rcases hsr with ⟨_, _, h0⟩ | ⟨_, _, _, _, _, _, hlc, _⟩
                · exact h0
                · exact List.length_eq_zero_iff.mp (by omega)
              subst hcs
              have hset : h.set i0 { o with cells := o.cells ++ [] } = h := by
                simp only [List.append_nil]
                apply List.ext_getElem?
                intro j
                rw [List.getElem?_set]
                split
                · subst_vars; simp [hil, ho.symm]
                · rfl
              rw [hset]
              refine .quiet (v' := .slice (some q0) n c0) hR (hexec ?_) (by simpa [← e2] using es)
              rcases hsr with ⟨e3, _, _⟩ | ⟨q, c', news, e3, _⟩
              · simp [Builtin.append_, run_und he, sizeOf, run_info hi, e2, e3, Builtin.lenOf, Builtin.firstCells, hnc, storeCells]
              · simp [Builtin.append_, run_und he, sizeOf, run_info hi, e2, e3, Builtin.lenOf, Builtin.firstCells, loadCells, loadCellsFrom, hnc, storeCells]
            · rcases hsr with ⟨_, hm0, _⟩ | ⟨q, c', news, e3, hr, hln, hlc, hcell⟩
              · exact absurd hm0 hm
              · have hcell := hcell (by omega) (by omega)
                have hones := hr.ones hj
                have hn2 : n * i.size = o.cells.length := by rw [hfull, htot]
                by_cases hroom : n + m ≤ c0
                · -- in place
                  have hq0 : q0 = ⟨(φ i0).b, (φ i0).off + 0, none⟩ := ha.resolve_left (by omega)
                  rw [hoff] at hq0
                  subst hq0
                  have hcsz : c0 * i.size ≤ C.size := by rw [hCsz, ← hosz]; simpa using hcap
                  have hle2 : (n + m) * i.size ≤ C.size := Nat.le_trans (Nat.mul_le_mul_right _ hroom) hcsz
                  rw [Nat.add_mul] at hle2
                  have hf := run_firstCells_some (P := P) w i.size m q m c' news hln hcell
                  have hst := run_storeCells_at P (φ i0).b (n * i.size) tC news 0 C w hblk (by omega) hones
                  try simp only [Nat.add_zero] at hst
                  have hrun : (Builtin.append_ #[t, t] ty #[a.eval s, a.eval x]).run P w = .ok (.slice (some ⟨(φ i0).b, 0, none⟩) (n + m) c0) (w.setRow (φ i0).b (C.toList.take (n * i.size) ++ news ++ C.toList.drop (n * i.size + news.length)).toArray) := by
                    rw [e2, e3]
                    simp [Builtin.append_, run_und he, sizeOf, run_info hi, Builtin.lenOf, hroom, hf, Addr.add_mk, hst]
                  obtain ⟨r1, r2⟩ := hR.write (w1 := w.setRow (φ i0).b (C.toList.take (n * i.size) ++ news ++ C.toList.drop (n * i.size + news.length)).toArray) ho hni (o.cells ++ cs) (by simp) C (C.toList.take (n * i.size) ++ news ++ C.toList.drop (n * i.size + news.length)).toArray tC (0, 0) hblk
                    (by simp; omega) (by
                      apply Array.ext_getElem?
                      intro b
                      have hbl : (φ i0).b < w.heap.size := (Array.getElem?_eq_some_iff.mp hblk).1
                      by_cases hb2 : b = (φ i0).b
                      · subst hb2
                        rw [setRow_heap w _ C _ tC (0, 0) hblk]
                        simp [hbl]
                      · rw [setRow_other w _ _ _ hb2, Array.getElem?_setIfInBounds_ne (fun h => hb2 h.symm)]) ⟨rfl, rfl, rfl⟩ (by
                      intro j v hv
                      rw [List.getElem?_append] at hv
                      rw [List.getElem?_toArray, List.append_assoc]
                      split at hv
                      · rename_i hjl
                        obtain ⟨v', hv', hr'⟩ := hcells j v hv
                        rw [hoff, Nat.zero_add] at hv'
                        have hjC := (Array.getElem?_eq_some_iff.mp hv').1
                        refine ⟨v', ?_, hr'⟩
                        rw [List.getElem?_append_left (by simp; omega), List.getElem?_take, if_pos (by omega)]
                        simpa using hv'
                      · rename_i hjl
                        obtain ⟨v', hv', hr'⟩ := hr.get' _ v hv
                        have hjn := (List.getElem?_eq_some_iff.mp hv').1
                        refine ⟨v', ?_, hr'⟩
                        have hlt : (C.toList.take (n * i.size)).length = n * i.size := by simp; omega
                        rw [List.getElem?_append_right (by omega), hlt, List.getElem?_append_left (by omega), hn2]
                        exact hv')
                  refine ⟨φ, _, r1, r2, .inl ⟨_, hexec hrun, (AtomR.sl (o := { o with cells := o.cells ++ cs }) (by simp [VH.ph, hil]) (by simp [htot]) ?_ hs1 hroom (by simpa using hcap) (.inr (by simp))).top⟩⟩
                  rw [hlc]
                  simp only [hosz, Nat.zero_add]
                  rw [Nat.add_mul, hfull]
                  exact Nat.le_refl _
                · -- in a new place
                  obtain ⟨olds, hro, hlo, hco⟩ := hR.read ho 0 (n * i.size) (by omega)
                  have hco2 : ∀ (j : Nat) v, olds[j]? = some v → w.cell? (q0.add j) = some v := by
                    intro j v hv
                    have hjl := (List.getElem?_eq_some_iff.mp hv).1
                    have hc00 : c0 ≠ 0 := by
                      intro h0
                      have : n = 0 := by omega
                      rw [this] at hlo
                      simp at hlo
                      rw [hlo] at hjl
                      simp at hjl
                    have hq0 : q0 = ⟨(φ i0).b, (φ i0).off + 0, none⟩ := ha.resolve_left hc00
                    subst hq0
                    rw [Addr.add_mk]
                    exact hco j v hv
                  have hrun := run_append_grow (P := P) w t ty e i zv he hi hzv q0 n c0 olds hlo hco2 q m c' news hln hcell (by omega) (by omega) (growslice_fits (by omega) (by omega))
                  rw [← e2, ← e3] at hrun
                  have hge : n + m ≤ grownCap w (n + m) c0 e := grownCap_ge _ _ _ _
                  have htk : (o.cells.drop 0).take (n * i.size) = o.cells := by rw [List.drop_zero, hn2, List.take_length]
                  rw [htk] at hro
                  obtain ⟨r1, r2⟩ := hR.move (w1 := w.drew.alloc (.cells (olds.toArray ++ news.toArray ++ Builtin.zeroCells zv.cells (grownCap w (n + m) c0 e - (n + m))) e)) ho hni (o.cells ++ cs) (by
                      simp only [List.length_append, hlc]
                      have : 0 < m * i.size := Nat.mul_pos (by omega) (by omega)
                      omega) _ e rfl ⟨rfl, rfl, rfl⟩ (by
                      intro j v hv
                      obtain ⟨v', hv', hr'⟩ := (hro.append hr).get' j v hv
                      have hjl := (List.getElem?_eq_some_iff.mp hv').1
                      refine ⟨v', ?_, hr'⟩
                      rw [Array.getElem?_append_left (by simpa using hjl)]
                      simpa using hv')
                  refine ⟨_, _, r1, r2, .inl ⟨_, hexec hrun, (AtomR.sl (o := { o with cells := o.cells ++ cs }) (by simp [VH.ph, hil]) (by simp [htot]) ?_ hs1 hge ?_ (.inr (by rw [setE_new]))).top⟩⟩
                  · rw [hlc]
                    simp only [hosz, Nat.zero_add]
                    rw [Nat.add_mul, hfull]
                    exact Nat.le_refl _
                  · rw [setE_new]
                    simp only [Array.size_append, List.size_toArray, size_zeros, hln, hlo, hzsz, Nat.zero_add, hosz]
                    rw [← Nat.add_mul, ← Nat.add_mul]
                    exact Nat.le_of_eq (by congr 1; omega)
          · cases hv
        · cases hv
      · cases hv
    · cases hv

/-- A stretch of an object is written. -/
theorem write_core (hR : RH nro φ h.ph w) {i k : Nat} {o : VO} (ho : h.ph i = some o) (hni : nro ≤ i) {vs vs' : List Value} (hcr : All2 (CellR φ h.ph) vs vs') (hones : ∀ v ∈ vs', v.oneCell' = true) (hpos : 0 < vs.length) (hle : k + vs.length ≤ o.cells.length) :
    ∃ w1, (storeCells ⟨(φ i).b, (φ i).off + k, none⟩ vs').run P w = .ok () w1 ∧ RH nro φ (VH.ph (h.set i { o with cells := splice k vs o.cells })) w1 ∧ X nro φ h.ph w φ (VH.ph (h.set i { o with cells := splice k vs o.cells })) w1 := by
  obtain ⟨C, tC, fz, hb, hcells, hown⟩ := hR.cells i o ho
  obtain ⟨rfl, hoff, hcap⟩ := hown hni
  have hl2 : vs'.length = vs.length := hcr.length'.symm
  have hlast : o.cells.length ≤ C.size := by
    obtain ⟨v', hv', _⟩ := hcells (o.cells.length - 1) o.cells[o.cells.length - 1] (by simp [show o.cells.length - 1 < o.cells.length by omega])
    have := (Array.getElem?_eq_some_iff.mp hv').1
    omega
  have hrun := run_storeCells_at P (φ i).b k tC vs' 0 C w hb (by omega) hones
  simp only [Nat.add_zero] at hrun
  have hsp : All2 (CellR φ h.ph) (splice k vs o.cells) (splice k vs' (C.toList.take o.cells.length)) := by
    refine hcr.splice (All2.of_get ?_ fun j x y hx hy => ?_)
    · simp; omega
    · obtain ⟨v', hv', hr⟩ := hcells j x hx
      have : j < o.cells.length := (List.getElem?_eq_some_iff.mp hx).1
      rw [hoff, Nat.zero_add] at hv'
      rw [List.getElem?_take, if_pos this] at hy
      have : C[j]? = some y := by simpa using hy
      rw [this] at hv'
      cases hv'
      exact hr
  have hcell2 : ∀ (j : Nat) v, (splice k vs o.cells)[j]? = some v → ∃ v', (C.toList.take k ++ vs' ++ C.toList.drop (k + vs'.length)).toArray[j]? = some v' ∧ CellR φ h.ph v v' := by
    intro j v hv
    obtain ⟨v', hv', hr⟩ := hsp.get' j v hv
    refine ⟨v', ?_, hr⟩
    have hjl : j < o.cells.length := by
      have := (List.getElem?_eq_some_iff.mp hv).1
      rw [splice_length hle] at this
      exact this
    rw [← hv']
    unfold splice
    simp only [List.getElem?_toArray, List.getElem?_append, List.length_append, List.length_take, List.getElem?_take, List.getElem?_drop, List.take_take, Array.length_toList]
    have e3 : min k o.cells.length = k := by omega
    have e4 : min k C.size = k := by omega
    rw [e3, e4]
    by_cases c1 : j < k + vs'.length
    · simp only [c1, if_true]
    · simp only [c1, if_false]
      rw [if_pos (by omega)]
  obtain ⟨r1, r2⟩ := hR.write (w1 := w.setRow (φ i).b (C.toList.take k ++ vs' ++ C.toList.drop (k + vs'.length)).toArray) ho hni (splice k vs o.cells) (by rw [splice_length hle]; exact Nat.le_refl _) C _ tC (0, 0) hb
    (by simp; omega) (by
      apply Array.ext_getElem?
      intro q
      have hbl : (φ i).b < w.heap.size := (Array.getElem?_eq_some_iff.mp hb).1
      by_cases hq : q = (φ i).b
      · subst hq
        rw [setRow_heap w _ C _ tC (0, 0) hb]
        simp [hbl]
      · rw [setRow_other w _ _ _ hq, Array.getElem?_setIfInBounds_ne (fun h => hq h.symm)]) ⟨rfl, rfl, rfl⟩ hcell2
  have e4 : (⟨(φ i).b, (φ i).off + k, none⟩ : Addr) = ⟨(φ i).b, k, none⟩ := by rw [hoff, Nat.zero_add]
  exact ⟨_, by rw [e4]; exact hrun, r1, r2⟩

theorem s_clear (c : Call) (t : TypeId) (x : Operand) (e : TypeId) (i : TypeInfo) (z : List Value) (hcl : c.callee = .builtin .clear) (hargs : c.args = #[x]) (hts : c.argTypes = #[t]) (hx : okOpd x = true)
    (he : P.underlying t = some (.slice e)) (hi : P.info? e = some i) (hz : zerosOf P e = some z) (h1 : 1 ≤ i.size)
    (hR : RH nro φ h.ph w) (hE : RE φ h.ph env a) (hv : vop call nro (vev env) h (.clr i.size z x) = some (v, h')) : OkRes nro φ h.ph w v h' ((execOp a.eval ⟨dst, .call c, ty, pos, after, guard⟩).run P w) := by
  obtain ⟨i', zv, hi', hzv, rfl, hzsz, hzcl⟩ := zerosOf_spec hz
  rw [hi] at hi'
  cases hi'
  have ex := hE.ev hx
  have hexec : ∀ {r : Value} {W : World}, (Builtin.clear_ #[t] ty #[a.eval x]).run P w = .ok r W → (execOp a.eval ⟨dst, .call c, ty, pos, after, guard⟩).run P w = .ok (.value r) W := by
    intro r W hr
    simp [execOp, resolve, hcl, hargs, hts, invoke, builtin, hr]
  simp only [vop] at hv
  generalize a.eval x = xv at *
  unfold vclear at hv
  split at hv
  · rename_i e1
    simp only [Option.some.injEq, Prod.mk.injEq] at hv
    obtain ⟨rfl, rfl⟩ := hv
    rw [e1] at ex
    have := ex.inv_sl
    cases this
    refine .quiet (v' := .tuple #[]) hR (hexec ?_) .undef
    simp [Builtin.clear_, run_und he]
  · rename_i e1
    simp only [Option.some.injEq, Prod.mk.injEq] at hv
    obtain ⟨rfl, rfl⟩ := hv
    rw [e1] at ex
    have := ex.inv_sl
    cases this
    refine .quiet (v' := .tuple #[]) hR (hexec ?_) .undef
    simp [Builtin.clear_, run_und he]
  · rename_i p n tot e1
    rw [e1] at ex
    split at hv
    · rename_i o ho
      split at hv
      · rename_i hcond
        obtain ⟨hosz, htot⟩ := hcond
        have hsl := ex.inv_sl
        obtain ⟨i0, k, rfl⟩ := hsl.spot_sl
        obtain ⟨q, c', rfl, hk, hs1, hnc, hcap, ha⟩ := hsl.inv_sl_some ho htot
        split at hv
        · rename_i hn0
          simp only [Option.some.injEq, Prod.mk.injEq] at hv
          obtain ⟨rfl, rfl⟩ := hv
          subst hn0
          refine .quiet (v' := .tuple #[]) hR (hexec ?_) .undef
          simp [Builtin.clear_, run_und he]
        · rename_i hn0
          split at hv
          · rename_i hc2
            obtain ⟨hni, hle, hzl, hzj⟩ := hc2
            simp only [Option.some.injEq, Prod.mk.injEq] at hv
            obtain ⟨rfl, rfl⟩ := hv
            have hq : q = ⟨(φ i0).b, (φ i0).off + k, none⟩ := ha.resolve_left (by omega)
            subst hq
            have hzr := zero_rel (φ := φ) (L := h.ph) zv hzcl n
            have hfl : (List.replicate n zv.cells.toList).flatten.length = n * i.size := by simp [hzsz]
            have hall : (List.replicate n zv.cells.toList).flatten.all (fun v => !isJunk v) = true := by
              rw [List.all_eq_true] at hzj ⊢
              intro v hv
              obtain ⟨l, hl, hvl⟩ := List.mem_flatten.mp hv
              rw [List.eq_of_mem_replicate hl] at hvl
              exact hzj v hvl
            obtain ⟨w1, r1, r2, r3⟩ := write_core (k := k) hR ho hni hzr (hzr.ones hall) (by rw [hfl]; exact Nat.mul_pos (by omega) (by omega)) (by rw [hfl]; simp only at hle; omega)
            refine ⟨φ, w1, r2, r3, .inl ⟨.tuple #[], hexec ?_, .undef⟩⟩
            obtain ⟨n', rfl⟩ : ∃ n', n = n' + 1 := ⟨n - 1, by omega⟩
            have hz0 : ∀ W : World, (zeroValue e).run P W = .ok zv W := fun W => by simp [zeroValue, run_info hi, hzv]
            have hst : (storeCells ⟨(φ i0).b, (φ i0).off + k, none⟩ (Builtin.zeroCells zv.cells (n' + 1)).toList).run P w = .ok () w1 := r1
            simp [Builtin.clear_, run_und he, hz0, hst]
          · cases hv
      · cases hv
    · cases hv
  · cases hv

theorem s_copy (c : Call) (t : TypeId) (x y : Operand) (e : TypeId) (i : TypeInfo) (hcl : c.callee = .builtin .copy) (hargs : c.args = #[x, y]) (hts : c.argTypes = #[t, t]) (hx : okOpd x = true) (hy : okOpd y = true)
    (he : P.underlying t = some (.slice e)) (hi : P.info? e = some i)
    (hR : RH nro φ h.ph w) (hE : RE φ h.ph env a) (hv : vop call nro (vev env) h (.cpy i.size x y) = some (v, h')) : OkRes nro φ h.ph w v h' ((execOp a.eval ⟨dst, .call c, ty, pos, after, guard⟩).run P w) := by
  have ex := hE.ev hx
  have ey := hE.ev hy
  have hexec : ∀ {r : Value} {W : World}, (Builtin.copy_ #[t, t] ty #[a.eval x, a.eval y]).run P w = .ok r W → (execOp a.eval ⟨dst, .call c, ty, pos, after, guard⟩).run P w = .ok (.value r) W := by
    intro r W hr
    simp [execOp, resolve, hcl, hargs, hts, invoke, builtin, hr]
  simp only [vop] at hv
  unfold vcopy at hv
  split at hv
  · cases hv
  · rename_i cs m hsrc
    have hsr := src_rel hR ey hsrc
    generalize a.eval x = xv at *
    generalize a.eval y = yv at *
    -- nothing is copied
    have hzero : ∀ (p : Option Addr) (n c0 : Nat), xv = .slice p n c0 → min m n = 0 → (Builtin.copy_ #[t, t] ty #[xv, yv]).run P w = .ok (.int .i64 0) w := by
      intro p n c0 hxv h0
      subst hxv
      rcases hsr with ⟨rfl, rfl, _⟩ | ⟨q, c', news, rfl, _, _, _, _⟩
      · cases p <;> simp [Builtin.copy_, run_und he, sizeOf, run_info hi, Builtin.lenOf, Builtin.firstCells, storeCells, goInt]
      · have h0' : Nat.min m n = 0 := h0
        have hf := run_firstCells_some (P := P) w i.size 0 q m c' [] (by simp) (fun j v hj => by simp at hj)
        cases p <;> simp [Builtin.copy_, run_und he, sizeOf, run_info hi, Builtin.lenOf, h0', hf, storeCells, goInt]
    split at hv
    · rename_i e1
      simp only [Option.some.injEq, Prod.mk.injEq] at hv
      obtain ⟨rfl, rfl⟩ := hv
      rw [e1] at ex
      have := ex.inv_sl
      cases this
      exact .quiet (v' := .int .i64 0) hR (hexec (hzero _ _ _ rfl (by simp))) (AtomR.int _ _).top
    · rename_i e1
      simp only [Option.some.injEq, Prod.mk.injEq] at hv
      obtain ⟨rfl, rfl⟩ := hv
      rw [e1] at ex
      have := ex.inv_sl
      cases this
      exact .quiet (v' := .int .i64 0) hR (hexec (hzero _ _ _ rfl (by simp))) (AtomR.int _ _).top
    · rename_i p n tot e1
      rw [e1] at ex
      split at hv
      · rename_i o ho
        split at hv
        · rename_i hcond
          obtain ⟨hosz, htot, hcl2⟩ := hcond
          have hsl := ex.inv_sl
          obtain ⟨i0, k, rfl⟩ := hsl.spot_sl
          obtain ⟨q, c', rfl, hk, hs1, hnc, hcap, ha⟩ := hsl.inv_sl_some ho htot
          split at hv
          · rename_i hn0
            simp only [Option.some.injEq, Prod.mk.injEq] at hv
            obtain ⟨rfl, rfl⟩ := hv
            exact .quiet (v' := .int .i64 0) hR (hexec (hzero _ _ _ rfl hn0)) (AtomR.int _ _).top
          · rename_i hn0
            split at hv
            · rename_i hc2
              obtain ⟨hni, hle, hsz1, hj⟩ := hc2
              simp only [Option.some.injEq, Prod.mk.injEq] at hv
              obtain ⟨rfl, rfl⟩ := hv
              have hq : q = ⟨(φ i0).b, (φ i0).off + k, none⟩ := ha.resolve_left (by omega)
              subst hq
              rcases hsr with ⟨_, hm0, _⟩ | ⟨q2, c2, news, rfl, hr, hln, hlc, hcell⟩
              · exfalso; omega
              · have hcell := hcell (by omega) (by omega)
                have hmn : min m n * i.size ≤ m * i.size := Nat.mul_le_mul_right _ (Nat.min_le_left _ _)
                have hr2 : All2 (CellR φ h.ph) (cs.take (min m n * i.size)) (news.take (min m n * i.size)) := by
                  refine All2.of_get (by simp [hln, hlc]) fun j x y hx hy => ?_
                  rw [List.getElem?_take] at hx hy
                  split at hx
                  · rename_i hjl
                    rw [if_pos hjl] at hy
                    obtain ⟨y', h1, h2⟩ := hr.get' j x hx
                    rw [hy] at h1
                    cases h1
                    exact h2
                  · cases hx
                have hjt : (cs.take (min m n * i.size)).all (fun v => !isJunk v) = true := by
                  rw [List.all_eq_true] at hj ⊢
                  exact fun v hv => hj v (List.mem_of_mem_take hv)
                have hlt : (cs.take (min m n * i.size)).length = min m n * i.size := by rw [List.length_take, hlc]; omega
                have hlt2 : (news.take (min m n * i.size)).length = min m n * i.size := by rw [List.length_take, hln]; omega
                obtain ⟨w1, r1, r2, r3⟩ := write_core (k := k) hR ho hni hr2 (hr2.ones hjt) (by rw [hlt]; exact Nat.mul_pos (by omega) (by omega)) (by rw [hlt]; simp only at hle; omega)
                refine ⟨φ, w1, r2, r3, .inl ⟨.int .i64 ((min m n : Nat) : Int), hexec ?_, (AtomR.int _ _).top⟩⟩
                have hf := run_firstCells_some (P := P) w i.size (min m n) q2 m c2 (news.take (min m n * i.size)) hlt2 (fun j v hv => by
                  rw [List.getElem?_take] at hv
                  split at hv
                  · exact hcell j v hv
                  · cases hv)
                have hmin : Nat.min m n = min m n := rfl
                generalize news.take (min m n * i.size) = nl at hf r1
                have hst : (storeCells ⟨(φ i0).b, (φ i0).off + k, none⟩ nl).run P w = .ok () w1 := r1
                simp [Builtin.copy_, run_und he, sizeOf, run_info hi, Builtin.lenOf, hmin, hf, hst, goInt]
            · cases hv
        · cases hv
      · cases hv
    · cases hv
end
end Go.Proofs.YthpgiimaadohcaaDoor.Zv
