/- Operations, further: slices of slices, lengths, least and greatest, function values, loads, literals of structs. -/
import Derived.Test.YthpgiimaadohcaaDoorZvOps2
namespace Go.Proofs.YthpgiimaadohcaaDoor.Zv
open Go

section
variable {P : Program} {nro : Nat} {φ : Em} {h : VH} {w : World} {env : List Value} {a : Act} {dst : Option Tmp} {ty : TypeId} {pos : String} {after : Array Edge} {guard : Option (Nat × Bool)} {v : Value} {h' : VH} {call : VCall} {op : VOp}

theorem All2.of_map {φ : Em} {h : VH} {env : List Value} {a : Act} (hE : RE φ h.ph env a) : ∀ (xs : List Operand), xs.all okOpd = true → All2 (TopR φ h.ph) (xs.map (vev env)) (xs.map a.eval)
  | [], _ => .nil
  | x :: xs, hx => by
    simp only [List.all_cons, Bool.and_eq_true] at hx
    exact .cons (hE.ev hx.1) (All2.of_map hE xs hx.2)

theorem s_len (c : Call) (t : TypeId) (x : Operand) (str : Bool) (hcl : c.callee = .builtin .len) (hargs : c.args = #[x]) (hts : c.argTypes = #[t]) (hx : okOpd x = true) (ht : if str then P.underlying t = some .string else ∃ e, P.underlying t = some (.slice e))
    (hR : RH nro φ h.ph w) (hE : RE φ h.ph env a) (hv : vop call nro (vev env) h (if str then .lenStr x else .len x) = some (v, h')) : OkRes nro φ h.ph w v h' ((execOp a.eval ⟨dst, .call c, ty, pos, after, guard⟩).run P w) := by
  have ex := hE.ev hx
  cases str with
  | true =>
    simp only [if_true] at ht hv
    simp only [vop] at hv
    split at hv
    · rename_i s e1
      rw [e1] at ex
      simp only [Option.some.injEq, Prod.mk.injEq] at hv
      obtain ⟨rfl, rfl⟩ := hv
      refine .quiet (v' := .int .i64 s.size) hR ?_ (AtomR.int _ _).top
      simp [execOp, resolve, hcl, hargs, hts, invoke, builtin, Builtin.len_, ex.inv_str, run_und ht, goInt]
    · cases hv
  | false =>
    simp only [Bool.false_eq_true, if_false] at ht hv
    obtain ⟨e, ht⟩ := ht
    simp only [vop] at hv
    split at hv
    · rename_i e1
      rw [e1] at ex
      simp only [Option.some.injEq, Prod.mk.injEq] at hv
      obtain ⟨rfl, rfl⟩ := hv
      have e2 : a.eval x = .slice none 0 0 := by
        have := ex.inv_sl
        generalize a.eval x = z at this
        cases this
        rfl
      refine .quiet (v' := .int .i64 0) hR ?_ (AtomR.int _ _).top
      simp [execOp, resolve, hcl, hargs, hts, invoke, builtin, Builtin.len_, e2, run_und ht, goInt]
    · rename_i e1
      rw [e1] at ex
      simp only [Option.some.injEq, Prod.mk.injEq] at hv
      obtain ⟨rfl, rfl⟩ := hv
      obtain ⟨q, c', e2⟩ : ∃ q c', a.eval x = .slice (some q) 0 c' := by
        have := ex.inv_sl
        generalize a.eval x = z at this
        cases this with
        | slE q c => exact ⟨q, c, rfl⟩
      refine .quiet (v' := .int .i64 0) hR ?_ (AtomR.int _ _).top
      simp [execOp, resolve, hcl, hargs, hts, invoke, builtin, Builtin.len_, e2, run_und ht, goInt]
    · rename_i p n tot e1
      rw [e1] at ex
      split at hv
      · rename_i o ho
        split at hv
        · rename_i htot
          simp only [Option.some.injEq, Prod.mk.injEq] at hv
          obtain ⟨rfl, rfl⟩ := hv
          have hs := ex.inv_sl
          obtain ⟨q, k', rfl⟩ := hs.spot_sl
          obtain ⟨r, c', e3, _⟩ := hs.inv_sl_some ho htot
          refine .quiet (v' := .int .i64 n) hR ?_ (AtomR.int _ _).top
          simp [execOp, resolve, hcl, hargs, hts, invoke, builtin, Builtin.len_, e3, run_und ht, goInt]
        · cases hv
      · cases hv
    · cases hv

theorem vminmaxL_int {mx : Bool} : ∀ {xs : List Value} {x r : Value}, vminmaxL mx x xs = some r → (∃ k n, x = .int k n) → (∃ k n, r = .int k n) ∧ (xs.foldlM (if mx then Builtin.max2 else Builtin.min2) x).run P w = .ok r w ∧ ∀ y ∈ xs, ∃ k n, y = .int k n
  | [], x, r, hv, hx => by
    cases hv
    exact ⟨hx, rfl, fun _ h => by cases h⟩
  | y :: ys, x, r, hv, hx => by
    obtain ⟨k, n, rfl⟩ := hx
    simp only [vminmaxL] at hv
    split at hv
    · rename_i z hz
      unfold vminmax2 at hz
      split at hz
      · rename_i k1 a1 k2 b1 e1
        cases e1
        split at hz
        · rename_i hk
          subst hk
          cases hz
          obtain ⟨h1, h2, h3⟩ := vminmaxL_int (mx := mx) hv ⟨_, _, rfl⟩
          refine ⟨h1, ?_, fun q hq => by rcases List.mem_cons.mp hq with rfl | hq; exact ⟨_, _, rfl⟩; exact h3 q hq⟩
          cases mx <;> simp only [List.foldlM_cons, Sem.run_bind, if_true, Bool.false_eq_true, if_false] at h2 ⊢
          · simp only [Builtin.min2, Sem.run_pure, Result.andThen_ok]; exact h2
          · simp only [Builtin.max2, Sem.run_pure, Result.andThen_ok]; exact h2
        · cases hz
      · cases hz
    · cases hv

theorem All2.ints {φ : Em} {L : PH} : ∀ {xs ys : List Value}, All2 (TopR φ L) xs ys → (∀ y ∈ xs, ∃ k n, y = .int k n) → ys = xs
  | _, _, .nil, _ => rfl
  | _, _, .cons (a := x) hr t, hx => by
    obtain ⟨k, n, rfl⟩ := hx x (by simp)
    rw [hr.inv_int, All2.ints t fun y hy => hx y (by simp [hy])]

theorem s_minmax (c : Call) (mx : Bool) (hcl : c.callee = .builtin (if mx then .max else .min)) (hx : okL c.args = true)
    (hR : RH nro φ h.ph w) (hE : RE φ h.ph env a) (hv : vop call nro (vev env) h (.minmax mx c.args.toList) = some (v, h')) : OkRes nro φ h.ph w v h' ((execOp a.eval ⟨dst, .call c, ty, pos, after, guard⟩).run P w) := by
  have ea := All2.of_map hE c.args.toList hx
  simp only [vop] at hv
  obtain ⟨hv1, rfl⟩ := prodS hv
  generalize hl : List.map (vev env) c.args.toList = l at hv1 ea
  match l, hl, hv1, ea with
  | [], _, hv1, _ => cases hv1
  | [_], _, hv1, _ => cases hv1
  | x :: y :: r, _, hv1, ea =>
    simp only [vminmax] at hv1
    have hxi : ∃ k n, x = .int k n := by
      simp only [vminmaxL] at hv1
      split at hv1
      · rename_i z hz
        unfold vminmax2 at hz
        split at hz
        · exact ⟨_, _, rfl⟩
        · cases hz
      · cases hv1
    obtain ⟨⟨k, n, rfl⟩, h2, h3⟩ := vminmaxL_int (P := P) (w := w) hv1 hxi
    have e2 := ea.ints fun q hq => by rcases List.mem_cons.mp hq with rfl | hq; exact hxi; exact h3 q hq
    refine .quiet (v' := .int k n) hR ?_ (AtomR.int _ _).top
    have e3 : (c.args.map a.eval).toList = x :: y :: r := by rw [Array.toList_map]; exact e2
    have e4 : c.args.map a.eval = (x :: y :: r).toArray := by rw [← e3]
    cases mx <;> simp only [if_true, Bool.false_eq_true, if_false] at hcl h2
    · have e5 : (Builtin.min_ c.argTypes ty (x :: y :: r).toArray).run P w = .ok (.int k n) w := h2
      simp only [execOp, resolve, hcl, Sem.run_bind, Sem.run_pure, Result.andThen_ok, invoke, builtin, e4, e5]
    · have e5 : (Builtin.max_ c.argTypes ty (x :: y :: r).toArray).run P w = .ok (.int k n) w := h2
      simp only [execOp, resolve, hcl, Sem.run_bind, Sem.run_pure, Result.andThen_ok, invoke, builtin, e4, e5]

theorem All2.atoms {φ : Em} {L : PH} : ∀ {xs ys : List Value}, All2 (TopR φ L) xs ys → xs.all isAtom = true → All2 (AtomR φ L) xs ys
  | _, _, .nil, _ => .nil
  | _, _, .cons (a := x) hr t, hx => by
    simp only [List.all_cons, Bool.and_eq_true] at hx
    refine .cons ?_ (All2.atoms t hx.2)
    have hx1 := hx.1
    cases hr with
    | val hr => cases hr with
      | cell hr => cases hr with
        | atom hr => exact hr
        | func => simp [isAtom] at hx1
      | agg => simp [isAtom] at hx1
    | tup => simp [isAtom] at hx1

theorem s_makeFunc (f : Nat) (first caps : Array Operand) (hc : compOp P ⟨dst, .makeFunc (.func f) first caps, ty, pos, after, guard⟩ = some op) (hR : RH nro φ h.ph w) (hE : RE φ h.ph env a)
    (hv : vop call nro (vev env) h op = some (v, h')) : OkRes nro φ h.ph w v h' ((execOp a.eval ⟨dst, .makeFunc (.func f) first caps, ty, pos, after, guard⟩).run P w) := by
  simp only [compOp] at hc
  split at hc
  · rename_i hx
    simp only [Bool.and_eq_true] at hx
    cases hc
    simp only [vop] at hv
    split at hv
    · rename_i hat
      simp only [Bool.and_eq_true] at hat
      simp only [Option.some.injEq, Prod.mk.injEq] at hv
      obtain ⟨rfl, rfl⟩ := hv
      refine .quiet (v' := .func (.func f) (first.map a.eval) (caps.map a.eval)) hR ?_ (.val (.cell (.func f ?_ ?_)))
      · simp [execOp, Instr.makeFunc]
      · simpa using (All2.of_map hE first.toList hx.1).atoms hat.1
      · simpa using (All2.of_map hE caps.toList hx.2).atoms hat.2
    · cases hv
  · cases hc
end
end Go.Proofs.YthpgiimaadohcaaDoor.Zv
