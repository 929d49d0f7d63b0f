/- Each operation of the model, as the virtual interpreter tells it. -/
import Derived.Test.YthpgiimaadohcaaDoorZvOps
namespace Go.Proofs.YthpgiimaadohcaaDoor.Zv
open Go

section
variable {P : Program} {nro : Nat} {φ : Em} {h : VH} {w : World} {env : List Value} {a : Act} {dst : Option Tmp} {ty : TypeId} {pos : String} {after : Array Edge} {guard : Option (Nat × Bool)} {v : Value} {h' : VH} {call : VCall} {op : VOp}

theorem s_move (assign : Bool) (x : Operand) (hc : compOp P ⟨dst, if assign then .assign x else .move x, ty, pos, after, guard⟩ = some op) (hR : RH nro φ h.ph w) (hE : RE φ h.ph env a)
    (hv : vop call nro (vev env) h op = some (v, h')) : OkRes nro φ h.ph w v h' ((execOp a.eval ⟨dst, if assign then .assign x else .move x, ty, pos, after, guard⟩).run P w) := by
  cases assign <;>
  · simp only [compOp, Bool.false_eq_true, if_false, if_true] at hc
    split at hc
    · rename_i hx
      cases hc
      simp only [vop, Option.some.injEq, Prod.mk.injEq] at hv
      obtain ⟨rfl, rfl⟩ := hv
      exact .quiet hR rfl (hE.ev hx)
    · cases hc

theorem s_pick (c x y : Operand) (hc : compOp P ⟨dst, .pick c x y, ty, pos, after, guard⟩ = some op) (hR : RH nro φ h.ph w) (hE : RE φ h.ph env a)
    (hv : vop call nro (vev env) h op = some (v, h')) : OkRes nro φ h.ph w v h' ((execOp a.eval ⟨dst, .pick c x y, ty, pos, after, guard⟩).run P w) := by
  simp only [compOp] at hc
  split at hc
  · rename_i hx
    simp only [Bool.and_eq_true] at hx
    cases hc
    simp only [vop] at hv
    split at hv
    · rename_i t ht
      have hb := hE.ev hx.1.1
      rw [ht] at hb
      simp only [Option.some.injEq, Prod.mk.injEq] at hv
      obtain ⟨rfl, rfl⟩ := hv
      refine .quiet (v' := if t then a.eval x else a.eval y) hR ?_ ?_
      · simp [execOp, hb.inv_bool, asBool]
      · cases t
        · exact hE.ev hx.2
        · exact hE.ev hx.1.2
    · cases hv
  · cases hc

theorem AtomR.scalar {φ : Em} {L : PH} {r : Value} (h : (∃ k n, r = .int k n) ∨ (∃ b, r = .bool b) ∨ ∃ s, r = .string s) : AtomR φ L r r := by
  rcases h with ⟨k, n, rfl⟩ | ⟨b, rfl⟩ | ⟨s, rfl⟩
  · exact .int _ _
  · exact .bool _
  · exact .str _

theorem vbin_args {op : BinOp} {x y r : Value} (hv : vbin op x y = some r) : ((∃ k n, x = .int k n) ∧ (∃ k n, y = .int k n)) ∨ ((∃ s, x = .string s) ∧ ∃ s, y = .string s) := by
  unfold vbin at hv
  split at hv
  · exact .inl ⟨⟨_, _, rfl⟩, ⟨_, _, rfl⟩⟩
  · exact .inr ⟨⟨_, rfl⟩, ⟨_, rfl⟩⟩
  · cases hv

theorem run_eqGuard_scalar (op : BinOp) (t : TypeId) (x y : Operand) (u v : Value) (hu : ∀ cs, u ≠ .agg cs) (hn : u ≠ .nilIface) : (eqGuard op t x y u v).run P w = .ok () w := by
  unfold eqGuard
  cases u <;> first
    | (exact absurd rfl (hu _))
    | (exact absurd rfl hn)
    | (cases op <;> simp)

theorem s_bin_core {bop : BinOp} {t yt : TypeId} {x y : Operand} (hR : RH nro φ h.ph w) (hE : RE φ h.ph env a) (hx : okOpd x = true) (hy : okOpd y = true)
    (hv : vop call nro (vev env) h (.bin bop x y) = some (v, h')) : OkRes nro φ h.ph w v h' ((execOp a.eval ⟨dst, .binOp bop t x y yt, ty, pos, after, guard⟩).run P w) := by
  simp only [vop] at hv
  obtain ⟨hv1, rfl⟩ := prodS hv
  replace hv := hv1
  clear hv1
  have ex := hE.ev hx
  have ey := hE.ev hy
  obtain ⟨hr, hs⟩ := run_bin (P := P) (w := w) (t := t) hv
  have key : a.eval x = vev env x ∧ a.eval y = vev env y ∧ (∀ cs, a.eval x ≠ .agg cs) ∧ a.eval x ≠ .nilIface := by
    rcases vbin_args hv with ⟨⟨k, n, e1⟩, ⟨k', n', e2⟩⟩ | ⟨⟨s, e1⟩, ⟨s', e2⟩⟩
    · rw [e1] at ex; rw [e2] at ey
      have ea := ex.inv_int
      have eb := ey.inv_int
      exact ⟨ea.trans e1.symm, eb.trans e2.symm, (fun _ h => by rw [ea] at h; cases h), (fun h => by rw [ea] at h; cases h)⟩
    · rw [e1] at ex; rw [e2] at ey
      have ea := ex.inv_str
      have eb := ey.inv_str
      exact ⟨ea.trans e1.symm, eb.trans e2.symm, (fun _ h => by rw [ea] at h; cases h), (fun h => by rw [ea] at h; cases h)⟩
  obtain ⟨k1, k2, k3, k4⟩ := key
  refine .quiet (v' := v) hR ?_ (AtomR.scalar hs).top
  simp only [execOp, Sem.run_bind, run_eqGuard_scalar bop t x y _ _ k3 k4, Result.andThen_ok]
  rw [k1, k2, hr]
  rfl

theorem run_eq_of {t : TypeId} {x y : Value} {b : Bool} (he : ∀ d, (Op.equalIn (d + 1) t x y).run P w = .ok b w) : (Op.equal t x y).run P w = .ok b w := by
  have := he 9999
  simpa [Op.equal, Op.maxDepth] using this
theorem run_eq_bool {t : TypeId} (ht : P.underlying t = some .bool) (p q : Bool) : (Op.equal t (.bool p) (.bool q)).run P w = .ok (p == q) w :=
  run_eq_of fun d => by simp [Op.equalIn, run_und ht]
theorem run_eq_nilS {t e : TypeId} (ht : P.underlying t = some (.slice e)) : (Op.equal t (.slice none 0 0) (.slice none 0 0)).run P w = .ok true w :=
  run_eq_of fun d => by simp [Op.equalIn, run_und ht]
theorem run_eq_someS {t e : TypeId} (ht : P.underlying t = some (.slice e)) (q : Addr) (m c : Nat) : (Op.equal t (.slice (some q) m c) (.slice none 0 0)).run P w = .ok false w :=
  run_eq_of fun d => by simp [Op.equalIn, run_und ht]
theorem run_eq_nilF {t : TypeId} {ps rs : Array TypeId} {vr : Bool} (ht : P.underlying t = some (.func ps rs vr)) : (Op.equal t .nilFunc .nilFunc).run P w = .ok true w :=
  run_eq_of fun d => by simp [Op.equalIn, run_und ht]
theorem run_eq_someF {t : TypeId} {ps rs : Array TypeId} {vr : Bool} (ht : P.underlying t = some (.func ps rs vr)) (f : Fn) (p q : Array Value) : (Op.equal t (.func f p q) .nilFunc).run P w = .ok false w :=
  run_eq_of fun d => by simp [Op.equalIn, run_und ht]

theorem s_beq_core {neg : Bool} {bop : BinOp} {t yt : TypeId} {x y : Operand} (hop : bop = if neg then .neq else .eql) (ht : P.underlying t = some .bool) (hR : RH nro φ h.ph w) (hE : RE φ h.ph env a) (hx : okOpd x = true) (hy : okOpd y = true)
    (hv : vop call nro (vev env) h (.beq neg x y) = some (v, h')) : OkRes nro φ h.ph w v h' ((execOp a.eval ⟨dst, .binOp bop t x y yt, ty, pos, after, guard⟩).run P w) := by
  simp only [vop] at hv
  obtain ⟨hv1, rfl⟩ := prodS hv
  replace hv := hv1
  clear hv1
  have ex := hE.ev hx
  have ey := hE.ev hy
  unfold vbeq at hv
  split at hv
  · rename_i p q e1 e2
    rw [e1] at ex; rw [e2] at ey
    simp only [Option.some.injEq] at hv
    subst hv
    refine .quiet (v' := .bool (if neg then !(p == q) else p == q)) hR ?_ (AtomR.bool _).top
    simp only [execOp, Sem.run_bind, ex.inv_bool, ey.inv_bool]
    rw [run_eqGuard_scalar bop t x y (.bool p) (.bool q) (fun _ h => by cases h) (fun h => by cases h)]
    subst hop
    cases neg <;> simp [binOp, run_eq_bool ht]
  · cases hv

theorem s_eqnilS_core {neg : Bool} {bop : BinOp} {t e yt : TypeId} {x : Operand} (hop : bop = if neg then .neq else .eql) (ht : P.underlying t = some (.slice e)) (hR : RH nro φ h.ph w) (hE : RE φ h.ph env a) (hx : okOpd x = true)
    (hv : vop call nro (vev env) h (.eqnilS neg x) = some (v, h')) : OkRes nro φ h.ph w v h' ((execOp a.eval ⟨dst, .binOp bop t x (.const (.slice none 0 0)) yt, ty, pos, after, guard⟩).run P w) := by
  simp only [vop] at hv
  have ex := hE.ev hx
  split at hv
  · rename_i e1
    simp only [Option.some.injEq, Prod.mk.injEq] at hv
    obtain ⟨rfl, rfl⟩ := hv
    rw [e1] at ex
    have e2 : a.eval x = .slice none 0 0 := by
      have := ex.inv_sl
      generalize a.eval x = z at this
      cases this
      rfl
    refine .quiet (v' := .bool (!neg)) hR ?_ (AtomR.bool _).top
    simp only [execOp, Sem.run_bind, e2]
    rw [run_eqGuard_scalar bop t x _ (.slice none 0 0) _ (fun _ h => by cases h) (fun h => by cases h)]
    subst hop
    cases neg <;> simp [binOp, Act.eval, run_eq_nilS ht]
  · rename_i p n tot e1
    rw [e1] at ex
    split at hv
    · rename_i o ho
      split at hv
      · rename_i htot
        simp only [Option.some.injEq, Prod.mk.injEq] at hv
        obtain ⟨rfl, rfl⟩ := hv
        have := ex.inv_sl
        obtain ⟨q, m, c, e2⟩ : ∃ q m c, a.eval x = .slice (some q) m c := by
          generalize a.eval x = z at this
          cases this with
          | sl => exact ⟨_, _, _, rfl⟩
          | slS hL ht' h1 => rw [show (VH.ph h) _ = some o from ho] at hL; cases hL; omega
        refine .quiet (v' := .bool neg) hR ?_ (AtomR.bool _).top
        simp only [execOp, Sem.run_bind, e2]
        rw [run_eqGuard_scalar bop t x _ (.slice (some q) m c) _ (fun _ h => by cases h) (fun h => by cases h)]
        subst hop
        cases neg <;> simp [binOp, Act.eval, run_eq_someS ht]
      · cases hv
    · cases hv
  · cases hv

theorem s_eqnilF_core {neg : Bool} {bop : BinOp} {t yt : TypeId} {ps rs : Array TypeId} {vr : Bool} {x : Operand} (hop : bop = if neg then .neq else .eql) (ht : P.underlying t = some (.func ps rs vr)) (hR : RH nro φ h.ph w) (hE : RE φ h.ph env a) (hx : okOpd x = true)
    (hv : vop call nro (vev env) h (.eqnilF neg x) = some (v, h')) : OkRes nro φ h.ph w v h' ((execOp a.eval ⟨dst, .binOp bop t x (.const .nilFunc) yt, ty, pos, after, guard⟩).run P w) := by
  simp only [vop] at hv
  have ex := hE.ev hx
  split at hv
  · rename_i e1
    simp only [Option.some.injEq, Prod.mk.injEq] at hv
    obtain ⟨rfl, rfl⟩ := hv
    rw [e1] at ex
    refine .quiet (v' := .bool (!neg)) hR ?_ (AtomR.bool _).top
    simp only [execOp, Sem.run_bind, ex.inv_nilF]
    rw [run_eqGuard_scalar bop t x _ .nilFunc _ (fun _ h => by cases h) (fun h => by cases h)]
    subst hop
    cases neg <;> simp [binOp, Act.eval, run_eq_nilF ht]
  · rename_i f p q e1
    rw [e1] at ex
    simp only [Option.some.injEq, Prod.mk.injEq] at hv
    obtain ⟨rfl, rfl⟩ := hv
    obtain ⟨g, a', c', _, e2, _, _⟩ := ex.inv_fn
    refine .quiet (v' := .bool neg) hR ?_ (AtomR.bool _).top
    simp only [execOp, Sem.run_bind, e2]
    rw [run_eqGuard_scalar bop t x _ (.func (.func g) a' c') _ (fun _ h => by cases h) (fun h => by cases h)]
    subst hop
    cases neg <;> simp [binOp, Act.eval, run_eq_someF ht]
  · cases hv

theorem s_bin (bop : BinOp) (t yt : TypeId) (x y : Operand) (hc : compOp P ⟨dst, .binOp bop t x y yt, ty, pos, after, guard⟩ = some op) (hR : RH nro φ h.ph w) (hE : RE φ h.ph env a)
    (hv : vop call nro (vev env) h op = some (v, h')) : OkRes nro φ h.ph w v h' ((execOp a.eval ⟨dst, .binOp bop t x y yt, ty, pos, after, guard⟩).run P w) := by
  simp only [compOp] at hc
  split at hc
  · rename_i hx
    simp only [Bool.and_eq_true] at hx
    obtain ⟨hx, hy⟩ := hx
    split at hc
    · split at hc
      · rename_i ht; cases hc; exact s_beq_core (neg := false) rfl ht hR hE hx hy hv
      · cases hc; exact s_bin_core hR hE hx hy hv
      · cases hc; exact s_bin_core hR hE hx hy hv
      · rename_i ht
        split at hc
        · cases hc; exact s_eqnilS_core (neg := false) rfl ht hR hE hx hv
        · cases hc
      · rename_i ht
        split at hc
        · cases hc; exact s_eqnilF_core (neg := false) rfl ht hR hE hx hv
        · cases hc
      · cases hc
    · split at hc
      · rename_i ht; cases hc; exact s_beq_core (neg := true) rfl ht hR hE hx hy hv
      · cases hc; exact s_bin_core hR hE hx hy hv
      · cases hc; exact s_bin_core hR hE hx hy hv
      · rename_i ht
        split at hc
        · cases hc; exact s_eqnilS_core (neg := true) rfl ht hR hE hx hv
        · cases hc
      · rename_i ht
        split at hc
        · cases hc; exact s_eqnilF_core (neg := true) rfl ht hR hE hx hv
        · cases hc
      · cases hc
    · cases hc; exact s_bin_core hR hE hx hy hv
  · cases hc

theorem s_un (uop : UnOp) (t : TypeId) (x : Operand) (hc : compOp P ⟨dst, .unOp uop t x, ty, pos, after, guard⟩ = some op) (hR : RH nro φ h.ph w) (hE : RE φ h.ph env a)
    (hv : vop call nro (vev env) h op = some (v, h')) : OkRes nro φ h.ph w v h' ((execOp a.eval ⟨dst, .unOp uop t x, ty, pos, after, guard⟩).run P w) := by
  simp only [compOp] at hc
  split at hc
  · rename_i hx
    cases hc
    simp only [vop] at hv
    obtain ⟨hv1, rfl⟩ := prodS hv
    replace hv := hv1
    clear hv1
    have ex := hE.ev hx
    obtain ⟨hr, hs⟩ := run_un (P := P) (w := w) hv
    have e : a.eval x = vev env x := by
      unfold vun at hv
      split at hv
      · rename_i e1; rw [e1] at ex ⊢; exact ex.inv_bool
      · rename_i e1; rw [e1] at ex ⊢; exact ex.inv_int
      · cases hv
    refine .quiet (v' := v) hR ?_ (AtomR.scalar (by rcases hs with h | h; exact .inl h; exact .inr (.inl h))).top
    simp only [execOp, Sem.run_bind, e, hr, Result.andThen_ok]
    rfl
  · cases hc

theorem s_convert (t u : TypeId) (x : Operand) (hc : compOp P ⟨dst, .convert t u x, ty, pos, after, guard⟩ = some op) (hR : RH nro φ h.ph w) (hE : RE φ h.ph env a)
    (hv : vop call nro (vev env) h op = some (v, h')) : OkRes nro φ h.ph w v h' ((execOp a.eval ⟨dst, .convert t u x, ty, pos, after, guard⟩).run P w) := by
  simp only [compOp] at hc
  split at hc
  · rename_i hx
    have ex := hE.ev hx
    split at hc
    · rename_i d k hd hk
      cases hc
      simp only [vop] at hv
      split at hv
      · rename_i k0 n e1
        rw [e1] at ex
        simp only [Option.some.injEq, Prod.mk.injEq] at hv
        obtain ⟨rfl, rfl⟩ := hv
        refine .quiet (v' := .int k (k.wrap n)) hR ?_ (AtomR.int _ _).top
        simp [execOp, convert, run_und hd, run_und hk, ex.inv_int, Conv.intToInt]
      · cases hv
    · rename_i hd hk
      cases hc
      simp only [vop] at hv
      split at hv
      · rename_i s e1
        rw [e1] at ex
        simp only [Option.some.injEq, Prod.mk.injEq] at hv
        obtain ⟨rfl, rfl⟩ := hv
        refine .quiet (v' := .string s) hR ?_ (AtomR.str _).top
        simp [execOp, convert, run_und hd, run_und hk, ex.inv_str]
      · cases hv
    · cases hc
  · cases hc

theorem AtomR.inv_ptr_some {φ : Em} {h : VH} {i k tot : Nat} {o : VO} {v' : Value} (hr : AtomR φ h.ph (.pointer (some ⟨i, k, some tot⟩)) v') (ho : h[i]? = some o) (ht : tot = o.cells.length) :
    v' = .pointer (some ⟨(φ i).b, (φ i).off + k, none⟩) := by
  cases hr with
  | ptr => rfl
  | ptrS hL ht' _ => rw [show (VH.ph h) _ = some o from ho] at hL; cases hL; omega

theorem AtomR.inv_sl_some {φ : Em} {h : VH} {i k n tot : Nat} {o : VO} {v' : Value} (hr : AtomR φ h.ph (.slice (some ⟨i, k, none⟩) n tot) v') (ho : h[i]? = some o) (ht : tot = o.cells.length) :
    ∃ q c, v' = .slice (some q) n c ∧ k + n * o.sz ≤ tot ∧ 1 ≤ o.sz ∧ n ≤ c ∧ k + c * o.sz ≤ (φ i).cap ∧ (c = 0 ∨ q = ⟨(φ i).b, (φ i).off + k, none⟩) := by
  cases hr with
  | sl hL ht' hk hs hc hcap ha => rw [show (VH.ph h) _ = some o from ho] at hL; cases hL; exact ⟨_, _, rfl, hk, hs, hc, hcap, ha⟩
  | slS hL ht' _ => rw [show (VH.ph h) _ = some o from ho] at hL; cases hL; omega

/-- A pointer's tag. -/
theorem AtomR.spot_ptr {φ : Em} {L : PH} {p : Addr} {v' : Value} (hr : AtomR φ L (.pointer (some p)) v') : ∃ i k tot, p = ⟨i, k, some tot⟩ := by
  cases hr with
  | ptr => exact ⟨_, _, _, rfl⟩
  | ptrS => exact ⟨_, _, _, rfl⟩
theorem AtomR.spot_sl {φ : Em} {L : PH} {p : Addr} {n c : Nat} {v' : Value} (hr : AtomR φ L (.slice (some p) n c) v') : ∃ i k, p = ⟨i, k, none⟩ := by
  cases hr with
  | sl => exact ⟨_, _, rfl⟩
  | slS => exact ⟨_, _, rfl⟩

theorem vlive_spec {h : VH} {a : Addr} (hl : vlive h a = true) : ∃ o, h[a.block]? = some o ∧ a.spot = some o.cells.length := by
  unfold vlive at hl
  split at hl
  · rename_i o ho; exact ⟨o, ho, by simpa using hl⟩
  · cases hl

theorem TopR.live {φ : Em} {h : VH} {p : Addr} {v' : Value} (hr : TopR φ h.ph (.pointer (some p)) v') (hl : vlive h p = true) :
    ∃ i k o, h[i]? = some o ∧ p = ⟨i, k, some o.cells.length⟩ ∧ v' = .pointer (some ⟨(φ i).b, (φ i).off + k, none⟩) := by
  have hp := hr.inv_ptr
  obtain ⟨i, k, tot, rfl⟩ := hp.spot_ptr
  obtain ⟨o, ho, ht⟩ := vlive_spec hl
  simp only [Option.some.injEq] at ht
  subst ht
  exact ⟨i, k, o, ho, rfl, hp.inv_ptr_some ho rfl⟩

theorem s_nilCheck (x : Operand) (hc : compOp P ⟨dst, .nilCheck x, ty, pos, after, guard⟩ = some op) (hR : RH nro φ h.ph w) (hE : RE φ h.ph env a)
    (hv : vop call nro (vev env) h op = some (v, h')) : OkRes nro φ h.ph w v h' ((execOp a.eval ⟨dst, .nilCheck x, ty, pos, after, guard⟩).run P w) := by
  simp only [compOp] at hc
  split at hc
  · rename_i hx
    cases hc
    have ex := hE.ev hx
    simp only [vop] at hv
    split at hv
    · rename_i p e1
      rw [e1] at ex
      split at hv
      · rename_i hl
        simp only [Option.some.injEq, Prod.mk.injEq] at hv
        obtain ⟨rfl, rfl⟩ := hv
        refine .quiet (v' := a.eval x) hR ?_ ex
        obtain ⟨i, k, o, ho, rfl, e2⟩ := ex.live hl
        simp [execOp, e2]
      · cases hv
    · rename_i f p q e1
      rw [e1] at ex
      simp only [Option.some.injEq, Prod.mk.injEq] at hv
      obtain ⟨rfl, rfl⟩ := hv
      obtain ⟨g, a', c', _, e2, _, _⟩ := ex.inv_fn
      refine .quiet (v' := a.eval x) hR ?_ ex
      simp [execOp, e2]
    · cases hv
  · cases hc

theorem Addr.add_mk (b o n : Nat) : Addr.add ⟨b, o, none⟩ n = ⟨b, o + n, none⟩ := by
  unfold Addr.add
  split
  · subst_vars; rfl
  · rfl

theorem s_fieldAddr (t : TypeId) (x : Operand) (f : Nat) (hc : compOp P ⟨dst, .fieldAddr t x f, ty, pos, after, guard⟩ = some op) (hR : RH nro φ h.ph w) (hE : RE φ h.ph env a)
    (hv : vop call nro (vev env) h op = some (v, h')) : OkRes nro φ h.ph w v h' ((execOp a.eval ⟨dst, .fieldAddr t x f, ty, pos, after, guard⟩).run P w) := by
  simp only [compOp] at hc
  split at hc
  · rename_i hx
    split at hc
    · rename_i fields hf
      split at hc
      · rename_i fd hfd
        split at hc
        · rename_i n hn
          split at hc
          · rename_i h1
            cases hc
            have ex := hE.ev hx
            simp only [vop] at hv
            split at hv
            · rename_i p e1
              rw [e1] at ex
              split at hv
              · rename_i hl
                simp only [Option.some.injEq, Prod.mk.injEq] at hv
                obtain ⟨rfl, rfl⟩ := hv
                obtain ⟨i, k, o, ho, rfl, e2⟩ := ex.live hl
                refine .quiet (v' := .pointer (some ⟨(φ i).b, (φ i).off + (k + fd.offset), none⟩)) hR ?_ (AtomR.ptr ho rfl).top
                have hn0 : ¬ n = 0 := by omega
                simp [execOp, Instr.fieldAt, run_und hf, hfd, e2, Instr.sureAddr, fieldPlace, run_size hn, hn0, Addr.add_mk, Nat.add_assoc]
              · cases hv
            · cases hv
          · cases hc
        · cases hc
      · cases hc
    · cases hc
  · cases hc

theorem run_isAgg {t : TypeId} {b : Bool} (hd : isAggT P t = some b) : (isAgg t).run P w = .ok b w := by
  unfold isAggT at hd
  split at hd
  · rename_i hu; cases hd; simp [isAgg, run_und hu]
  · rename_i hu; cases hd; simp [isAgg, run_und hu]
  · rename_i d h1 h2 hu
    cases hd
    simp only [isAgg, Sem.run_bind, run_und hu, Result.andThen_ok]
    rfl
  · cases hd

theorem All2.extract {α β : Type} {R : α → β → Prop} : ∀ {as : List α} {bs : List β} (i n : Nat), All2 R as bs → All2 R ((as.drop i).take n) ((bs.drop i).take n)
  | _, _, i, n, .nil => by simp; exact .nil
  | _, _, i + 1, n, .cons _ t => by simpa using All2.extract i n t
  | _, _, 0, 0, .cons _ t => by simp; exact .nil
  | _, _, 0, n + 1, .cons h t => by simpa using All2.cons h (by simpa using All2.extract 0 n t)

theorem s_field (t : TypeId) (x : Operand) (f : Nat) (hc : compOp P ⟨dst, .field t x f, ty, pos, after, guard⟩ = some op) (hR : RH nro φ h.ph w) (hE : RE φ h.ph env a)
    (hv : vop call nro (vev env) h op = some (v, h')) : OkRes nro φ h.ph w v h' ((execOp a.eval ⟨dst, .field t x f, ty, pos, after, guard⟩).run P w) := by
  simp only [compOp] at hc
  split at hc
  · rename_i hx
    have ex := hE.ev hx
    split at hc
    · rename_i fields hf
      split at hc
      · rename_i fd hfd
        split at hc
        · rename_i n ha hn
          cases hc
          simp only [vop] at hv
          split at hv
          · rename_i cs e1
            rw [e1] at ex
            obtain ⟨cs', e2, hcs⟩ := ex.inv_agg
            split at hv
            · rename_i hle
              simp only [if_true, Option.some.injEq, Prod.mk.injEq] at hv
              obtain ⟨rfl, rfl⟩ := hv
              refine .quiet (v' := .agg (cs'.extract fd.offset (fd.offset + n))) hR ?_ (.val (.agg ?_))
              · simp [execOp, Instr.field, run_und hf, hfd, e2, asAgg, part, run_isAgg ha, run_size hn]
              · have := hcs.extract fd.offset n
                simpa [Array.toList_extract, List.extract_eq_take_drop] using this
            · cases hv
          · cases hv
        · rename_i ha hn
          cases hc
          simp only [vop] at hv
          split at hv
          · rename_i cs e1
            rw [e1] at ex
            obtain ⟨cs', e2, hcs⟩ := ex.inv_agg
            split at hv
            · rename_i hle
              simp only [Bool.false_eq_true, if_false] at hv
              split at hv
              · rename_i u hu
                simp only [Option.some.injEq, Prod.mk.injEq] at hv
                obtain ⟨rfl, rfl⟩ := hv
                obtain ⟨u', hu', hr⟩ := hcs.get' fd.offset u (by simpa using hu)
                have hu2 : cs'[fd.offset]? = some u' := by simpa using hu'
                refine .quiet (v' := u') hR ?_ (.val (.cell hr))
                simp [execOp, Instr.field, run_und hf, hfd, e2, asAgg, part, run_isAgg ha, hu2]
              · cases hv
            · cases hv
          · cases hv
        · cases hc
      · cases hc
    · cases hc
  · cases hc

theorem s_indexAddr (t : TypeId) (s i : Operand) (hc : compOp P ⟨dst, .indexAddr t s i, ty, pos, after, guard⟩ = some op) (hR : RH nro φ h.ph w) (hE : RE φ h.ph env a)
    (hv : vop call nro (vev env) h op = some (v, h')) : OkRes nro φ h.ph w v h' ((execOp a.eval ⟨dst, .indexAddr t s i, ty, pos, after, guard⟩).run P w) := by
  simp only [compOp] at hc
  split at hc
  · rename_i hx
    simp only [Bool.and_eq_true] at hx
    obtain ⟨hx, hi⟩ := hx
    have ex := hE.ev hx
    have ei := hE.ev hi
    split at hc
    · rename_i e he
      split at hc
      · rename_i n hn
        split at hc
        · rename_i h1
          cases hc
          simp only [vop] at hv
          split at hv
          · rename_i p m tot k j e1 e2
            rw [e1] at ex
            rw [e2] at ei
            split at hv
            · rename_i o ho
              split at hv
              · rename_i hcond
                obtain ⟨hsz, htot, hj0, hj1⟩ := hcond
                simp only [Option.some.injEq, Prod.mk.injEq] at hv
                obtain ⟨rfl, rfl⟩ := hv
                have hs := ex.inv_sl
                obtain ⟨q, k', rfl⟩ := hs.spot_sl
                obtain ⟨r, c, e3, hk, h1', hc, hcap, ha⟩ := hs.inv_sl_some ho htot
                have hr : r = ⟨(φ q).b, (φ q).off + k', none⟩ := ha.resolve_left (by omega)
                subst hr
                refine .quiet (v' := .pointer (some ⟨(φ q).b, (φ q).off + (k' + j.toNat * n), none⟩)) hR ?_ (AtomR.ptr ho htot).top
                simp [execOp, Instr.indexAt, ei.inv_int, asIntOf, run_und he, e3, run_size hn, hj0, hj1, Addr.add_mk, Nat.add_assoc]
              · cases hv
            · cases hv
          · cases hv
        · cases hc
      · cases hc
    · cases hc
  · cases hc

theorem s_index (t : TypeId) (s i : Operand) (hc : compOp P ⟨dst, .index t s i, ty, pos, after, guard⟩ = some op) (hR : RH nro φ h.ph w) (hE : RE φ h.ph env a)
    (hv : vop call nro (vev env) h op = some (v, h')) : OkRes nro φ h.ph w v h' ((execOp a.eval ⟨dst, .index t s i, ty, pos, after, guard⟩).run P w) := by
  simp only [compOp] at hc
  split at hc
  · rename_i hx
    simp only [Bool.and_eq_true] at hx
    obtain ⟨hx, hi⟩ := hx
    have ex := hE.ev hx
    have ei := hE.ev hi
    split at hc
    · rename_i he
      cases hc
      simp only [vop] at hv
      split at hv
      · rename_i b k j e1 e2
        rw [e1] at ex
        rw [e2] at ei
        split at hv
        · rename_i y hy
          simp only [Option.some.injEq, Prod.mk.injEq] at hv
          obtain ⟨rfl, rfl⟩ := hv
          refine .quiet (v' := .int .u8 y.toNat) hR ?_ (AtomR.int _ _).top
          simp [execOp, Instr.index, ei.inv_int, asIntOf, run_und he, ex.inv_str, hy]
        · cases hv
      · cases hv
    · cases hc
  · cases hc

theorem s_extract (x : Operand) (i : Nat) (hc : compOp P ⟨dst, .extract x i, ty, pos, after, guard⟩ = some op) (hR : RH nro φ h.ph w) (hE : RE φ h.ph env a)
    (hv : vop call nro (vev env) h op = some (v, h')) : OkRes nro φ h.ph w v h' ((execOp a.eval ⟨dst, .extract x i, ty, pos, after, guard⟩).run P w) := by
  simp only [compOp] at hc
  split at hc
  · rename_i hx
    have ex := hE.ev hx
    cases hc
    simp only [vop] at hv
    split at hv
    · rename_i vs e1
      rw [e1] at ex
      obtain ⟨vs', e2, hvs⟩ := ex.inv_tup
      split at hv
      · rename_i u hu
        simp only [Option.some.injEq, Prod.mk.injEq] at hv
        obtain ⟨rfl, rfl⟩ := hv
        obtain ⟨u', hu', hr⟩ := hvs.get' i u (by simpa using hu)
        have hu2 : vs'[i]? = some u' := by simpa using hu'
        refine .quiet (v' := u') hR ?_ (.val hr)
        simp [execOp, Instr.extract, e2, hu2]
      · cases hv
    · cases hv
  · cases hc
end
end Go.Proofs.YthpgiimaadohcaaDoor.Zv
