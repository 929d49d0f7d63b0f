/- One operation, calls too; regions in the text's order. -/
import Derived.Test.YthpgiimaadohcaaDoorZvOps9
namespace Go.Proofs.YthpgiimaadohcaaDoor.Zv
open Go

/-- What is told of a call is so. -/
def CallSound (P : Program) (nro : Nat) (call : VCall) : Prop := ∀ f args h v h', call f args h = some (v, h') → ∀ φ w args', nro ≤ h.length → RH nro φ (VH.ph h) w → All2 (TopR φ (VH.ph h)) args args' →
  (∃ fn, P.funcs[f]? = some fn ∧ (fn.name == "runtime.NumGoroutine") = false ∧ fn.body.isSome = true) ∧
  Calls P f args'.toArray w fun e w' => ∃ φ' v', e = .returned v' ∧ RH nro φ' (VH.ph h') w' ∧ X nro φ (VH.ph h) w φ' (VH.ph h') w' ∧ TopR φ' (VH.ph h') v v'

section
variable {P : Program} {nro : Nat} {φ : Em} {h : VH} {w : World} {env : List Value} {a : Act} {v : Value} {h' : VH} {call : VCall} {op : VOp}

/-- What an operation comes to, as a wish of what follows. -/
def Nxt (nro : Nat) (φ : Em) (h : VH) (w : World) (a : Act) (o : Oper) (v : Value) (h' : VH) (K : Act → World → Prop) : Prop :=
  ∀ φ' v' w', RH nro φ' h'.ph w' → X nro φ h.ph w φ' h'.ph w' → TopR φ' h'.ph v v' → K (a.put o.dst v') w'

theorem wp_of_res {o : Oper} {K : Act → World → Prop} {Q : Exit → Act → World → Prop} (hr : OkRes nro φ h.ph w v h' ((execOp a.eval o).run P w)) (hK : Nxt nro φ h w a o v h' K) : o.wp P a w K Q := by
  obtain ⟨φ', w', r1, r2, r3⟩ := hr
  unfold Oper.wp
  rcases r3 with ⟨v', e, hv⟩ | ⟨e, rfl⟩
  · rw [e]
    exact hK φ' v' w' r1 r2 hv
  · rw [e]
    exact hK φ' undef w' r1 r2 .undef

theorem wp_of_enter {o : Oper} {K : Act → World → Prop} {Q : Exit → Act → World → Prop} {f : Nat} {args : Array Value} (he : (execOp a.eval o).run P w = .ok (.enter f args) w)
    (hc : Calls P f args w fun e w' => ∃ φ' v', e = .returned v' ∧ RH nro φ' h'.ph w' ∧ X nro φ h.ph w φ' h'.ph w' ∧ TopR φ' h'.ph v v') (hK : Nxt nro φ h w a o v h' K) : o.wp P a w K Q := by
  unfold Oper.wp
  rw [he]
  refine Calls.mono hc fun e w' => ?_
  rintro ⟨φ', v', rfl, h1, h2, h3⟩
  exact hK φ' v' w' h1 h2 h3

theorem run_enter {c : Call} {dst : Option Tmp} {ty : TypeId} {pos : String} {after : Array Edge} {guard : Option (Nat × Bool)} {f : Nat} {fn : Func} {x : Operand} {first caps : Array Value} (hcl : c.callee = .value x) (hx : a.eval x = .func (.func f) first caps) (hf : P.funcs[f]? = some fn) (hn : (fn.name == "runtime.NumGoroutine") = false) (hb : fn.body.isSome = true) :
    (execOp a.eval ⟨dst, .call c, ty, pos, after, guard⟩).run P w = .ok (.enter f (first ++ c.args.map a.eval ++ caps)) w := by
  have hb2 : ¬ fn.body = none := by intro h; rw [h] at hb; cases hb
  have hn2 : ¬ fn.name = "runtime.NumGoroutine" := by simpa using hn
  simp [execOp, resolve, hcl, hx, Deferred.ofValue, invoke, callFunc, hf, hn2, hb2]

theorem elem_top {φ : Em} {L : PH} : ∀ {xs ys : List Value}, All2 (AtomR φ L) xs ys → All2 (TopR φ L) xs ys := fun h => All2.imp' (fun _ _ h => h.top) h

theorem arr {α : Type} {x : Array α} {l : List α} (h : x.toList = l) : x = l.toArray := by rw [← h]

theorem X.len {nro : Nat} {φs φ : Em} {hs h : VH} {ws w : World} (hX : X nro φs hs.ph ws φ h.ph w) : hs.length ≤ h.length := by
  rcases Nat.eq_zero_or_pos hs.length with h0 | h0
  · omega
  · obtain ⟨o', ho', _⟩ := hX.grow (hs.length - 1) hs[hs.length - 1] (by simp [VH.ph, show hs.length - 1 < hs.length by omega])
    have := VH.ph_lt ho'
    omega

theorem vop_wp (hS : CallSound P nro call) (hnr : nro ≤ h.length) (o : Oper) (hc : compOp P o = some op) (hR : RH nro φ h.ph w) (hE : RE φ h.ph env a) (hv : vop call nro (vev env) h op = some (v, h'))
    {K : Act → World → Prop} {Q : Exit → Act → World → Prop} (hK : Nxt nro φ h w a o v h' K) : o.wp P a w K Q := by
  obtain ⟨dst, oop, ty, pos, after, guard⟩ := o
  cases oop
  case move x => exact wp_of_res (s_move false x hc hR hE hv) hK
  case assign x => exact wp_of_res (s_move true x hc hR hE hv) hK
  case pick c x y => exact wp_of_res (s_pick c x y hc hR hE hv) hK
  case alloc t => exact wp_of_res (s_alloc t hc hR hv) hK
  case box t x => exact wp_of_res (s_box t x hc hR hE hv) hK
  case build t parts => exact wp_of_res (s_build t parts hc hR hE hv) hK
  case buildSlice t n parts => exact wp_of_res (s_buildSlice t n parts hc hR hE hv) hK
  case load t p => exact wp_of_res (s_load t p hc hR hE hv) hK
  case store t p x => exact wp_of_res (s_store t p x hc hR hE hv) hK
  case nilCheck x => exact wp_of_res (s_nilCheck x hc hR hE hv) hK
  case binOp b t x y yt => exact wp_of_res (s_bin b t yt x y hc hR hE hv) hK
  case unOp u t x => exact wp_of_res (s_un u t x hc hR hE hv) hK
  case convert t u x => exact wp_of_res (s_convert t u x hc hR hE hv) hK
  case makeFunc f first caps =>
    cases f with
    | func f => exact wp_of_res (s_makeFunc f first caps hc hR hE hv) hK
    | _ => simp [compOp] at hc
  case makeSlice t l c => exact wp_of_res (s_makeSlice t l c hc hR hE hv) hK
  case slice t x lo hi mx =>
    cases mx with
    | none => exact wp_of_res (s_slice t x lo hi hc hR hE hv) hK
    | some _ => simp [compOp] at hc
  case fieldAddr t p f => exact wp_of_res (s_fieldAddr t p f hc hR hE hv) hK
  case field t x f => exact wp_of_res (s_field t x f hc hR hE hv) hK
  case indexAddr t s i => exact wp_of_res (s_indexAddr t s i hc hR hE hv) hK
  case index t s i => exact wp_of_res (s_index t s i hc hR hE hv) hK
  case extract x i => exact wp_of_res (s_extract x i hc hR hE hv) hK
  case call c =>
    simp only [compOp] at hc
    unfold compCall at hc
    split at hc
    · rename_i f hcl
      split at hc
      · rename_i hx
        cases hc
        simp only [vop] at hv
        have ha := All2.of_map hE c.args.toList hx
        obtain ⟨⟨fn, hf, hn, hb⟩, hcalls⟩ := hS _ _ _ _ _ hv φ w _ hnr hR ha
        refine wp_of_enter (run_enter (first := #[]) (caps := #[]) hcl rfl hf hn hb) ?_ hK
        have e : (#[] ++ c.args.map a.eval ++ #[] : Array Value) = (c.args.toList.map a.eval).toArray := by
          apply Array.ext'
          simp
        rw [e]
        exact hcalls
      · cases hc
    · rename_i x hnf hcl
      split at hc
      · rename_i hx
        simp only [Bool.and_eq_true] at hx
        cases hc
        simp only [vop] at hv
        split at hv
        · rename_i g first caps e1
          have ex := hE.ev hx.2
          rw [e1] at ex
          obtain ⟨g', first', caps', e0, e2, h1, h2⟩ := ex.inv_fn
          cases e0
          have ha := All2.of_map hE c.args.toList hx.1
          have hall := ((elem_top h1).append ha).append (elem_top h2)
          obtain ⟨⟨fn, hf, hn, hb⟩, hcalls⟩ := hS _ _ _ _ _ hv φ w _ hnr hR hall
          refine wp_of_enter (run_enter hcl e2 hf hn hb) ?_ hK
          have e : (first' ++ c.args.map a.eval ++ caps' : Array Value) = (first'.toList ++ c.args.toList.map a.eval ++ caps'.toList).toArray := by
            apply Array.ext'
            simp
          rw [e]
          exact hcalls
        · cases hv
      · cases hc
    · rename_i hcl
      split at hc
      · rename_i t x ht hx
        split at hc
        · rename_i hok
          split at hc
          · rename_i e hu
            cases hc
            exact wp_of_res (s_len c t x false hcl (arr hx) (arr ht) hok ⟨e, hu⟩ hR hE hv) hK
          · rename_i hu
            cases hc
            exact wp_of_res (s_len c t x true hcl (arr hx) (arr ht) hok hu hR hE hv) hK
          · cases hc
        · cases hc
      · cases hc
    · rename_i hcl
      split at hc
      · rename_i t u s x ht hargs
        split at hc
        · rename_i hok
          simp only [Bool.and_eq_true, beq_iff_eq] at hok
          obtain ⟨⟨htu, hs⟩, hx⟩ := hok
          subst htu
          split at hc
          · rename_i e he
            split at hc
            · rename_i z i hz hi
              split at hc
              · rename_i hlim
                simp only [Bool.and_eq_true, decide_eq_true_eq] at hlim
                cases hc
                exact wp_of_res (s_append c t s x e i z hcl (arr hargs) (arr ht) hs hx (elemOf_spec he) hi hz hlim.1 hlim.2 hR hE hv) hK
              · cases hc
            · cases hc
          · cases hc
        · cases hc
      · cases hc
    · rename_i hcl
      split at hc
      · rename_i t x ht hargs
        split at hc
        · rename_i hok
          split at hc
          · rename_i e he
            split at hc
            · rename_i z i hz hi
              split at hc
              · rename_i hlim
                cases hc
                exact wp_of_res (s_clear c t x e i z hcl (arr hargs) (arr ht) hok (elemOf_spec he) hi hz (by simpa using hlim) hR hE hv) hK
              · cases hc
            · cases hc
          · cases hc
        · cases hc
      · cases hc
    · rename_i hcl
      split at hc
      · rename_i t u x y ht hargs
        split at hc
        · rename_i hok
          simp only [Bool.and_eq_true, beq_iff_eq] at hok
          obtain ⟨⟨htu, hx⟩, hy⟩ := hok
          subst htu
          split at hc
          · rename_i e he
            split at hc
            · rename_i i hi
              split at hc
              · cases hc
                exact wp_of_res (s_copy c t x y e i hcl (arr hargs) (arr ht) hx hy (elemOf_spec he) hi hR hE hv) hK
              · cases hc
            · cases hc
          · cases hc
        · cases hc
      · cases hc
    · rename_i hcl
      split at hc
      · rename_i hx
        cases hc
        exact wp_of_res (s_minmax c true hcl hx hR hE hv) hK
      · cases hc
    · rename_i hcl
      split at hc
      · rename_i hx
        cases hc
        exact wp_of_res (s_minmax c false hcl hx hR hE hv) hK
      · cases hc
    · cases hc
  case makeInterface t x => simp only [compOp, Option.some.injEq] at hc; subst hc; cases hv
  case panic x => simp only [compOp, Option.some.injEq] at hc; subst hc; cases hv
  all_goals simp [compOp] at hc

/-- Whether an operation is carried out. -/
theorem wanted_rel {ops : Array Oper} {o : Oper} {g : Option (Nat × Bool)} (hg : compGuard ops o.guard = some g) (hE : RE φ h.ph env a) {b : Bool} (hw : vwanted env g = some b) : Region.wanted o (yielded ops a.tmps) = b := by
  unfold compGuard at hg
  split at hg
  · rename_i hn
    cases hg
    simp only [vwanted, Option.some.injEq] at hw
    subst hw
    simp [Region.wanted, hn]
  · rename_i j want hn
    split at hg
    · rename_i d hd
      cases hg
      have hr := hE.get d
      simp only [vwanted] at hw
      split at hw
      · rename_i t ht
        rw [ht] at hr
        have hb := hr.inv_bool
        simp only [Option.some.injEq] at hw
        subst hw
        have hsome : a.tmps[d]? = some (.bool t) := by
          by_cases hd2 : d < a.tmps.size
          · simp [Array.getD, hd2] at hb
            simp [hd2, hb]
          · simp [Array.getD, hd2] at hb
            cases hb
        simp [Region.wanted, hn, yielded, hd, hsome]
      · rename_i vs ht
        split at hw
        · rename_i h0
          rw [ht] at hr
          obtain ⟨vs', e2, _⟩ := hr.inv_tup
          simp only [Option.some.injEq] at hw
          subst hw
          have hnone : ∀ t, a.tmps[d]? ≠ some (.bool t) := by
            intro t hs
            have : a.tmps.getD d undef = .bool t := by simp [Array.getD_eq_getD_getElem?, hs]
            rw [this] at e2
            cases e2
          have hy : yielded ops a.tmps j = none := by
            unfold yielded
            rw [hd, Option.bind_some]
            split
            · rename_i t' hs; exact absurd hs (hnone _)
            · rfl
          simp only [Region.wanted, hn, hy]
          rfl
        · cases hw
      · cases hw
    · cases hg

theorem Act.put_defers' (a : Act) (d : Option Tmp) (v : Value) : (a.put d v).defers = a.defers := by cases d <;> rfl

theorem vops_wp (hS : CallSound P nro call) (ops : Array Oper) (Q : Exit → Act → World → Prop) : ∀ (l : List Oper) (vs : List VOper) (i : Nat), ops.toList.drop i = l → compOps P ops l = some vs →
    ∀ (φ : Em) (h : VH) (w : World) (env : List Value) (a : Act) (env' : List Value) (h' : VH), nro ≤ h.length → RH nro φ h.ph w → RE φ h.ph env a → vops call nro vs env h = some (env', h') →
    (∀ φ' a' w', RH nro φ' h'.ph w' → RE φ' h'.ph env' a' → X nro φ h.ph w φ' h'.ph w' → a'.defers = a.defers → Q .normal a' w') → wpOps P ops Q (List.range' i l.length) a w
  | [], vs, i, hl, hc, φ, h, w, env, a, env', h', hnr, hR, hE, hv, hQ => by
    cases hc
    simp only [vops, Option.some.injEq, Prod.mk.injEq] at hv
    obtain ⟨rfl, rfl⟩ := hv
    exact hQ φ a w hR hE (.refl _ _ _ _) rfl
  | o :: l, vs, i, hl, hc, φ, h, w, env, a, env', h', hnr, hR, hE, hv, hQ => by
    simp only [compOps] at hc
    split at hc
    · rename_i vo vs' hvo hvs
      cases hc
      have hoi : ops[i]? = some o := by
        have : (ops.toList.drop i)[0]? = some o := by rw [hl]; rfl
        simpa using this
      have hl' : ops.toList.drop (i + 1) = l := by
        rw [← List.drop_drop, hl]; rfl
      unfold compOper at hvo
      split at hvo
      · rename_i op g hop hg
        cases hvo
        simp only [vops] at hv
        simp only [List.length_cons, List.range'_succ, wpOps, hoi]
        split at hv
        · rename_i hw
          rw [if_pos (wanted_rel hg hE hw)]
          split at hv
          · rename_i v h1 hvop
            refine .inl (vop_wp hS hnr o hop hR hE hvop ?_)
            intro φ1 v' w1 hR1 hX1 hv1
            refine vops_wp hS ops Q l vs' (i + 1) hl' hvs φ1 h1 w1 _ _ env' h' (Nat.le_trans hnr hX1.len) hR1 ((hE.grow hX1.grow).put o.dst hv1) hv ?_
            intro φ2 a2 w2 hR2 hE2 hX2 hd2
            exact hQ φ2 a2 w2 hR2 hE2 (hX1.trans hX2) (by rw [hd2, Act.put_defers'])
          · cases hv
        · rename_i hw
          rw [if_neg (by rw [wanted_rel hg hE hw]; simp)]
          refine vops_wp hS ops Q l vs' (i + 1) hl' hvs φ h w _ _ env' h' hnr hR (hE.put o.dst .undef) hv ?_
          intro φ2 a2 w2 hR2 hE2 hX2 hd2
          exact hQ φ2 a2 w2 hR2 hE2 hX2 (by rw [hd2, Act.put_defers'])
        · cases hv
      · cases hvo
    · cases hc
end
end Go.Proofs.YthpgiimaadohcaaDoor.Zv
