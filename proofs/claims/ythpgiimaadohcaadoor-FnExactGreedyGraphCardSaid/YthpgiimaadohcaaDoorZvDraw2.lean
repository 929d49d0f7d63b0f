/- Regions whose order is open: any order comes to what the virtual interpreter tells. -/
import Derived.Test.YthpgiimaadohcaaDoorZvDraw
namespace Go.Proofs.YthpgiimaadohcaaDoor.Zv
open Go

theorem mapH {α : Type} {x : Option α} {f : α → Value × VH} {h h' : VH} {v : Value} (hf : ∀ z, (f z).2 = h) (hv : x.map f = some (v, h')) : h' = h := by
  obtain ⟨z, _, hz⟩ := mapS hv
  have := hf z
  rw [hz] at this
  exact this

theorem vop_noneff {call : VCall} {nro : Nat} {ev : Operand → Value} {h h' : VH} {op : VOp} {v : Value} (he : op.eff = false) (hv : vop call nro ev h op = some (v, h')) : h' = h := by
  cases op
  case bin => exact mapH (fun _ => rfl) hv
  case beq => exact mapH (fun _ => rfl) hv
  case un => exact mapH (fun _ => rfl) hv
  case build => exact mapH (fun _ => rfl) hv
  case load => exact mapH (fun _ => rfl) hv
  case slc => exact mapH (fun _ => rfl) hv
  case slcStr => exact mapH (fun _ => rfl) hv
  case minmax => exact mapH (fun _ => rfl) hv
  case box => cases he
  case alloc => cases he
  case buildSl => cases he
  case mkSl => cases he
  case store => cases he
  case app => cases he
  case call => cases he
  case callv => cases he
  case clr => cases he
  case cpy => cases he
  case stop => cases he
  all_goals
    simp only [vop] at hv
    repeat' split at hv
    all_goals
      first
        | (cases hv; done)
        | (simp only [Option.some.injEq, Prod.mk.injEq] at hv; exact hv.2.symm)

theorem mem_opds_map {ps : List (Nat × Nat × Operand)} {ev ev' : Operand → Value} (h : ∀ x ∈ ps.map (·.2.2), ev x = ev' x) : (ps.map fun p => (p.1, p.2.1, ev p.2.2)) = ps.map fun p => (p.1, p.2.1, ev' p.2.2) := by
  apply List.map_congr_left
  intro p hp
  rw [h p.2.2 (List.mem_map.mpr ⟨p, hp, rfl⟩)]

theorem omap_congr {x : Option Operand} {ev ev' : Operand → Value} (h : ∀ y ∈ x.toList, ev y = ev' y) : x.map ev = x.map ev' := by
  cases x with
  | none => rfl
  | some y => simp [h y (by simp)]

theorem vop_congr {call : VCall} {nro : Nat} {ev ev' : Operand → Value} {h : VH} {op : VOp} (he : ∀ x ∈ opds op, ev x = ev' x) : vop call nro ev h op = vop call nro ev' h op := by
  cases op with
  | build z ps => simp only [vop]; rw [mem_opds_map (ev := ev) (ev' := ev') (by simpa [opds] using he)]
  | buildSl sz z ps n => simp only [vop]; rw [mem_opds_map (ev := ev) (ev' := ev') (by simpa [opds] using he)]
  | slc sz x lo hi => simp only [vop]; rw [he x (by simp [opds]), omap_congr fun y hy => he y (by simp only [opds, List.mem_cons, List.mem_append]; exact .inr (.inl hy)), omap_congr fun y hy => he y (by simp only [opds, List.mem_cons, List.mem_append]; exact .inr (.inr hy))]
  | slcStr x lo hi => simp only [vop]; rw [he x (by simp [opds]), omap_congr fun y hy => he y (by simp only [opds, List.mem_cons, List.mem_append]; exact .inr (.inl hy)), omap_congr fun y hy => he y (by simp only [opds, List.mem_cons, List.mem_append]; exact .inr (.inr hy))]
  | minmax mx xs => simp only [vop]; rw [List.map_congr_left fun y hy => he y (by simpa [opds] using hy)]
  | call f xs => simp only [vop]; rw [List.map_congr_left fun y hy => he y (by simpa [opds] using hy)]
  | callv f xs => simp only [vop]; rw [he f (by simp [opds]), List.map_congr_left fun y hy => he y (by simp [opds, hy])]
  | mkfn f a b => simp only [vop]; rw [List.map_congr_left (l := a) fun y hy => he y (by simp [opds, hy]), List.map_congr_left (l := b) fun y hy => he y (by simp [opds, hy])]
  | pick a b c => simp only [vop]; rw [he a (by simp [opds]), he b (by simp [opds]), he c (by simp [opds])]
  | bin o x y => simp only [vop]; rw [he x (by simp [opds]), he y (by simp [opds])]
  | beq o x y => simp only [vop]; rw [he x (by simp [opds]), he y (by simp [opds])]
  | store n x y => simp only [vop]; rw [he x (by simp [opds]), he y (by simp [opds])]
  | idx n x y => simp only [vop]; rw [he x (by simp [opds]), he y (by simp [opds])]
  | idxStr x y => simp only [vop]; rw [he x (by simp [opds]), he y (by simp [opds])]
  | mkSl n z b x y => simp only [vop]; rw [he x (by simp [opds]), he y (by simp [opds])]
  | app n b z x y => simp only [vop]; rw [he x (by simp [opds]), he y (by simp [opds])]
  | alloc z => rfl
  | mv x => simp only [vop]; rw [he x (by simp [opds])]
  | un o x => simp only [vop]; rw [he x (by simp [opds])]
  | conv o x => simp only [vop]; rw [he x (by simp [opds])]
  | mvStr x => simp only [vop]; rw [he x (by simp [opds])]
  | eqnilS o x => simp only [vop]; rw [he x (by simp [opds])]
  | eqnilF o x => simp only [vop]; rw [he x (by simp [opds])]
  | box n x => simp only [vop]; rw [he x (by simp [opds])]
  | load g n x => simp only [vop]; rw [he x (by simp [opds])]
  | nilchk x => simp only [vop]; rw [he x (by simp [opds])]
  | fld n x => simp only [vop]; rw [he x (by simp [opds])]
  | fieldv g o n x => simp only [vop]; rw [he x (by simp [opds])]
  | ext x i => simp only [vop]; rw [he x (by simp [opds])]
  | len x => simp only [vop]; rw [he x (by simp [opds])]
  | lenStr x => simp only [vop]; rw [he x (by simp [opds])]
  | clr n z x => simp only [vop]; rw [he x (by simp [opds])]
  | cpy n x y => simp only [vop]; rw [he x (by simp [opds]), he y (by simp [opds])]
  | stop => rfl

def StepR (call : VCall) (nro : Nat) (o : VOper) (e : List Value) (h : VH) (g : List VH) (v : Value) (e' : List Value) (h' : VH) (g' : List VH) : Prop :=
  (o.op.eff = true → g' = h :: g) ∧ (o.op.eff = false → h' = h ∧ g' = g) ∧
  ((vwanted e o.guard = some true ∧ vop call nro (vev e) h o.op = some (v, h') ∧ e' = vput e o.dst v ∧ (o.op.eff = false → ∀ x ∈ g.take o.chk, vop call nro (vev e) x o.op = some (v, x))) ∨
   (vwanted e o.guard = some false ∧ v = undef ∧ e' = vput e o.dst undef ∧ h' = h))

theorem vdops_trace {call : VCall} {nro : Nat} : ∀ (os : List VOper) (env : List Value) (h : VH) (hs : List VH) (r : List Value × VH), vdops call nro os env h hs = some r →
    ∃ (E : Nat → List Value) (H : Nat → VH) (G : Nat → List VH) (V : Nat → Value), E 0 = env ∧ H 0 = h ∧ G 0 = hs ∧ E os.length = r.1 ∧ H os.length = r.2 ∧
      ∀ (t : Nat) o, os[t]? = some o → StepR call nro o (E t) (H t) (G t) (V t) (E (t + 1)) (H (t + 1)) (G (t + 1))
  | [], env, h, hs, r, hr => by
    simp only [vdops, Option.some.injEq] at hr
    subst hr
    exact ⟨fun _ => env, fun _ => h, fun _ => hs, fun _ => undef, rfl, rfl, rfl, rfl, rfl, fun t o ho => by simp at ho⟩
  | o :: os, env, h, hs, r, hr => by
    have key : ∃ v e' h' g', StepR call nro o env h hs v e' h' g' ∧ vdops call nro os e' h' g' = some r := by
      simp only [vdops] at hr
      split at hr
      · rename_i hw
        split at hr
        · rename_i v h' hv
          split at hr
          · rename_i he
            exact ⟨v, _, h', _, ⟨fun _ => rfl, (fun h => absurd (he.symm.trans h) (by simp)), .inl ⟨hw, hv, rfl, (fun h => absurd (he.symm.trans h) (by simp))⟩⟩, hr⟩
          · rename_i he
            have he : o.op.eff = false := by simpa using he
            split at hr
            · rename_i hall
              exact ⟨v, _, h', _, ⟨(fun h => absurd (he.symm.trans h) (by simp)), fun _ => ⟨vop_noneff he hv, rfl⟩, .inl ⟨hw, hv, rfl, fun _ => hall⟩⟩, hr⟩
            · cases hr
        · cases hr
      · rename_i hw
        refine ⟨undef, _, h, _, ⟨fun he => if_pos he, fun he => ⟨rfl, if_neg (by rw [he]; simp)⟩, .inr ⟨hw, rfl, rfl, rfl⟩⟩, hr⟩
      · cases hr
    obtain ⟨v, e', h', g', hs', hr'⟩ := key
    obtain ⟨E, H, G, V, h1, h2, h3, h4, h5, h6⟩ := vdops_trace os e' h' g' r hr'
    refine ⟨fun t => match t with | 0 => env | t + 1 => E t, fun t => match t with | 0 => h | t + 1 => H t, fun t => match t with | 0 => hs | t + 1 => G t, fun t => match t with | 0 => v | t + 1 => V t, rfl, rfl, rfl, h4, h5, ?_⟩
    intro t o' ho
    cases t with
    | zero =>
      simp at ho
      subst ho
      simp only [h1, h2, h3]
      exact hs'
    | succ t => exact h6 t o' (by simpa using ho)

theorem compOps_get {P : Program} {ops : Array Oper} : ∀ {l : List Oper} {vs : List VOper}, compOps P ops l = some vs → vs.length = l.length ∧ ∀ (i : Nat) o, l[i]? = some o → ∃ vo, vs[i]? = some vo ∧ compOper P ops o = some vo
  | [], vs, h => by cases h; exact ⟨rfl, fun i o ho => by simp at ho⟩
  | o :: l, vs, h => by
    simp only [compOps] at h
    split at h
    · rename_i v vs' hv hvs
      cases h
      obtain ⟨h1, h2⟩ := compOps_get hvs
      refine ⟨by simp [h1], fun i o' ho => ?_⟩
      cases i with
      | zero => simp at ho; subst ho; exact ⟨v, rfl, hv⟩
      | succ i => exact h2 i o' (by simpa using ho)
    · cases h

theorem okOrder_get {fs : List Nat} {ops : Array Oper} {B : Array Nat} {vs : Array VOper} : ∀ {π before : List Nat}, okOrder fs ops B vs before π = true → ∀ (t i : Nat), π[t]? = some i → okOrderAt fs ops B vs (before ++ π.take t) i = true
  | [], _, _, t, i, hi => by simp at hi
  | j :: π, before, h, t, i, hi => by
    simp only [okOrder, Bool.and_eq_true] at h
    cases t with
    | zero => simp at hi; subst hi; simpa using h.1
    | succ t =>
      have := okOrder_get h.2 t i (by simpa using hi)
      simpa using this

theorem laid_get {fs : List Nat} {B : Array Nat} {vs : Array VOper} : ∀ {π before : List Nat} (t i : Nat), π[t]? = some i → (laid fs B vs before π)[t]? = some { vs.getD i ⟨none, .alloc [], none, 0⟩ with chk := chkOf fs B vs (before ++ π.take t) i }
  | [], _, t, i, hi => by simp at hi
  | j :: π, before, t, i, hi => by
    cases t with
    | zero => simp at hi; subst hi; simp [laid]
    | succ t =>
      have := laid_get (fs := fs) (B := B) (vs := vs) (π := π) (before := before ++ [j]) t i (by simpa using hi)
      simpa [laid] using this
theorem laid_length {fs : List Nat} {B : Array Nat} {vs : Array VOper} : ∀ {π before : List Nat}, (laid fs B vs before π).length = π.length
  | [], _ => rfl
  | _ :: π, before => by simp [laid, laid_length (π := π)]

theorem X.heap_eq {nro : Nat} {φ : Em} {L : PH} {w w1 : World} (e : w1.heap = w.heap) (hrest : w1.os = w.os ∧ w1.tape = w.tape ∧ w1.output = w.output) : X nro φ L w φ L w1 :=
  ⟨fun _ o h => ⟨o, h, rfl, Nat.le_refl _, fun _ => rfl⟩, fun _ h _ => .inl ⟨h, rfl⟩, by rw [e]; exact Nat.le_refl _, (fun _ _ _ => by rw [e]), hrest, fun _ _ _ => rfl⟩
end Go.Proofs.YthpgiimaadohcaaDoor.Zv
