/- Part E of the proof: ZwMoore2, ZwLL, ZwLawGreedy, ZwFits, ZwSearch, ZwFound, ZwSearch2, ZwFirst, ZwFirst2, ZwLawFirst. Conditions: none. -/
import Derived.Test.YthpgiimaadohcaaDoorZpD
set_option linter.unusedSimpArgs false
set_option linter.unusedVariables false
/- A regular graph without short cycles has many vertices: the count. -/
namespace Go.Proofs.YthpgiimaadohcaaDoor.Zv
open Go
open Classical

noncomputable def nL (rows : List Int) (S : Nat → Prop) (n i : Nat) : Int := sumF (fun x => oneIf (Lvl rows S i x)) n
noncomputable def nR (rows : List Int) (S : Nat → Prop) (n i : Nat) : Int := sumF (fun x => oneIf (Rch rows S i x)) n
theorem nR_le (rows : List Int) (S : Nat → Prop) (n i : Nat) : nR rows S n i ≤ n := by
  have h : ∀ m : Nat, sumF (fun _ => 1) m = m := by
    intro m
    induction m with
    | zero => rfl
    | succ m ih => rw [sumF, ih]; omega
  rw [← h n]
  exact sumF_le fun x _ => one_le _
theorem nR_zero (rows : List Int) (S : Nat → Prop) (n : Nat) : nR rows S n 0 = nL rows S n 0 := rfl
theorem nR_succ (rows : List Int) (S : Nat → Prop) (n i : Nat) : nR rows S n (i + 1) = nR rows S n i + nL rows S n (i + 1) := by
  unfold nR nL
  rw [← sumF_add]
  apply sumF_congr
  intro x _
  by_cases h : Rch rows S i x
  · rw [one_pos h, one_neg (fun e : Lvl rows S (i + 1) x => e.2 h), one_pos (show Rch rows S (i + 1) x from .inl h)]; omega
  · rw [one_neg h]
    by_cases h2 : Rch rows S (i + 1) x
    · rw [one_pos h2, one_pos (show Lvl rows S (i + 1) x from ⟨h2, h⟩)]; omega
    · rw [one_neg h2, one_neg (fun e : Lvl rows S (i + 1) x => h2 e.1)]; omega

section
variable {n : Nat} {rows : List Int} (g : GV n rows)
include g

theorem nL_step {S : Nat → Prop} {e c : Nat} (hc : NoSh rows c) (hS : St rows S e) {i : Nat} (h1 : 2 * (i + 1) + e < c) {k : Int} (hk : ∀ x, x < n → Lvl rows S i x → k ≤ sumF (fun y => oneIf (rbit rows x y = true ∧ Lvl rows S (i + 1) y)) n) :
    k * nL rows S n i ≤ nL rows S n (i + 1) := by
  unfold nL
  rw [← sumF_mul]
  have a1 : sumF (fun x => k * oneIf (Lvl rows S i x)) n ≤ sumF (fun x => sumF (fun y => oneIf (Lvl rows S i x ∧ rbit rows x y = true ∧ Lvl rows S (i + 1) y)) n) n := by
    apply sumF_le
    intro x hx
    by_cases h : Lvl rows S i x
    · rw [one_pos h]
      have h2 := hk x hx h
      have h3 : sumF (fun y => oneIf (Lvl rows S i x ∧ rbit rows x y = true ∧ Lvl rows S (i + 1) y)) n = sumF (fun y => oneIf (rbit rows x y = true ∧ Lvl rows S (i + 1) y)) n := sumF_congr fun y _ => by simp only [h, true_and]
      rw [h3]; omega
    · rw [one_neg h]
      have := sumF_nonneg (f := fun y => oneIf (Lvl rows S i x ∧ rbit rows x y = true ∧ Lvl rows S (i + 1) y)) (n := n) fun y _ => one_nonneg _
      omega
  refine Int.le_trans a1 ?_
  rw [sumF_swap]
  apply sumF_le
  intro y _
  by_cases h : Lvl rows S (i + 1) y
  · rw [one_pos h]
    apply sumF_most
    intro x x' _ _ hx hx'
    rcases Classical.em (x = x') with h2 | h2
    · exact h2
    · exact (no_two g hc hS h1 h.2 hx.1.rch hx'.1.rch h2 (g.sym' hx.2.1) (g.sym' hx'.2.1)).elim
  · rw [one_neg h]
    have : sumF (fun x => oneIf (Lvl rows S i x ∧ rbit rows x y = true ∧ Lvl rows S (i + 1) y)) n = sumF (fun _ => 0) n := sumF_congr fun x _ => one_neg fun e => h e.2.2
    rw [this, sumF_zero]; omega

theorem nL_many {S : Nat → Prop} {e c : Nat} (hc : NoSh rows c) (hS : St rows S e) {j : Nat} (h1 : 2 * (j + 1) + 1 + e < c) {k : Int} (hk : ∀ v, v < n → (deg rows v : Int) = k) :
    ∀ x, x < n → Lvl rows S (j + 1) x → k - 1 ≤ sumF (fun y => oneIf (rbit rows x y = true ∧ Lvl rows S (j + 1 + 1) y)) n := by
  intro x hx hl
  have d := hk x hx
  rw [deg_sum g.rok hx] at d
  have a1 : sumF (fun y => oneIf (rbit rows x y = true)) n ≤ sumF (fun y => oneIf (rbit rows x y = true ∧ Rch rows S j y) + oneIf (rbit rows x y = true ∧ Lvl rows S (j + 1 + 1) y)) n := by
    apply sumF_le
    intro y _
    have b1 := one_nonneg (rbit rows x y = true ∧ Rch rows S j y)
    have b2 := one_nonneg (rbit rows x y = true ∧ Lvl rows S (j + 1 + 1) y)
    by_cases h : rbit rows x y = true
    · rw [one_pos h]
      by_cases h2 : Rch rows S j y
      · rw [one_pos ⟨h, h2⟩]; omega
      · by_cases h3 : Rch rows S (j + 1) y
        · exact (no_side g hc hS h1 hl ⟨h3, h2⟩ h).elim
        · rw [one_pos (show rbit rows x y = true ∧ Lvl rows S (j + 1 + 1) y from ⟨h, .inr ⟨x, hl.rch, h⟩, h3⟩)]; omega
    · rw [one_neg h]; omega
  rw [sumF_add] at a1
  have a2 : sumF (fun y => oneIf (rbit rows x y = true ∧ Rch rows S j y)) n ≤ 1 := by
    apply sumF_most
    intro y y' _ _ hy hy'
    rcases Classical.em (y = y') with h2 | h2
    · exact h2
    · exact (no_two g hc hS (by omega) hl.2 hy.2 hy'.2 h2 hy.1 hy'.1).elim
  omega

/-- From a vertex. -/
theorem moore_odd {c : Nat} (hc : NoSh rows c) {k : Int} (hk : ∀ v, v < n → (deg rows v : Int) = k) (hk1 : 1 ≤ k) (D : Nat) (hD : 2 * D < c) : 1 + k * pS (k - 1) D ≤ n := by
  have hn0 : 0 < n := by have := g.lo; omega
  have hS : St rows (fun x => x = 0) 0 := ⟨fun s s' p q h1 h2 _ _ => ⟨0, Nat.le_refl _, by rw [h1, h2]; rfl⟩⟩
  have z : nL rows (fun x => x = 0) n 0 = 1 := by
    have : nL rows (fun x => x = 0) n 0 = oneIf ((0 : Nat) = 0) := sumF_one (f := fun x => oneIf (Lvl rows (fun x => x = 0) 0 x)) hn0 fun i _ hne => one_neg hne
    rw [this, one_pos rfl]
  have up : ∀ i, i + 1 ≤ D → k * pw (k - 1) i ≤ nL rows (fun x => x = 0) n (i + 1) := by
    intro i
    induction i with
    | zero =>
      intro h
      have := nL_step g hc hS (i := 0) (k := k) (by omega) fun x hx hl => by
        have hl : x = 0 := hl
        subst hl
        have d := hk 0 hx
        rw [deg_sum g.rok hx] at d
        rw [← d]
        refine sumF_le fun y _ => one_imp fun e => ⟨e, .inr ⟨0, rfl, e⟩, fun e2 => ?_⟩
        exact g.ne e (Eq.symm e2)
      rw [z] at this
      rw [pw]; exact this
    | succ i ih =>
      intro h
      have h1 := ih (by omega)
      have := nL_step g hc hS (i := i + 1) (k := k - 1) (by omega) (nL_many g hc hS (by omega) hk)
      refine Int.le_trans ?_ this
      have h2 := Int.mul_le_mul_of_nonneg_left h1 (show 0 ≤ k - 1 by omega)
      refine Int.le_trans ?_ h2
      have h3 : pw (k - 1) (i + 1) ≤ pw (k - 1) i * (k - 1) := by rw [pw]; omega
      have h4 := Int.mul_le_mul_of_nonneg_left h3 (show 0 ≤ k by omega)
      have e : (k - 1) * (k * pw (k - 1) i) = k * (pw (k - 1) i * (k - 1)) := by rw [Int.mul_left_comm, Int.mul_comm (k - 1)]
      rw [e]; exact h4
  have tot : ∀ i, i ≤ D → 1 + k * pS (k - 1) i ≤ nR rows (fun x => x = 0) n i := by
    intro i
    induction i with
    | zero => intro _; rw [nR_zero, z, pS]; omega
    | succ i ih =>
      intro h
      have h1 := ih (by omega)
      have h2 := up i h
      rw [nR_succ]
      have h3 : pS (k - 1) (i + 1) ≤ pS (k - 1) i + pw (k - 1) i := by rw [pS]; omega
      have h4 := Int.mul_le_mul_of_nonneg_left h3 (show 0 ≤ k by omega)
      rw [Int.mul_add] at h4
      omega
  exact Int.le_trans (tot D (Nat.le_refl _)) (nR_le ..)

/-- From an edge. -/
theorem moore_even {c : Nat} (hc : NoSh rows c) {k : Int} (hk : ∀ v, v < n → (deg rows v : Int) = k) (hk1 : 1 ≤ k) (D : Nat) (hD : 2 * D + 1 < c) : 2 * pS (k - 1) (D + 1) ≤ n := by
  have hn0 : 0 < n := by have := g.lo; omega
  obtain ⟨b, hb, hab⟩ : ∃ b, b < n ∧ rbit rows 0 b = true := by
    apply Classical.byContradiction
    intro h
    have d := hk 0 hn0
    rw [deg_sum g.rok hn0] at d
    have : sumF (fun w => oneIf (rbit rows 0 w = true)) n = sumF (fun _ => 0) n := sumF_congr fun w hw => one_neg fun e => h ⟨w, hw, e⟩
    rw [this, sumF_zero] at d
    omega
  have hne : (0 : Nat) ≠ b := g.ne hab
  obtain ⟨S, hSd⟩ : ∃ S : Nat → Prop, S = fun x => x = 0 ∨ x = b := ⟨_, rfl⟩
  have hS : St rows S 1 := by
    rw [hSd]
    refine ⟨fun s s' p q h1 h2 hpq hn => ?_⟩
    have hs : ∀ u v, rbit rows u v = true → (u = 0 ∨ u = b) → (v = 0 ∨ v = b) → Wk (cut2 rows p q) 1 u v := by
      intro u v huv hu hv
      refine ⟨u, rfl, ?_⟩
      rw [cut_iff g hpq]
      refine ⟨huv, ?_⟩
      rintro (⟨rfl, rfl⟩ | ⟨rfl, rfl⟩)
      · exact hn ⟨hu, hv⟩
      · exact hn ⟨hv, hu⟩
    by_cases e : s = s'
    · exact ⟨0, by omega, e⟩
    · refine ⟨1, Nat.le_refl _, hs s s' ?_ h1 h2⟩
      rcases h1 with rfl | rfl <;> rcases h2 with rfl | rfl
      · exact absurd rfl e
      · exact hab
      · exact g.sym' hab
      · exact absurd rfl e
  have z : nL rows S n 0 = 2 := by
    have e : nL rows S n 0 = sumF (fun x => oneIf (x = 0) + oneIf (x = b)) n := sumF_congr fun x _ => by
      subst hSd
      by_cases h1 : x = 0
      · have h2 : ¬ x = b := fun h => hne (h1 ▸ h)
        rw [one_pos h1, one_neg h2, one_pos (show Lvl rows (fun x => x = 0 ∨ x = b) 0 x from .inl h1)]; omega
      · by_cases h2 : x = b
        · rw [one_neg h1, one_pos h2, one_pos (show Lvl rows (fun x => x = 0 ∨ x = b) 0 x from .inr h2)]; omega
        · rw [one_neg h1, one_neg h2, one_neg (fun h : Lvl rows (fun x => x = 0 ∨ x = b) 0 x => h.elim h1 h2)]; omega
    rw [e, sumF_add, sumF_one (f := fun x => oneIf (x = 0)) hn0 fun i _ hne => one_neg hne, sumF_one (f := fun x => oneIf (x = b)) hb fun i _ hne => one_neg hne, one_pos rfl, one_pos rfl]
    rfl
  have up : ∀ i, i ≤ D → 2 * pw (k - 1) i ≤ nL rows S n i := by
    intro i
    induction i with
    | zero => intro _; rw [z, pw]; omega
    | succ i ih =>
      intro h
      have h1 := ih (by omega)
      have key : (k - 1) * nL rows S n i ≤ nL rows S n (i + 1) := by
        cases i with
        | zero =>
          refine nL_step g hc hS (i := 0) (by omega) fun x hx hl => ?_
          have d := hk x hx
          rw [deg_sum g.rok hx] at d
          obtain ⟨o, ho⟩ : ∃ o, o = if x = 0 then b else 0 := ⟨_, rfl⟩
          have hSo : ∀ y, S y → rbit rows x y = true → y = o := by
            intro y hy hxy
            subst hSd
            have hl : x = 0 ∨ x = b := hl
            have hy : y = 0 ∨ y = b := hy
            have hxn := g.ne hxy
            rw [ho]
            rcases hl with rfl | rfl
            · rw [if_pos rfl]
              rcases hy with rfl | rfl
              · exact absurd rfl hxn
              · rfl
            · rw [if_neg (fun e => hne e.symm)]
              rcases hy with rfl | rfl
              · rfl
              · exact absurd rfl hxn
          have a1 : sumF (fun y => oneIf (rbit rows x y = true)) n ≤ sumF (fun y => oneIf (y = o) + oneIf (rbit rows x y = true ∧ Lvl rows S (0 + 1) y)) n := by
            apply sumF_le
            intro y _
            have b1 := one_nonneg (y = o)
            have b2 := one_nonneg (rbit rows x y = true ∧ Lvl rows S (0 + 1) y)
            by_cases h : rbit rows x y = true
            · rw [one_pos h]
              by_cases h2 : S y
              · rw [one_pos (hSo y h2 h)]; omega
              · rw [one_pos (show rbit rows x y = true ∧ Lvl rows S (0 + 1) y from ⟨h, .inr ⟨x, hl, h⟩, h2⟩)]; omega
            · rw [one_neg h]; omega
          rw [sumF_add] at a1
          have a2 : sumF (fun y => oneIf (y = o)) n ≤ 1 := sumF_most fun i j _ _ h1 h2 => h1.trans h2.symm
          omega
        | succ i => exact nL_step g hc hS (i := i + 1) (by omega) (nL_many g hc hS (by omega) hk)
      refine Int.le_trans ?_ key
      have h2 := Int.mul_le_mul_of_nonneg_left h1 (show 0 ≤ k - 1 by omega)
      refine Int.le_trans ?_ h2
      have h3 : pw (k - 1) (i + 1) ≤ pw (k - 1) i * (k - 1) := by rw [pw]; omega
      have e : (k - 1) * (2 * pw (k - 1) i) = 2 * (pw (k - 1) i * (k - 1)) := by rw [Int.mul_left_comm, Int.mul_comm (k - 1)]
      rw [e]; omega
  have tot : ∀ i, i ≤ D → 2 * pS (k - 1) (i + 1) ≤ nR rows S n i := by
    intro i
    induction i with
    | zero => intro _; rw [nR_zero, z, pS, pS, pw]; omega
    | succ i ih =>
      intro h
      have h1 := ih (by omega)
      have h2 := up (i + 1) h
      rw [nR_succ]
      have h3 : pS (k - 1) (i + 1 + 1) ≤ pS (k - 1) (i + 1) + pw (k - 1) (i + 1) := by rw [pS]; omega
      omega
  exact Int.le_trans (tot D (Nat.le_refl _)) (nR_le ..)

/-- The girth bound. -/
theorem moore {c : Nat} (hc : NoSh rows c) {k : Int} (hk : ∀ v, v < n → (deg rows v : Int) = k) (hk1 : 1 ≤ k) (h2 : 2 ≤ c) : gB k c ≤ n := by
  unfold gB
  split
  · exact moore_odd g hc hk hk1 _ (by omega)
  · have := moore_even g hc hk hk1 (c / 2 - 1) (by omega)
    rwa [show c / 2 - 1 + 1 = c / 2 by omega] at this
theorem noSh {c : Int} (h : ∀ p q, rbit rows p q = true → arF rows p q ≤ 0 ∨ c ≤ arF rows p q) : NoSh rows c.toNat := by
  intro p q hpq m hw
  obtain ⟨hp, hq⟩ := rbit_lt g.rok hpq
  have hR := (cut_rok g hp hq hpq).1
  obtain ⟨d, hd, hdst⟩ := Wk.dst m hw
  have := far_of hR hp hdst
  have h2 := h p q hpq
  unfold arF at h2
  omega
end
end Go.Proofs.YthpgiimaadohcaaDoor.Zv

/- Lists of lists in new memory. -/
namespace Go.Proofs.YthpgiimaadohcaaDoor.Zv
open Go
variable {nro : Nat}

/-- A list of lists in new memory from n on: each inner list in an object of its own. -/
structure EI (n : Nat) (vs : List Value) (G : VH) (ess : List (List Int)) : Prop where
  len : vs.length = ess.length
  at_ : ∀ i : Nat, i < ess.length → ∃ k, vs[i]? = some (.slice (some ⟨n + k, 0, none⟩) (ess.getD i []).length (ess.getD i []).length) ∧ G[k]? = some ⟨1, ints (ess.getD i [])⟩
  nd : (vs.flatMap arefs).Nodup

theorem EI.nil (n : Nat) (G : VH) : EI n [] G [] := ⟨rfl, fun i hi => by simp at hi, by simp⟩
theorem EI.more {n : Nat} {vs : List Value} {G : VH} {ess : List (List Int)} (e : EI n vs G ess) (L : VH) : EI n vs (G ++ L) ess := by
  refine ⟨e.len, fun i hi => ?_, e.nd⟩
  obtain ⟨k, h1, h2⟩ := e.at_ i hi
  exact ⟨k, h1, by rw [List.getElem?_append_left (List.getElem?_eq_some_iff.mp h2).1]; exact h2⟩
theorem EI.lt {n : Nat} {vs : List Value} {G : VH} {ess : List (List Int)} (e : EI n vs G ess) {r : Nat} (hr : r ∈ vs.flatMap arefs) : n ≤ r ∧ r < n + G.length := by
  obtain ⟨v, hv, hr⟩ := List.mem_flatMap.mp hr
  obtain ⟨i, hi, rfl⟩ := List.mem_iff_getElem.mp hv
  have hl := e.len
  obtain ⟨k, h1, h2⟩ := e.at_ i (by omega)
  have h3 := (List.getElem?_eq_some_iff.mp h1).2
  have h4 := (List.getElem?_eq_some_iff.mp h2).1
  rw [h3] at hr
  simp [arefs] at hr
  omega
theorem EI.push {n : Nat} {vs : List Value} {G : VH} {ess : List (List Int)} (e : EI n vs G ess) (xs : List Int) (L : VH) : EI n (vs ++ [.slice (some ⟨n + G.length, 0, none⟩) xs.length xs.length]) (G ++ ⟨1, ints xs⟩ :: L) (ess ++ [xs]) := by
  have hl := e.len
  have e2 := e.more (⟨1, ints xs⟩ :: L)
  refine ⟨by simp [hl], fun i hi => ?_, ?_⟩
  · by_cases h : i < ess.length
    · obtain ⟨k', h1, h2⟩ := e2.at_ i h
      have e1 : (ess ++ [xs]).getD i [] = ess.getD i [] := by simp only [List.getD_eq_getElem?_getD]; rw [List.getElem?_append_left h]
      rw [e1]
      exact ⟨k', by rw [List.getElem?_append_left (by omega)]; exact h1, h2⟩
    · have hi2 : i = ess.length := by simp at hi; omega
      subst hi2
      have e1 : (ess ++ [xs]).getD ess.length [] = xs := by simp [List.getD_eq_getElem?_getD]
      rw [e1]
      exact ⟨G.length, by rw [← hl]; simp, by simp⟩
  · rw [List.flatMap_append]
    refine List.nodup_append.mpr ⟨e.nd, by simp [arefs], fun a ha b hb => ?_⟩
    have := (e.lt ha).2
    simp [arefs] at hb
    omega

/-- A list of lists that a call has handed out: in memory from n on. -/
def SL2 (n : Nat) (M : VH) (v : Value) (ess : List (List Int)) : Prop := ∃ b vs, v = .slice (some ⟨n + b, 0, none⟩) ess.length ess.length ∧ M[b]? = some ⟨1, vs⟩ ∧ EI n vs M ess

/-- A function's end: a list of lists is handed out, perhaps beside something flat. -/
theorem EI.fin {h pre : VH} {vs : List Value} {G : VH} {ess : List (List Int)} (e : EI (h.length + pre.length + 1) vs G ess) (w : Value → Value) (hw1 : ∀ a n t, trefs (w (.slice (some a) n t)) = [a.block]) (hw2 : ∀ r a n t, tren r (w (.slice (some a) n t)) = w (.slice (some { a with block := r a.block }) n t)) :
    ∃ v M, kclean h [w (.slice (some ⟨h.length + pre.length, 0, none⟩) vs.length vs.length)] (h ++ (pre ++ ⟨1, vs⟩ :: G)) = ([w v], h ++ M) ∧ SL2 h.length M v ess := by
  have hl2 := e.len
  have hk : keepL h.length [w (.slice (some ⟨h.length + pre.length, 0, none⟩) vs.length vs.length)] = [h.length + pre.length] := by
    unfold keepL
    simp [hw1, dedup]
  have hget : (h ++ (pre ++ ⟨1, vs⟩ :: G))[h.length + pre.length]? = some ⟨1, vs⟩ := by rw [hgetk]; simp
  by_cases hf : flatL h.length [h.length + pre.length] (h ++ (pre ++ ⟨1, vs⟩ :: G))
  · have hvs : vs = [] := by
      obtain ⟨o, ho, hr⟩ := hf (h.length + pre.length) (by simp)
      have : o = ⟨1, vs⟩ := by rw [hget] at ho; simpa using ho.symm
      subst this
      cases hv : ess with
      | nil => rw [hv] at hl2; exact List.length_eq_zero_iff.mp hl2
      | cons x r =>
        exfalso
        obtain ⟨j, h1, _⟩ := e.at_ 0 (by rw [hv]; simp)
        have := hr (h.length + pre.length + 1 + j) (by
          unfold orefs
          refine List.mem_flatMap.mpr ⟨_, List.mem_of_getElem? h1, ?_⟩
          simp [crefs, arefs])
        omega
    subst hvs
    have hes : ess = [] := List.length_eq_zero_iff.mp hl2.symm
    rw [hes]
    refine ⟨.slice (some ⟨h.length + 0, 0, none⟩) 0 0, [⟨1, []⟩], ?_, 0, [], by simp, rfl, EI.nil _ _⟩
    rw [cleanup_keep hk hf]
    simp [hw2, renOf_one, hget]
  · refine ⟨.slice (some ⟨h.length + pre.length, 0, none⟩) vs.length vs.length, pre ++ ⟨1, vs⟩ :: G, ?_, pre.length, vs, by rw [hl2], by simp, hl2, fun i hi => ?_, e.nd⟩
    · unfold kclean cleanup
      rw [hk, if_neg (fun h => hf h.2)]
    · obtain ⟨j, h1, h2⟩ := e.at_ i hi
      exact ⟨pre.length + 1 + j, by rw [h1]; congr 4; omega, by
        rw [List.getElem?_append_right (by omega), show pre.length + 1 + j - pre.length = j + 1 by omega]
        exact h2⟩
/-! ### lists of lists that are read -/
/-- What a list of lists reads as. -/
def LL (h : VH) (v : Value) (ess : List (List Int)) : Prop := ∃ vs, vs.length = ess.length ∧ Sl h v vs ∧ ∀ (i : Nat) (hi : i < vs.length), Sli h vs[i] (ess.getD i [])
theorem LL.app {h : VH} {v : Value} {ess : List (List Int)} (hl : LL h v ess) (L : VH) : LL (h ++ L) v ess := by
  obtain ⟨vs, h1, h2, h3⟩ := hl
  exact ⟨vs, h1, h2.app L, fun i hi => (h3 i hi).app L⟩
theorem LL.nil (h : VH) : LL h (.slice none 0 0) [] := ⟨[], rfl, by simp [Sl, vsrc], fun i hi => by simp at hi⟩
theorem LL.old {h : VH} {v : Value} {ess : List (List Int)} (hl : LL h v ess) : Old h.length v := by
  obtain ⟨vs, h1, h2, h3⟩ := hl
  exact h2.old
theorem SL2.read {h M L : VH} {q : Value} {es : List (List Int)} (hs : SL2 h.length M q es) : ∃ vs, vs.length = es.length ∧ Sl (h ++ M ++ L) q vs ∧ ∀ (i : Nat) (hi : i < vs.length), Sli (h ++ M ++ L) vs[i] (es.getD i []) := by
  obtain ⟨b, vs, rfl, h1, h2⟩ := hs
  have hget : ∀ k, (h ++ M ++ L)[h.length + k]? = (M ++ L)[k]? := fun k => by
    rw [List.append_assoc, List.getElem?_append_right (by simp), Nat.add_sub_cancel_left]
  refine ⟨vs, h2.len, ?_, fun i hi => ?_⟩
  · have h3 : (M ++ L)[b]? = some ⟨1, vs⟩ := by rw [List.getElem?_append_left (List.getElem?_eq_some_iff.mp h1).1]; exact h1
    unfold Sl
    rw [vsrc_ref]
    simp only [hget, h3, h2.len]
    simp [h2.len]
    rw [List.take_of_length_le (by rw [h2.len]; exact Nat.le_refl _)]
  · have hi' : i < es.length := by rw [← h2.len]; exact hi
    obtain ⟨k, k1, k2⟩ := h2.at_ i hi'
    have e : vs[i] = .slice (some ⟨h.length + k, 0, none⟩) (es.getD i []).length (es.getD i []).length := (List.getElem?_eq_some_iff.mp k1).2
    rw [e]
    refine sli_at ?_
    rw [hget, List.getElem?_append_left (List.getElem?_eq_some_iff.mp k2).1]
    exact k2

/-! ### marks -/
def tot : List (List Int) → Nat
  | [] => 0
  | e :: es => e.length + tot es
theorem EI.set {n : Nat} {vs : List Value} {G : VH} {A : List (List Int)} {e : List Int} {B : List (List Int)} (h : EI n vs G (A ++ e :: B)) (xs : List Int) (hx : xs.length = e.length) : ∃ k, vs[A.length]? = some (.slice (some ⟨n + k, 0, none⟩) e.length e.length) ∧ G[k]? = some ⟨1, ints e⟩ ∧ EI n vs (G.set k ⟨1, ints xs⟩) (A ++ xs :: B) := by
  have hlt : A.length < (A ++ e :: B).length := by simp
  have eA : (A ++ e :: B).getD A.length [] = e := by simp [List.getD_eq_getElem?_getD]
  obtain ⟨k, h1, h2⟩ := h.at_ A.length hlt
  rw [eA] at h1 h2
  have hk := (List.getElem?_eq_some_iff.mp h2).1
  refine ⟨k, h1, h2, by rw [h.len]; simp, fun i hi => ?_, h.nd⟩
  by_cases e1 : i = A.length
  · subst e1
    have e2 : (A ++ xs :: B).getD A.length [] = xs := by simp [List.getD_eq_getElem?_getD]
    rw [e2, hx]
    exact ⟨k, h1, by simp [hk]⟩
  · have e3 : (A ++ xs :: B).getD i [] = (A ++ e :: B).getD i [] := by
      simp only [List.getD_eq_getElem?_getD, List.getElem?_append]
      split
      · rfl
      · have : i - A.length = (i - A.length - 1) + 1 := by omega
        rw [this]
        rfl
    have hi' : i < (A ++ e :: B).length := by simpa using hi
    obtain ⟨k', h3, h4⟩ := h.at_ i hi'
    rw [e3]
    refine ⟨k', h3, ?_⟩
    rw [List.getElem?_set, if_neg]
    · exact h4
    · intro e4
      subst e4
      -- two places with one object
      have hnd := h.nd
      have l1 := (List.getElem?_eq_some_iff.mp h1)
      have l3 := (List.getElem?_eq_some_iff.mp h3)
      obtain ⟨p1, q1⟩ := l1
      obtain ⟨p3, q3⟩ := l3
      have key : ∀ (us : List Value), (us.flatMap arefs).Nodup → ∀ i j (hi : i < us.length) (hj : j < us.length), i < j → ∀ r, r ∈ arefs us[i] → r ∉ arefs us[j] := by
        intro us
        induction us with
        | nil => intro _ i j hi; simp at hi
        | cons u us ih =>
          intro hn i j hi hj hij r hr hr2
          rw [List.flatMap_cons] at hn
          obtain ⟨_, n2, n3⟩ := List.nodup_append.mp hn
          cases j with
          | zero => omega
          | succ j =>
            cases i with
            | zero =>
              refine n3 r (by simpa using hr) r (List.mem_flatMap.mpr ⟨_, List.getElem_mem (by simpa using hj), by simpa using hr2⟩) rfl
            | succ i => exact ih n2 i j (by simpa using hi) (by simpa using hj) (by omega) r (by simpa using hr) (by simpa using hr2)
      rcases Nat.lt_or_gt_of_ne e1 with hlt2 | hgt
      · exact key vs hnd i A.length p3 p1 hlt2 (n + k) (by rw [q3]; simp [arefs]) (by rw [q1]; simp [arefs])
      · exact key vs hnd A.length i p1 p3 hgt (n + k) (by rw [q1]; simp [arefs]) (by rw [q3]; simp [arefs])

end Go.Proofs.YthpgiimaadohcaaDoor.Zv

/- The law of GreedyGraph. -/
namespace Go.Proofs.YthpgiimaadohcaaDoor.Zv
open Go
variable {nro : Nat}

/-- k and c are as told. -/
def kcB (k c : Int) : Bool := decide (1 ≤ k ∧ k ≤ 6) && decide (3 ≤ c ∧ c ≤ 12)
theorem c_spec_l07Numbers (k c : Int) (h : VH) : vcall F nro k_spec_l07Numbers [.int .i64 k, .int .i64 c] h = some (.bool (kcB k c), h) := by
  refine v_spec_l07Numbers (by simp [i_spec_l07Numbers]) ?_
  rw [fbody_eq]
  have h1 := c_spec_l01In (nro := nro) k 1 6 h
  have h2 := c_spec_l01In (nro := nro) c 3 12 h
  unfold kcB
  by_cases g : 1 ≤ k ∧ k ≤ 6
  · rw [decide_eq_true g] at h1 ⊢
    simp (disch := first | assumption | omega | (simp [*] <;> omega) | fail) [i_spec_l07Numbers, h1, h2]
  · rw [decide_eq_false g] at h1 ⊢
    simp (disch := first | assumption | omega | (simp [*] <;> omega) | fail) [i_spec_l07Numbers, h1]
theorem c_impl_isBoth (k c : Int) (h : VH) : vcall F nro k_impl_isBoth [.int .i64 k, .int .i64 c] h = some (.bool (kcB k c), h) := by
  refine v_impl_isBoth (by simp [i_impl_isBoth]) ?_
  rw [fbody_eq]
  unfold kcB
  by_cases g1 : 1 ≤ k
  · by_cases g2 : k ≤ 6
    · by_cases g3 : 3 ≤ c
      · by_cases g4 : c ≤ 12
        · simp (disch := first | assumption | omega | (simp [*] <;> omega) | fail) [i_impl_isBoth, g1, g2, g3, g4]
        · simp (disch := first | assumption | omega | (simp [*] <;> omega) | fail) [i_impl_isBoth, g1, g2, g3, g4]
      · simp (disch := first | assumption | omega | (simp [*] <;> omega) | fail) [i_impl_isBoth, g1, g2, g3]
    · simp (disch := first | assumption | omega | (simp [*] <;> omega) | fail) [i_impl_isBoth, g1, g2]
  · simp (disch := first | assumption | omega | (simp [*] <;> omega) | fail) [i_impl_isBoth, g1]

end Go.Proofs.YthpgiimaadohcaaDoor.Zv

/- Does a graph fit k and c: the program's test and the reference's are one. -/
namespace Go.Proofs.YthpgiimaadohcaaDoor.Zv
open Go
variable {nro : Nat}

/-! ### degrees, the greatest of numbers -/
/-! ### does a graph fit -/
def FitsP (rows : List Int) (n : Nat) (k c : Int) : Prop := (∀ v, v < n → (deg rows v : Int) ≤ k) ∧ ∀ u w, rbit rows u w = true → arF rows u w ≤ 0 ∨ c ≤ arF rows u w

/-! ### lists of edges -/
end Go.Proofs.YthpgiimaadohcaaDoor.Zv

/- The search for regular graphs: both searches are one. -/
namespace Go.Proofs.YthpgiimaadohcaaDoor.Zv
open Go
variable {nro : Nat}

def ms (n v w : Nat) : Nat := (n - v) * (n + 2) + (n - w)
theorem ms_step {n v w : Nat} (h : w < n) : ms n v (w + 1) < ms n v w := by unfold ms; omega
theorem ms_next {n v : Nat} (h : v + 1 < n) : ms n (v + 1) (v + 2) < ms n v n := by
  unfold ms
  have : n - v = (n - (v + 1)) + 1 := by omega
  rw [this, Nat.add_mul]
  omega
/-- The search: the first graph that completes the rows from the pair v, w on. -/
noncomputable def srch (n : Nat) (k c : Int) (r : List Int) (v w : Nat) : Option (List Int) :=
  if hw : w < n then
    if (deg r v : Int) + n - w < k then none
    else if mayB r k c v w = true then (match srch n k c (put2 r v w) v (w + 1) with
      | some r' => some r'
      | none => srch n k c r v (w + 1))
    else srch n k c r v (w + 1)
  else if (deg r v : Int) ≠ k then none else if h : v + 1 < n ∧ w = n then srch n k c r (v + 1) (v + 2) else some r
 termination_by ms n v w
 decreasing_by
  · exact ms_step hw
  · exact ms_step hw
  · exact ms_step hw
  · rw [h.2]; exact ms_next h.1
theorem srch_end {n : Nat} {k c : Int} {r : List Int} {v : Nat} : srch n k c r v n = if (deg r v : Int) ≠ k then none else if v + 1 < n then srch n k c r (v + 1) (v + 2) else some r := by
  conv => lhs; rw [srch]
  rw [dif_neg (Nat.lt_irrefl n)]
  simp
theorem srch_few {n : Nat} {k c : Int} {r : List Int} {v w : Nat} (hw : w < n) (h : (deg r v : Int) + n - w < k) : srch n k c r v w = none := by
  rw [srch, dif_pos hw, if_pos h]
theorem srch_not {n : Nat} {k c : Int} {r : List Int} {v w : Nat} (hw : w < n) (h : ¬ (deg r v : Int) + n - w < k) (hm : ¬ mayB r k c v w = true) : srch n k c r v w = srch n k c r v (w + 1) := by
  conv => lhs; rw [srch]
  rw [dif_pos hw, if_neg h, if_neg hm]
theorem srch_may {n : Nat} {k c : Int} {r : List Int} {v w : Nat} (hw : w < n) (h : ¬ (deg r v : Int) + n - w < k) (hm : mayB r k c v w = true) : srch n k c r v w = match srch n k c (put2 r v w) v (w + 1) with
      | some r' => some r'
      | none => srch n k c r v (w + 1) := by
  conv => lhs; rw [srch]
  rw [dif_pos hw, if_neg h, if_pos hm]

theorem GV.put2 {n : Nat} {r : List Int} (g : GV n r) {v w : Nat} (hv : v < n) (hw : w < n) (hne : v ≠ w) : GV n (put2 r v w) := by
  have hlo := g.lo
  have R := g.rok
  have h := R.isAdj.put2 (a := (v : Int)) (b := (w : Int)) (by omega) (by omega) (by omega) (by omega) R.le
  simp only [Int.toNat_natCast] at h
  have R2 := R.put2 hv hw
  refine ⟨by omega, g.hi, by rw [h.1], fun x hx => ?_, fun x y hx hy => ?_⟩
  · rw [h.1] at hx
    obtain ⟨r1, r2⟩ := R2.row x hx
    refine ⟨r1, ?_, ?_⟩
    · have e : ((2 ^ n : Nat) : Int) = (2 : Int) ^ ((n : Int).toNat) := by simp
      rw [← e]; omega
    · have := (h.2 x hx).2.2 x
      cases hb : rbit (Zv.put2 r v w) x x
      · rfl
      · rcases this.mp hb with h1 | ⟨h1, h2⟩ | ⟨h1, h2⟩
        · exact absurd rfl (g.ne h1)
        · omega
        · omega
  · rw [h.1] at hx hy
    have a := (h.2 x hx).2.2 y
    have b := (h.2 y hy).2.2 x
    rw [Bool.eq_iff_iff, a, b]
    constructor
    · rintro (h1 | ⟨h1, h2⟩ | ⟨h1, h2⟩)
      · exact .inl (g.sym' h1)
      · exact .inr (.inr ⟨h2, h1⟩)
      · exact .inr (.inl ⟨h2, h1⟩)
    · rintro (h1 | ⟨h1, h2⟩ | ⟨h1, h2⟩)
      · exact .inl (g.sym' h1)
      · exact .inr (.inr ⟨h2, h1⟩)
      · exact .inr (.inl ⟨h2, h1⟩)
/-- An edge put in and taken out again. -/
theorem cut_put {n : Nat} {r : List Int} (g : GV n r) {v w : Nat} (hv : v < n) (hw : w < n) (hne : v ≠ w) (hb : rbit r v w = false) : cut2 (put2 r v w) v w = r ∧ rbit (put2 r v w) v w = true ∧ rbit (put2 r v w) w v = true := by
  have R := g.rok
  have h := R.isAdj.put2 (a := (v : Int)) (b := (w : Int)) (by omega) (by omega) (by omega) (by omega) R.le
  simp only [Int.toNat_natCast] at h
  have b1 : rbit (put2 r v w) v w = true := ((h.2 v hv).2.2 w).mpr (.inr (.inl ⟨rfl, rfl⟩))
  have b2 : rbit (put2 r v w) w v = true := ((h.2 w hw).2.2 v).mpr (.inr (.inr ⟨rfl, rfl⟩))
  refine ⟨?_, b1, b2⟩
  have h2 := h.cut2 (a := (v : Int)) (b := (w : Int)) (by omega) (by omega) (by omega) (by omega) (by omega) (.inr (.inl (by simp))) (.inr (.inr (by simp)))
  simp only [Int.toNat_natCast] at h2
  refine (h2.congr fun x y hx => ?_).unique R.isAdj
  constructor
  · rintro ⟨h3 | h3, h4⟩
    · exact h3
    · exact absurd h3 h4
  · intro h3
    refine ⟨.inl h3, ?_⟩
    rintro (⟨rfl, rfl⟩ | ⟨rfl, rfl⟩)
    · rw [hb] at h3; cases h3
    · rw [g.sym' h3] at hb; cases hb
theorem mayB_not {r : List Int} {k c : Int} {v w : Nat} (h : mayB r k c v w = true) : rbit r v w = false := by
  unfold mayB at h
  cases hb : rbit r v w
  · rfl
  · rw [hb] at h; simp at h

/-- What the search leaves behind. -/
def lefto (r : List Int) (o : Option (List Int)) : List Int := o.getD r
@[simp] theorem lefto_some (r r' : List Int) : lefto r (some r') = r' := rfl
@[simp] theorem lefto_none (r : List Int) : lefto r none = r := rfl

theorem sub_pow {n : Nat} {r : List Int} (g : GV n r) {v w : Nat} (hb : rbit r v w = true) : IntKind.i64.wrap (r.getD v 0 - ((2 ^ w : Nat) : Int)) = r.getD v 0 - ((2 ^ w : Nat) : Int) := by
  obtain ⟨hv, hw⟩ := rbit_lt g.rok hb
  obtain ⟨r1, r2⟩ := g.rok.row v hv
  have r3 := le62 g.rok.le r2
  have h1 := (sub_bit hb).1
  obtain ⟨p, hp⟩ : ∃ p, p = 2 ^ w := ⟨_, rfl⟩
  rw [← hp] at h1 ⊢
  exact wrap64 (by omega) (by omega)

set_option maxHeartbeats 4000000 in
theorem c_spec_l07Search (n : Nat) (k c : Int) (b : Nat) (hn10 : n ≤ 10) (hnb : nro ≤ b) (r : List Int) (v w : Nat) (h : VH) (g : GV n r) (hv : v < n) (hvw : v < w) (hw : w ≤ n) (hb : h[b]? = some ⟨1, ints r⟩) :
    vcall F nro k_spec_l07Search [gv n (.slice (some ⟨b, 0, none⟩) n n), .int .i64 k, .int .i64 c, .int .i64 v, .int .i64 w] h = some (.bool (srch n k c r v w).isSome, h.set b ⟨1, ints (lefto r (srch n k c r v w))⟩) := by
  have R := g.rok
  have hrl := R.len
  have hbl := (List.getElem?_eq_some_iff.mp hb).1
  have hn' : ∀ k, nro ≤ h.length + k := fun k => by omega
  have ho : ∀ k, b < h.length + k := fun k => by omega
  have hS : Sli h (.slice (some ⟨b, 0, none⟩) n n) r := by
    have := sli_at (h := h) (b := b) (xs := r) hb
    rwa [hrl] at this
  have dle : ∀ u, u < n → deg r u ≤ 62 := fun u hu => by
    obtain ⟨r1, r2⟩ := R.row u hu
    exact pc_le _ 62 (le62 R.le r2)
  have hd : ∀ u, u < n → vcall F nro k_spec_l01Degree [gv n (.slice (some ⟨b, 0, none⟩) n n), .int .i64 u] (bx h n (.slice (some ⟨b, 0, none⟩) n n)) = some (.int .i64 (deg r u), bx h n (.slice (some ⟨b, 0, none⟩) n n)) := fun u hu => c_spec_l01Degree n u _ r _ (hS.app _) R hu
  -- what follows from a pair on
  have main : ∀ (v' w' : Nat), v' < n → v' < w' → w' < n → ms n v' w' ≤ ms n v w →
      (((deg r v' : Int) + n - w' < k ∧ srch n k c r v' w' = none) ∨
      (¬ (deg r v' : Int) + n - w' < k ∧ vcall F nro k_spec_l07May [gv n (.slice (some ⟨b, 0, none⟩) n n), .int .i64 k, .int .i64 c, .int .i64 v', .int .i64 w'] (bx h n (.slice (some ⟨b, 0, none⟩) n n)) = some (.bool false, bx h n (.slice (some ⟨b, 0, none⟩) n n)) ∧
        ∃ s, srch n k c r v' w' = s ∧ vcall F nro k_spec_l07Search [gv n (.slice (some ⟨b, 0, none⟩) n n), .int .i64 k, .int .i64 c, .int .i64 v', .int .i64 ((w' : Int) + 1)] (bx h n (.slice (some ⟨b, 0, none⟩) n n)) = some (.bool s.isSome, h.set b ⟨1, ints (lefto r s)⟩ ++ [⟨0, [.int .i64 n, .slice (some ⟨b, 0, none⟩) n n]⟩])) ∨
      (¬ (deg r v' : Int) + n - w' < k ∧ vcall F nro k_spec_l07May [gv n (.slice (some ⟨b, 0, none⟩) n n), .int .i64 k, .int .i64 c, .int .i64 v', .int .i64 w'] (bx h n (.slice (some ⟨b, 0, none⟩) n n)) = some (.bool true, bx h n (.slice (some ⟨b, 0, none⟩) n n)) ∧
        ∃ q, vcall F nro k_spec_l01Put [gv n (.slice (some ⟨b, 0, none⟩) n n), .int .i64 v', .int .i64 w'] (bx h n (.slice (some ⟨b, 0, none⟩) n n)) = some (.tuple #[], h.set b ⟨1, ints q⟩ ++ [⟨0, [.int .i64 n, .slice (some ⟨b, 0, none⟩) n n]⟩]) ∧
        ((∃ r', srch n k c r v' w' = some r' ∧ vcall F nro k_spec_l07Search [gv n (.slice (some ⟨b, 0, none⟩) n n), .int .i64 k, .int .i64 c, .int .i64 v', .int .i64 ((w' : Int) + 1)] (h.set b ⟨1, ints q⟩ ++ [⟨0, [.int .i64 n, .slice (some ⟨b, 0, none⟩) n n]⟩]) = some (.bool true, h.set b ⟨1, ints r'⟩ ++ [⟨0, [.int .i64 n, .slice (some ⟨b, 0, none⟩) n n]⟩])) ∨
         (∃ s, srch n k c r v' w' = s ∧ vcall F nro k_spec_l07Search [gv n (.slice (some ⟨b, 0, none⟩) n n), .int .i64 k, .int .i64 c, .int .i64 v', .int .i64 ((w' : Int) + 1)] (h.set b ⟨1, ints q⟩ ++ [⟨0, [.int .i64 n, .slice (some ⟨b, 0, none⟩) n n]⟩]) = some (.bool false, h.set b ⟨1, ints q⟩ ++ [⟨0, [.int .i64 n, .slice (some ⟨b, 0, none⟩) n n]⟩]) ∧
           vcall F nro k_spec_l07Search [gv n (.slice (some ⟨b, 0, none⟩) n n), .int .i64 k, .int .i64 c, .int .i64 v', .int .i64 ((w' : Int) + 1)] (bx h n (.slice (some ⟨b, 0, none⟩) n n)) = some (.bool s.isSome, h.set b ⟨1, ints (lefto r s)⟩ ++ [⟨0, [.int .i64 n, .slice (some ⟨b, 0, none⟩) n n]⟩]) ∧
           ∃ x y : Int, q.length = n ∧ List.take 1 (List.drop v' (ints q)) = [.int .i64 x] ∧ IntKind.i64.wrap (x - 2 ^ w') = x - 2 ^ w' ∧ List.take 1 (List.drop w' (ints (q.set v' (x - 2 ^ w')))) = [.int .i64 y] ∧ IntKind.i64.wrap (y - 2 ^ v') = y - 2 ^ v' ∧ (q.set v' (x - 2 ^ w')).set w' (y - 2 ^ v') = r)))) := by
    intro v' w' h1 h2 h3 hms
    by_cases c1 : (deg r v' : Int) + n - w' < k
    · exact .inl ⟨c1, srch_few h3 c1⟩
    · have hm := c_spec_l07May (nro := nro) n v' w' k c (.slice (some ⟨b, 0, none⟩) n n) r (bx h n (.slice (some ⟨b, 0, none⟩) n n)) (hS.app _) R h1 h3 (by omega)
      have hb1 : (bx h n (.slice (some ⟨b, 0, none⟩) n n))[b]? = some ⟨1, ints r⟩ := hget_old hb _
      have hlt := ms_step (v := v') h3
      have r2 := c_spec_l07Search n k c b hn10 hnb r v' (w' + 1) (bx h n (.slice (some ⟨b, 0, none⟩) n n)) g h1 (by omega) h3 hb1
      rw [show ((w' + 1 : Nat) : Int) = (w' : Int) + 1 by omega, hset_old hb] at r2
      by_cases c2 : mayB r k c v' w' = true
      · rw [c2] at hm
        have hp := c_spec_l01Put (nro := nro) n b n v' w' r (bx h n (.slice (some ⟨b, 0, none⟩) n n)) hb1 hrl hnb (by omega) (by omega) (by omega) (by omega) (by omega)
        rw [hset_old hb] at hp
        have gq := g.put2 h1 h3 (by omega)
        obtain ⟨cp1, cp2, cp3⟩ := cut_put g h1 h3 (by omega) (mayB_not c2)
        have hql := gq.rok.len
        have r1 := c_spec_l07Search n k c b hn10 hnb (put2 r v' w') v' (w' + 1) (h.set b ⟨1, ints (put2 r v' w')⟩ ++ [⟨0, [.int .i64 n, .slice (some ⟨b, 0, none⟩) n n]⟩]) gq h1 (by omega) h3 (hget_set hb _ _)
        rw [show ((w' + 1 : Nat) : Int) = (w' : Int) + 1 by omega, hset_set hb] at r1
        refine .inr (.inr ⟨c1, hm, put2 r v' w', hp, ?_⟩)
        have hs := srch_may h3 c1 c2
        cases ho1 : srch n k c (put2 r v' w') v' (w' + 1) with
        | some r' =>
          rw [ho1] at r1 hs
          exact .inl ⟨r', hs, r1⟩
        | none =>
          rw [ho1] at r1 hs
          refine .inr ⟨_, hs, r1, r2, ?_⟩
          obtain ⟨q, hq⟩ : ∃ q, q = put2 r (v' : Int) (w' : Int) := ⟨_, rfl⟩
          rw [← hq] at hql gq cp1 cp2 cp3 ⊢
          have e1 := sub_pow gq cp2
          have e2 := sub_pow gq cp3
          have hvq : v' < q.length := by omega
          have hwq : w' < q.length := by omega
          rw [getD_at q hvq] at e1
          rw [getD_at q hwq] at e2
          have p1 : ((2 ^ w' : Nat) : Int) = 2 ^ w' := by simp
          have p2 : ((2 ^ v' : Nat) : Int) = 2 ^ v' := by simp
          rw [p1] at e1
          rw [p2] at e2
          have hne : v' ≠ w' := by omega
          have e3 : (q.set v' (q[v'] - 2 ^ w'))[w']'(by simpa using hwq) = q[w'] := by rw [List.getElem_set_ne hne]
          refine ⟨q[v'], q[w'], hql, take1_ints hvq, e1, ?_, e2, ?_⟩
          · rw [take1_ints (by simpa using hwq), e3]
          · have := cut2_at (r := q) (a := (v' : Int)) (b := (w' : Int)) (by simpa using hvq) (by simpa using hwq)
            simp only [Int.toNat_natCast, e3] at this
            rw [← this]; exact cp1
      · have c2' : mayB r k c v' w' = false := by simpa using c2
        rw [c2'] at hm
        exact .inr (.inl ⟨c1, hm, _, srch_not h3 c1 c2, r2⟩)
  have hgb : ∀ q L, (h.set b ⟨1, ints q⟩ ++ L)[b]? = some ⟨1, ints q⟩ := fun q L => hget_set hb L _
  have hsb : ∀ q q' L, (h.set b ⟨1, ints q⟩ ++ L).set b ⟨1, ints q'⟩ = h.set b ⟨1, ints q'⟩ ++ L := fun q q' L => hset_set hb L _ _
  have hself : h.set b ⟨1, ints r⟩ = h := hset_self hb
  refine v_spec_l07Search (by simp [i_spec_l07Search]) ?_
  rw [fbody_eq]
  have dv := hd v hv
  have dvl := dle v hv
  by_cases c0 : w = n
  · subst c0
    rw [srch_end]
    obtain ⟨d, hdd⟩ : ∃ d, d = deg r v := ⟨_, rfl⟩
    rw [← hdd] at dv dvl ⊢
    by_cases c1 : (d : Int) = k
    · rw [if_neg (fun h => h c1)]
      subst c1
      by_cases c2 : v + 1 < w
      · rw [if_pos c2]
        have c2n : ¬ (v : Int) + 1 = w := by omega
        have dv2 := hd (v + 1) c2
        have dv2l := dle (v + 1) c2
        rw [show ((v + 1 : Nat) : Int) = (v : Int) + 1 by omega] at dv2
        by_cases c3 : v + 2 = w
        · have c3' : (v : Int) + 1 + 1 = w := by omega
          have es : srch w d c r (v + 1) (v + 2) = if (deg r (v + 1) : Int) ≠ d then none else some r := by
            rw [c3, srch_end]
            simp only [show ¬ (v + 1 + 1 < w) by omega, if_false]
          rw [es]
          obtain ⟨d2, hd2⟩ : ∃ d2, d2 = deg r (v + 1) := ⟨_, rfl⟩
          rw [← hd2] at dv2 ⊢
          clear main hd2 es hd dle hdd
          by_cases c4 : (d2 : Int) = d
          · have c4' : d2 = d := by omega
            subst c4'
            simp (disch := first | assumption | omega | (simp [*] <;> omega) | fail) [i_spec_l07Search, dv, dv2, c2n, c3', hself, hn', ho, wrap64]
          · have c4' : ¬ d2 = d := by omega
            simp (disch := first | assumption | omega | (simp [*] <;> omega) | fail) [i_spec_l07Search, dv, dv2, c2n, c3', c4, c4', hself, hn', ho, wrap64]
        · obtain ⟨V, hV⟩ : ∃ V, V = v + 1 := ⟨_, rfl⟩
          obtain ⟨W, hW⟩ : ∃ W, W = v + 2 := ⟨_, rfl⟩
          have hmm := main V W (by omega) (by omega) (by omega) (by rw [hV, hW]; exact Nat.le_of_lt (ms_next c2))
          have iV : (v : Int) + 1 = V := by omega
          have iW : (V : Int) + 1 = W := by omega
          rw [iV] at dv2 c2n
          rw [← hV] at dv2 dv2l ⊢
          rw [← hW]
          obtain ⟨d2, hd2⟩ : ∃ d2, d2 = deg r V := ⟨_, rfl⟩
          rw [← hd2] at dv2 dv2l hmm
          have c3' : ¬ (W : Int) = w := by omega
          have c3n : ¬ W = w := by omega
          have c2m : ¬ V = w := by omega
          have q1 : IntKind.i64.wrap ((d2 : Int) + w) = d2 + w := wrap64 (by omega) (by omega)
          have q2 : IntKind.i64.wrap ((d2 : Int) + w - W) = d2 + w - W := wrap64 (by omega) (by omega)
          have q3 : IntKind.i64.wrap (V : Int) = V := wrap64 (by omega) (by omega)
          have q4 : IntKind.i64.wrap (W : Int) = W := wrap64 (by omega) (by omega)
          have q5 : IntKind.i64.wrap ((W : Int) + 1) = (W : Int) + 1 := wrap64 (by omega) (by omega)
          have k1 : (V : Int) < w := by omega
          have k2 : (W : Int) < w := by omega
          have k3 : V < w := by omega
          have k4 : W < w := by omega
          have kV : V ≤ 10 := by omega
          have kW : W ≤ 10 := by omega
          clear main hd2 hd dle hdd hV hW c2 c3 hvw hv
          rcases hmm with ⟨f1, f2⟩ | ⟨f1, f2, s, f3, f4⟩ | ⟨f1, f2, q, f3, ⟨r', f4, f5⟩ | ⟨s, f4, f5, f6, x, y, f7, f8, f9, f10, f11, f12⟩⟩
          · rw [f2]
            simp (disch := first | assumption | omega | (simp [*] <;> omega) | fail) [i_spec_l07Search, dv, dv2, iV, iW, c2n, c2m, c3', c3n, q1, q2, q3, q4, f1, hself, hn', ho]
          · rw [f3]
            clear f3
            simp (disch := first | assumption | omega | (simp [*] <;> omega) | fail) [i_spec_l07Search, dv, dv2, iV, iW, c2n, c2m, c3', c3n, q1, q2, q3, q4, q5, f1, f2, f4, hself, hn', ho]
          · rw [f4]
            clear f4
            simp (disch := first | assumption | omega | (simp [*] <;> omega) | fail) [i_spec_l07Search, dv, dv2, iV, iW, c2n, c2m, c3', c3n, q1, q2, q3, q4, q5, f1, f2, f3, f5, hself, hn', ho]
          · rw [f4]
            clear f4
            have f12' : h.set b ⟨1, ints ((q.set V (x - 2 ^ W)).set W (y - 2 ^ V))⟩ = h := by rw [f12]; exact hself
            have e1 : splice V [.int .i64 (x - 2 ^ W)] (ints q) = ints (q.set V (x - 2 ^ W)) := splice_ints (by omega)
            have e2 : splice W [.int .i64 (y - 2 ^ V)] (ints (q.set V (x - 2 ^ W))) = ints ((q.set V (x - 2 ^ W)).set W (y - 2 ^ V)) := splice_ints (by simp; omega)
            have g1 : ishl .i64 1 (W : Int) = 2 ^ W := by rw [ishl_one' (by omega) (by omega), Int.toNat_natCast]
            have g2 : ishl .i64 1 (V : Int) = 2 ^ V := by rw [ishl_one' (by omega) (by omega), Int.toNat_natCast]
            have g3 : IntKind.u64.wrap (W : Int) = W := wrapu64 (by omega) (by omega)
            have g4 : IntKind.u64.wrap (V : Int) = V := wrapu64 (by omega) (by omega)
            clear f12
            simp (disch := first | assumption | omega | (simp [*] <;> omega) | fail) [i_spec_l07Search, dv, dv2, iV, iW, c2n, c2m, c3', c3n, q1, q2, q3, q4, q5, f1, f2, f3, f5, f6, f7, f8, f9, f10, f11, f12', e1, e2, g1, g2, g3, g4, k1, k2, k3, k4, hgb, hsb, hself, hn', ho, hnb]
      · rw [if_neg c2]
        have c3 : (v : Int) + 1 = w := by omega
        clear main hd dle hdd
        simp (disch := first | assumption | omega | (simp [*] <;> omega) | fail) [i_spec_l07Search, dv, c3, hself, hn', ho, wrap64]
    · rw [if_pos c1]
      clear main hd dle hdd
      simp (disch := first | assumption | omega | (simp [*] <;> omega) | fail) [i_spec_l07Search, dv, c1, hself, hn', ho]
  · have c0' : ¬ (w : Int) = n := by omega
    have c1 : ¬ (v : Int) = n := by omega
    have hwn : w < n := by omega
    have hmm := main v w hv hvw hwn (Nat.le_refl _)
    obtain ⟨d2, hd2⟩ : ∃ d2, d2 = deg r v := ⟨_, rfl⟩
    rw [← hd2] at dv dvl hmm
    have q1 : IntKind.i64.wrap ((d2 : Int) + n) = d2 + n := wrap64 (by omega) (by omega)
    have q2 : IntKind.i64.wrap ((d2 : Int) + n - w) = d2 + n - w := wrap64 (by omega) (by omega)
    have q5 : IntKind.i64.wrap ((w : Int) + 1) = (w : Int) + 1 := wrap64 (by omega) (by omega)
    have k1 : (v : Int) < n := by omega
    have k2 : (w : Int) < n := by omega
    clear main hd2 hd dle
    rcases hmm with ⟨f1, f2⟩ | ⟨f1, f2, s, f3, f4⟩ | ⟨f1, f2, q, f3, ⟨r', f4, f5⟩ | ⟨s, f4, f5, f6, x, y, f7, f8, f9, f10, f11, f12⟩⟩
    · rw [f2]
      simp (disch := first | assumption | omega | (simp [*] <;> omega) | fail) [i_spec_l07Search, dv, c0, c0', c1, q1, q2, f1, hself, hn', ho]
    · rw [f3]
      clear f3
      simp (disch := first | assumption | omega | (simp [*] <;> omega) | fail) [i_spec_l07Search, dv, c0, c0', c1, q1, q2, q5, f1, f2, f4, hself, hn', ho]
    · rw [f4]
      clear f4
      simp (disch := first | assumption | omega | (simp [*] <;> omega) | fail) [i_spec_l07Search, dv, c0, c0', c1, q1, q2, q5, f1, f2, f3, f5, hself, hn', ho]
    · rw [f4]
      clear f4
      have f12' : h.set b ⟨1, ints ((q.set v (x - 2 ^ w)).set w (y - 2 ^ v))⟩ = h := by rw [f12]; exact hself
      have e1 : splice v [.int .i64 (x - 2 ^ w)] (ints q) = ints (q.set v (x - 2 ^ w)) := splice_ints (by omega)
      have e2 : splice w [.int .i64 (y - 2 ^ v)] (ints (q.set v (x - 2 ^ w))) = ints ((q.set v (x - 2 ^ w)).set w (y - 2 ^ v)) := splice_ints (by simp; omega)
      have g1 : ishl .i64 1 (w : Int) = 2 ^ w := by rw [ishl_one' (by omega) (by omega), Int.toNat_natCast]
      have g2 : ishl .i64 1 (v : Int) = 2 ^ v := by rw [ishl_one' (by omega) (by omega), Int.toNat_natCast]
      have g3 : IntKind.u64.wrap (w : Int) = w := wrapu64 (by omega) (by omega)
      have g4 : IntKind.u64.wrap (v : Int) = v := wrapu64 (by omega) (by omega)
      clear f12
      simp (disch := first | assumption | omega | (simp [*] <;> omega) | fail) [i_spec_l07Search, dv, c0, c0', c1, q1, q2, q5, f1, f2, f3, f5, f6, f7, f8, f9, f10, f11, f12', e1, e2, g1, g2, g3, g4, k1, k2, hv, hwn, hgb, hsb, hself, hn', ho, hnb]
 termination_by ms n v w
 decreasing_by all_goals omega
end Go.Proofs.YthpgiimaadohcaaDoor.Zv

/- What the search finds is regular and has no short cycle. -/
namespace Go.Proofs.YthpgiimaadohcaaDoor.Zv
open Go

section
variable {n : Nat} {r : List Int} (g : GV n r)
include g
theorem put_iff {v w : Nat} (hv : v < n) (hw : w < n) (x y : Nat) : rbit (put2 r v w) x y = true ↔ rbit r x y = true ∨ (x = v ∧ y = w) ∨ (x = w ∧ y = v) := by
  have R := g.rok
  have h := R.isAdj.put2 (a := (v : Int)) (b := (w : Int)) (by omega) (by omega) (by omega) (by omega) R.le
  simp only [Int.toNat_natCast] at h
  by_cases hx : x < n
  · rw [(h.2 x hx).2.2 y]
  · constructor
    · intro e; exact absurd (rbit_lt (R.put2 hv hw) e).1 hx
    · rintro (e | ⟨rfl, _⟩ | ⟨rfl, _⟩)
      · exact absurd (rbit_lt R e).1 hx
      · exact absurd hv hx
      · exact absurd hw hx
theorem deg_put {v w u : Nat} (hv : v < n) (hw : w < n) (h1 : u ≠ v) (h2 : u ≠ w) (hu : u < n) : deg (put2 r v w) u = deg r u := by
  have R2 := g.rok.put2 hv hw
  have e : (deg (put2 r v w) u : Int) = deg r u := by
    rw [deg_sum R2 hu, deg_sum g.rok hu]
    refine sumF_congr fun y _ => ?_
    have := put_iff g hv hw u y
    have e : rbit (put2 r v w) u y = rbit r u y := by
      rw [Bool.eq_iff_iff, this]
      constructor
      · rintro (h | ⟨h, _⟩ | ⟨h, _⟩)
        · exact h
        · exact absurd h h1
        · exact absurd h h2
      · exact .inl
    rw [e]
  omega
theorem deg_put1 {v w : Nat} (hv : v < n) (hw : w < n) (hne : v ≠ w) (hb : rbit r v w = false) : deg (put2 r v w) v = deg r v + 1 ∧ deg (put2 r v w) w = deg r w + 1 := by
  have R2 := g.rok.put2 hv hw
  have one : ∀ a b, a < n → b < n → rbit r a b = false → (∀ y, rbit (put2 r v w) a y = true ↔ rbit r a y = true ∨ y = b) → (deg (put2 r v w) a : Int) = deg r a + 1 := by
    intro a b ha hbn hab e
    rw [deg_sum R2 ha, deg_sum g.rok ha]
    have h1 : sumF (fun y => oneIf (rbit (put2 r v w) a y = true)) n = sumF (fun y => oneIf (rbit r a y = true) + oneIf (y = b)) n := sumF_congr fun y _ => by
      have ey := e y
      by_cases h1 : rbit r a y = true
      · have h2 : ¬ y = b := by rintro rfl; rw [hab] at h1; cases h1
        rw [one_pos h1, one_neg h2, one_pos (ey.mpr (.inl h1))]; omega
      · by_cases h2 : y = b
        · rw [one_neg h1, one_pos h2, one_pos (ey.mpr (.inr h2))]; omega
        · rw [one_neg h1, one_neg h2, one_neg (fun e => (ey.mp e).elim h1 h2)]; omega
    rw [h1, sumF_add, sumF_one (f := fun y => oneIf (y = b)) hbn fun i _ hne => one_neg hne, one_pos rfl]
  have a1 := one v w hv hw hb fun y => by
    rw [put_iff g hv hw]
    constructor
    · rintro (h | ⟨_, h⟩ | ⟨h, _⟩)
      · exact .inl h
      · exact .inr h
      · exact absurd h hne
    · rintro (h | h)
      · exact .inl h
      · exact .inr (.inl ⟨rfl, h⟩)
  have hb2 : rbit r w v = false := by
    cases h : rbit r w v
    · rfl
    · rw [g.sym' h] at hb; cases hb
  have a2 := one w v hw hv hb2 fun y => by
    rw [put_iff g hv hw]
    constructor
    · rintro (h | ⟨h, _⟩ | ⟨_, h⟩)
      · exact .inl h
      · exact absurd h.symm hne
      · exact .inr h
    · rintro (h | h)
      · exact .inl h
      · exact .inr (.inr ⟨rfl, h⟩)
  omega

omit g in
theorem mayB_iff {k c : Int} {v w : Nat} : mayB r k c v w = true ↔ rbit r v w = false ∧ (deg r v : Int) < k ∧ (deg r w : Int) < k ∧ (far r v w < 0 ∨ c ≤ far r v w + 1) := by
  unfold mayB
  cases h : rbit r v w <;> simp <;> omega

/-- Walks with one more edge. -/
theorem walk_put {v w : Nat} (hv : v < n) (hw : w < n) {a b : Nat} (hab : rbit r a b = true) (gq : GV n (put2 r v w)) : ∀ (k x : Nat), Wk (cut2 (put2 r v w) a b) k a x →
    (∃ e, e ≤ k ∧ Wk (cut2 r a b) e a x) ∨ ∃ i j, i + j + 1 ≤ k ∧ ((Wk (cut2 r a b) i a v ∧ Wk (cut2 r a b) j w x) ∨ (Wk (cut2 r a b) i a w ∧ Wk (cut2 r a b) j v x))
  | 0, x, h => .inl ⟨0, Nat.le_refl _, h⟩
  | k + 1, y, h => by
    obtain ⟨x, h1, h2⟩ := h
    have hab' : rbit (put2 r v w) a b = true := (put_iff g hv hw a b).mpr (.inl hab)
    rw [cut_iff gq hab', put_iff g hv hw] at h2
    have ih := walk_put hv hw hab gq k x h1
    obtain ⟨h3 | ⟨rfl, rfl⟩ | ⟨rfl, rfl⟩, h4⟩ := h2
    · have h5 : rbit (cut2 r a b) x y = true := (cut_iff g hab x y).mpr ⟨h3, h4⟩
      rcases ih with ⟨e, i1, i2⟩ | ⟨i, j, i1, ⟨i2, i3⟩ | ⟨i2, i3⟩⟩
      · exact .inl ⟨e + 1, by omega, x, i2, h5⟩
      · exact .inr ⟨i, j + 1, by omega, .inl ⟨i2, x, i3, h5⟩⟩
      · exact .inr ⟨i, j + 1, by omega, .inr ⟨i2, x, i3, h5⟩⟩
    · rcases ih with ⟨e, i1, i2⟩ | ⟨i, j, i1, ⟨i2, i3⟩ | ⟨i2, i3⟩⟩
      · exact .inr ⟨e, 0, by omega, .inl ⟨i2, rfl⟩⟩
      · exact .inr ⟨i, 0, by omega, .inl ⟨i2, rfl⟩⟩
      · exact .inl ⟨i, by omega, i2⟩
    · rcases ih with ⟨e, i1, i2⟩ | ⟨i, j, i1, ⟨i2, i3⟩ | ⟨i2, i3⟩⟩
      · exact .inr ⟨e, 0, by omega, .inr ⟨i2, rfl⟩⟩
      · exact .inl ⟨i, by omega, i2⟩
      · exact .inr ⟨i, 0, by omega, .inr ⟨i2, rfl⟩⟩

omit g in
theorem Wk.mono {rows rows' : List Int} (h : ∀ x y, rbit rows x y = true → rbit rows' x y = true) : ∀ {k a b : Nat}, Wk rows k a b → Wk rows' k a b
  | 0, _, _, e => e
  | _ + 1, _, _, ⟨c, h1, h2⟩ => ⟨c, Wk.mono h h1, h _ _ h2⟩

/-- An edge that may be put in leaves the graph without short cycles. -/
theorem fits_put {k c : Int} {v w : Nat} (hv : v < n) (hw : w < n) (hne : v ≠ w) (hm : mayB r k c v w = true) (hf : FitsP r n k c) : FitsP (put2 r v w) n k c := by
  obtain ⟨m1, m2, m3, m4⟩ := mayB_iff.mp hm
  have gq := g.put2 hv hw hne
  obtain ⟨d1, d2⟩ := deg_put1 g hv hw hne m1
  refine ⟨fun u hu => ?_, fun a b hab => ?_⟩
  · by_cases h1 : u = v
    · subst h1; omega
    · by_cases h2 : u = w
      · subst h2; omega
      · rw [deg_put g hv hw h1 h2 hu]; exact hf.1 u hu
  · obtain ⟨c1, c2, c3⟩ := cut_put g hv hw hne m1
    have key : arF (put2 r v w) v w ≤ 0 ∨ c ≤ arF (put2 r v w) v w := by
      unfold arF
      rw [c1]; omega
    rcases (put_iff g hv hw a b).mp hab with h | ⟨rfl, rfl⟩ | ⟨rfl, rfl⟩
    · obtain ⟨ha, hb⟩ := rbit_lt g.rok h
      have hRq := (cut_rok gq ha hb hab).1
      have hR := (cut_rok g ha hb h).1
      unfold arF
      rcases far_dist hRq ha b with ⟨e, _⟩ | ⟨d, e, hd⟩
      · omega
      · right
        rw [e]
        have sub : ∀ x y, rbit (cut2 r a b) x y = true → rbit r x y = true := fun x y h2 => ((cut_iff g h x y).mp h2).1
        have fin : ∀ k', Wk r k' v w → c ≤ k' + 1 := by
          intro k' hw2
          obtain ⟨d', h1, h2⟩ := Wk.dst k' hw2
          have := far_of g.rok hv h2
          omega
        rcases walk_put g hv hw h gq d b hd.1 with ⟨e2, i1, i2⟩ | ⟨i, j, i1, ⟨i2, i3⟩ | ⟨i2, i3⟩⟩
        · obtain ⟨d', h1, h2⟩ := Wk.dst e2 i2
          have h3 := far_of hR ha h2
          have h4 := hf.2 a b h
          unfold arF at h4
          omega
        · have s2 := Wk.symm (fun _ _ => g.sym') _ _ _ (i2.mono sub)
          have s3 : Wk r 1 a b := ⟨a, rfl, h⟩
          have s4 := (s2.comp 1 b s3).comp j w (Wk.symm (fun _ _ => g.sym') _ _ _ (i3.mono sub))
          have := fin _ s4
          omega
        · have s2 := i3.mono sub
          have s3 : Wk r 1 b a := ⟨b, rfl, g.sym' h⟩
          have s4 := (s2.comp 1 a s3).comp i w (i2.mono sub)
          have := fin _ s4
          omega
    · exact key
    · rw [arF_symm gq hab]; exact key
end

/-- What the search finds. -/
theorem srch_ok (n : Nat) (k c : Int) (r : List Int) (v w : Nat) (g : GV n r) (hv : v < n) (hvw : v < w) (hw : w ≤ n) (hf : FitsP r n k c) (hd : ∀ u, u < v → (deg r u : Int) = k) :
    ∀ r', srch n k c r v w = some r' → GV n r' ∧ FitsP r' n k c ∧ ∀ u, u < n → (deg r' u : Int) = k := by
  intro r' h
  by_cases c0 : w = n
  · rw [c0, srch_end] at h
    by_cases c1 : (deg r v : Int) = k
    · rw [if_neg (fun e => e c1)] at h
      by_cases c2 : v + 1 < n
      · rw [if_pos c2] at h
        have hlt : ms n (v + 1) (v + 2) < ms n v w := by rw [c0]; exact ms_next c2
        refine srch_ok n k c r (v + 1) (v + 2) g c2 (by omega) (by omega) hf (fun u hu => ?_) r' h
        by_cases e : u = v
        · rw [e]; exact c1
        · exact hd u (by omega)
      · rw [if_neg c2] at h
        cases h
        refine ⟨g, hf, fun u hu => ?_⟩
        by_cases e : u = v
        · rw [e]; exact c1
        · exact hd u (by omega)
    · rw [if_pos c1] at h; cases h
  · have hwn : w < n := by omega
    have hlt := ms_step (v := v) hwn
    by_cases c1 : (deg r v : Int) + n - w < k
    · rw [srch_few hwn c1] at h; cases h
    · by_cases c2 : mayB r k c v w = true
      · rw [srch_may hwn c1 c2] at h
        have gq := g.put2 hv hwn (by omega)
        have hq := srch_ok n k c (put2 r v w) v (w + 1) gq hv (by omega) hwn (fits_put g hv hwn (by omega) c2 hf) (fun u hu => by
          rw [deg_put g hv hwn (by omega) (by omega) (by omega)]; exact hd u hu)
        cases ho : srch n k c (put2 r v w) v (w + 1) with
        | some q => rw [ho] at h; cases h; exact hq _ ho
        | none =>
          rw [ho] at h
          exact srch_ok n k c r v (w + 1) g hv (by omega) hwn hf hd r' h
      · rw [srch_not hwn c1 c2] at h
        exact srch_ok n k c r v (w + 1) g hv (by omega) hwn hf hd r' h
 termination_by ms n v w
 decreasing_by all_goals omega
end Go.Proofs.YthpgiimaadohcaaDoor.Zv

/- The program's search. -/
namespace Go.Proofs.YthpgiimaadohcaaDoor.Zv
open Go
variable {nro : Nat}

/-- The search itself, as a value. -/
def fvS (i1 i2 i3 i4 i5 : Nat) : Value := .func (.func k_impl_firstRegular_1) #[] #[.pointer (some ⟨i1, 0, some 1⟩), .pointer (some ⟨i2, 0, some 2⟩), .pointer (some ⟨i3, 0, some 1⟩), .pointer (some ⟨i4, 0, some 1⟩), .pointer (some ⟨i5, 0, some 1⟩)]
/-- What the search reads. -/
structure FH (h : VH) (n b : Nat) (k c : Int) (i1 i2 i3 i4 i5 : Nat) : Prop where
  f1 : h[i1]? = some ⟨0, [.int .i64 n]⟩
  f2 : h[i2]? = some ⟨0, [.int .i64 n, .slice (some ⟨b, 0, none⟩) n n]⟩
  f3 : h[i3]? = some ⟨0, [.int .i64 k]⟩
  f4 : h[i4]? = some ⟨0, [fvS i1 i2 i3 i4 i5]⟩
  f5 : h[i5]? = some ⟨0, [.int .i64 c]⟩
theorem get_set_ne {h : VH} {i b : Nat} {o o' p : VO} (hi : h[i]? = some o) (hb : h[b]? = some o') (hne : o.sz ≠ o'.sz) : (h.set b p)[i]? = some o := by
  have : b ≠ i := by
    rintro rfl
    rw [hi] at hb
    cases hb
    exact hne rfl
  rw [List.getElem?_set, if_neg this]
  exact hi
theorem FH.set {h : VH} {n b : Nat} {k c : Int} {i1 i2 i3 i4 i5 : Nat} (f : FH h n b k c i1 i2 i3 i4 i5) {r : List Int} (hb : h[b]? = some ⟨1, ints r⟩) (o : VO) : FH (h.set b o) n b k c i1 i2 i3 i4 i5 :=
  ⟨get_set_ne f.f1 hb (by simp), get_set_ne f.f2 hb (by simp), get_set_ne f.f3 hb (by simp), get_set_ne f.f4 hb (by simp), get_set_ne f.f5 hb (by simp)⟩

set_option maxHeartbeats 4000000 in
theorem c_impl_firstRegular_1 (n : Nat) (k c : Int) (b i1 i2 i3 i4 i5 : Nat) (hn10 : n ≤ 10) (hnb : nro ≤ b) (r : List Int) (v w : Nat) (h : VH) (fh : FH h n b k c i1 i2 i3 i4 i5) (g : GV n r) (hv : v < n) (hvw : v < w) (hw : w ≤ n) (hb : h[b]? = some ⟨1, ints r⟩) :
    vcall F nro k_impl_firstRegular_1 [.int .i64 v, .int .i64 w, .pointer (some ⟨i1, 0, some 1⟩), .pointer (some ⟨i2, 0, some 2⟩), .pointer (some ⟨i3, 0, some 1⟩), .pointer (some ⟨i4, 0, some 1⟩), .pointer (some ⟨i5, 0, some 1⟩)] h = some (.bool (srch n k c r v w).isSome, h.set b ⟨1, ints (lefto r (srch n k c r v w))⟩) := by
  have R := g.rok
  have hrl := R.len
  have hbl := (List.getElem?_eq_some_iff.mp hb).1
  have hn' : ∀ k, nro ≤ h.length + k := fun k => by omega
  have hS : Sli h (.slice (some ⟨b, 0, none⟩) n n) r := by
    have := sli_at (h := h) (b := b) (xs := r) hb
    rwa [hrl] at this
  have dle : ∀ u, u < n → deg r u ≤ 62 := fun u hu => by
    obtain ⟨r1, r2⟩ := R.row u hu
    exact pc_le _ 62 (le62 R.le r2)
  have hd : ∀ u, u < n → vcall F nro k_impl_Graph_degree [gv n (.slice (some ⟨b, 0, none⟩) n n), .int .i64 u] h = some (.int .i64 (deg r u), h) := fun u hu => c_impl_degree n u _ r _ hS R hu
  obtain ⟨f1, f2, f3, f4, f5⟩ := fh
  have fh : FH h n b k c i1 i2 i3 i4 i5 := ⟨f1, f2, f3, f4, f5⟩
  have fhs := fun q : List Int => fh.set hb ⟨1, ints q⟩
  have hself : h.set b ⟨1, ints r⟩ = h := hset_self hb
  have hgb : ∀ q : List Int, (h.set b ⟨1, ints q⟩)[b]? = some ⟨1, ints q⟩ := fun q => hget_set0 hb _
  have hsb : ∀ q q' : List Int, (h.set b ⟨1, ints q⟩).set b ⟨1, ints q'⟩ = h.set b ⟨1, ints q'⟩ := fun q q' => by rw [List.set_set]
  refine v_impl_firstRegular_1 (by simp [i_impl_firstRegular_1]) ?_
  rw [fbody_eq]
  have dv := hd v hv
  have dvl := dle v hv
  by_cases c0 : w = n
  · have hrec : v + 1 < n → _ := fun c2 => by
      have hlt : ms n (v + 1) (v + 2) < ms n v w := by rw [c0]; exact ms_next c2
      exact c_impl_firstRegular_1 n k c b i1 i2 i3 i4 i5 hn10 hnb r (v + 1) (v + 2) h fh g c2 (by omega) (by omega) hb
    subst c0
    rw [srch_end]
    obtain ⟨d, hdd⟩ : ∃ d, d = deg r v := ⟨_, rfl⟩
    rw [← hdd] at dv dvl ⊢
    by_cases c1 : (d : Int) = k
    · rw [if_neg (fun h => h c1)]
      by_cases c2 : v + 1 < w
      · rw [if_pos c2]
        have c2n : ¬ (v : Int) + 1 = w := by omega
        have rc := hrec c2
        rw [show ((v + 1 : Nat) : Int) = (v : Int) + 1 by omega, show ((v + 2 : Nat) : Int) = (v : Int) + 1 + 1 by omega] at rc
        obtain ⟨s, hs⟩ : ∃ s, s = srch w k c r (v + 1) (v + 2) := ⟨_, rfl⟩
        rw [← hs] at rc ⊢
        unfold fvS at f4
        clear hs hd dle hdd fh fhs
        simp (disch := first | assumption | omega | (simp [*] <;> omega) | fail) [i_impl_firstRegular_1, f1, f2, f3, f4, f5, dv, c1, c2n, rc, hn', wrap64]
      · rw [if_neg c2]
        have c3 : (v : Int) + 1 = w := by omega
        clear hd dle hdd fh fhs
        simp (disch := first | assumption | omega | (simp [*] <;> omega) | fail) [i_impl_firstRegular_1, f1, f2, f3, f4, f5, dv, c1, c3, hself, hn', wrap64]
    · rw [if_pos c1]
      clear hd dle hdd fh fhs
      simp (disch := first | assumption | omega | (simp [*] <;> omega) | fail) [i_impl_firstRegular_1, f1, f2, f3, f4, f5, dv, c1, hself, hn']
  · have c0' : ¬ (w : Int) = n := by omega
    have hwn : w < n := by omega
    have hlt := ms_step (v := v) hwn
    by_cases c1 : (deg r v : Int) + n - w < k
    · rw [srch_few hwn c1]
      obtain ⟨d, hdd⟩ : ∃ d, d = deg r v := ⟨_, rfl⟩
      rw [← hdd] at dv dvl c1
      have q1 : IntKind.i64.wrap ((d : Int) + n) = d + n := wrap64 (by omega) (by omega)
      have q2 : IntKind.i64.wrap ((d : Int) + n - w) = d + n - w := wrap64 (by omega) (by omega)
      clear hd dle hdd fh fhs
      simp (disch := first | assumption | omega | (simp [*] <;> omega) | fail) [i_impl_firstRegular_1, f1, f2, f3, f4, f5, dv, c0, c0', q1, q2, c1, hself, hn']
    · have hm := c_impl_Graph_mayJoin (nro := nro) n v w k c (.slice (some ⟨b, 0, none⟩) n n) r h hS R hv hwn (by omega)
      have r2 := c_impl_firstRegular_1 n k c b i1 i2 i3 i4 i5 hn10 hnb r v (w + 1) h fh g hv (by omega) hwn hb
      rw [show ((w + 1 : Nat) : Int) = (w : Int) + 1 by omega] at r2
      have q5 : IntKind.i64.wrap ((w : Int) + 1) = (w : Int) + 1 := wrap64 (by omega) (by omega)
      by_cases c2 : mayB r k c v w = true
      · rw [c2] at hm
        have hp := c_impl_Graph_put (nro := nro) n b n v w r h hb hrl hnb (by omega) (by omega) (by omega) (by omega) (by omega)
        rw [if_neg (by omega)] at hp
        have gq := g.put2 hv hwn (by omega)
        obtain ⟨cp1, cp2, cp3⟩ := cut_put g hv hwn (by omega) (mayB_not c2)
        have hql := gq.rok.len
        have r1 := c_impl_firstRegular_1 n k c b i1 i2 i3 i4 i5 hn10 hnb (put2 r v w) v (w + 1) (h.set b ⟨1, ints (put2 r v w)⟩) (fhs _) gq hv (by omega) hwn (hgb _)
        rw [show ((w + 1 : Nat) : Int) = (w : Int) + 1 by omega, hsb] at r1
        obtain ⟨s1, s2⟩ := gq.rok.row v hv
        obtain ⟨t1, t2⟩ := gq.rok.row w hwn
        have s3 := le62 gq.rok.le s2
        have t3 := le62 gq.rok.le t2
        have ht := c_impl_Graph_take (nro := nro) n b n v w (put2 r v w) (h.set b ⟨1, ints (put2 r v w)⟩) (hgb _) hql hnb (by omega) (by omega) (by omega) (by omega) (by omega) (by omega)
          (by rw [Int.toNat_natCast]; exact s1) (by rw [Int.toNat_natCast]; omega) (by rw [Int.toNat_natCast, Int.toNat_natCast]; exact cp2) (by rw [Int.toNat_natCast]; exact t1) (by rw [Int.toNat_natCast]; omega) (by rw [Int.toNat_natCast, Int.toNat_natCast]; exact cp3)
        rw [cp1, hsb, hself] at ht
        have hs := srch_may hwn c1 c2
        have fq := fhs (put2 r v w)
        cases ho1 : srch n k c (put2 r v w) v (w + 1) with
        | some r' =>
          rw [ho1] at r1 hs
          dsimp only at hs
          rw [hs]
          obtain ⟨d, hdd⟩ : ∃ d, d = deg r v := ⟨_, rfl⟩
          rw [← hdd] at dv dvl c1
          have q1 : IntKind.i64.wrap ((d : Int) + n) = d + n := wrap64 (by omega) (by omega)
          have q2 : IntKind.i64.wrap ((d : Int) + n - w) = d + n - w := wrap64 (by omega) (by omega)
          obtain ⟨q, hq⟩ : ∃ q, q = put2 r (v : Int) (w : Int) := ⟨_, rfl⟩
          rw [← hq] at hp r1 fq
          obtain ⟨e1, e2, e3, e4, e5⟩ := fq
          unfold fvS at e4
          clear hd dle hdd fh fhs hs ho1 ht r2 gq cp1 cp2 cp3 hql s1 s2 s3 t1 t2 t3 hq f4
          simp (disch := first | assumption | omega | (simp [*] <;> omega) | fail) [i_impl_firstRegular_1, f1, f2, f3, f5, e1, e2, e3, e4, e5, dv, c0, c0', q1, q2, q5, c1, hm, hp, r1, hself, hn']
        | none =>
          rw [ho1] at r1 hs
          dsimp only at hs
          rw [hs]
          obtain ⟨s, hs2⟩ : ∃ s, s = srch n k c r v (w + 1) := ⟨_, rfl⟩
          rw [← hs2] at r2 ⊢
          obtain ⟨d, hdd⟩ : ∃ d, d = deg r v := ⟨_, rfl⟩
          rw [← hdd] at dv dvl c1
          have q1 : IntKind.i64.wrap ((d : Int) + n) = d + n := wrap64 (by omega) (by omega)
          have q2 : IntKind.i64.wrap ((d : Int) + n - w) = d + n - w := wrap64 (by omega) (by omega)
          obtain ⟨q, hq⟩ : ∃ q, q = put2 r (v : Int) (w : Int) := ⟨_, rfl⟩
          rw [← hq] at hp r1 fq ht
          obtain ⟨e1, e2, e3, e4, e5⟩ := fq
          unfold fvS at e4 f4
          clear hd dle hdd fh fhs hs hs2 ho1 gq cp1 cp2 cp3 hql s1 s2 s3 t1 t2 t3 hq
          simp (disch := first | assumption | omega | (simp [*] <;> omega) | fail) [i_impl_firstRegular_1, f1, f2, f3, f4, f5, e1, e2, e3, e4, e5, dv, c0, c0', q1, q2, q5, c1, hm, hp, r1, r2, ht, hself, hn']
      · have c2' : mayB r k c v w = false := by simpa using c2
        rw [c2'] at hm
        rw [srch_not hwn c1 c2]
        obtain ⟨s, hs2⟩ : ∃ s, s = srch n k c r v (w + 1) := ⟨_, rfl⟩
        rw [← hs2] at r2 ⊢
        obtain ⟨d, hdd⟩ : ∃ d, d = deg r v := ⟨_, rfl⟩
        rw [← hdd] at dv dvl c1
        have q1 : IntKind.i64.wrap ((d : Int) + n) = d + n := wrap64 (by omega) (by omega)
        have q2 : IntKind.i64.wrap ((d : Int) + n - w) = d + n - w := wrap64 (by omega) (by omega)
        unfold fvS at f4
        clear hd dle hdd fh fhs hs2
        simp (disch := first | assumption | omega | (simp [*] <;> omega) | fail) [i_impl_firstRegular_1, f1, f2, f3, f4, f5, dv, c0, c0', q1, q2, q5, c1, hm, r2, hself, hn']
 termination_by ms n v w
 decreasing_by all_goals omega
end Go.Proofs.YthpgiimaadohcaaDoor.Zv

/- The first cage graph: the program's and the reference's answers. -/
namespace Go.Proofs.YthpgiimaadohcaaDoor.Zv
open Go
variable {nro : Nat}

theorem GV.zero {n : Nat} (h1 : 1 ≤ n) (h2 : n ≤ 62) : GV n (List.replicate n 0) := by
  have hr : ∀ v w, rbit (List.replicate n 0) v w = false := fun v w => by
    unfold rbit
    rw [List.getD_eq_getElem?_getD, List.getElem?_replicate]
    split <;> simp
  refine ⟨by omega, by omega, by simp, fun v hv => ⟨?_, ?_, hr v v⟩, fun v w _ _ => by rw [hr, hr]⟩
  · rw [List.getD_eq_getElem?_getD, List.getElem?_replicate]; split <;> simp
  · rw [List.getD_eq_getElem?_getD, List.getElem?_replicate]
    have : (0 : Int) < 2 ^ n := Int.pow_pos (by omega)
    split <;> simpa using this
theorem fits_zero {n : Nat} (h1 : 1 ≤ n) (h2 : n ≤ 62) {k c : Int} (hk : 0 ≤ k) : FitsP (List.replicate n 0) n k c := by
  have hr : ∀ v w, rbit (List.replicate n 0) v w = false := fun v w => by
    unfold rbit
    rw [List.getD_eq_getElem?_getD, List.getElem?_replicate]
    split <;> simp
  refine ⟨fun v hv => ?_, fun u w h => ?_⟩
  · unfold deg
    rw [List.getD_eq_getElem?_getD, List.getElem?_replicate, if_pos hv]
    simp [pc_zero]; exact hk
  · rw [hr] at h; cases h

/-- Why there is none: the reference's reasons, the program's. -/
def prS (n : Nat) (k c : Int) : Prop := (n * k) % 2 ≠ 0 ∨ n ≤ k ∨ (1 < k ∧ n < c)
def prI (n : Nat) (k c : Int) : Prop := (n * k) % 2 ≠ 0 ∨ n ≤ k ∨ (2 ≤ k ∧ n < gB k c.toNat)
instance (n : Nat) (k c : Int) : Decidable (prS n k c) := by unfold prS; infer_instance
instance (n : Nat) (k c : Int) : Decidable (prI n k c) := by unfold prI; infer_instance

theorem gB_ge {k c : Int} (hk : kcB k c = true) (h2 : 2 ≤ k) : c ≤ gB k c.toNat := by
  have : (1 ≤ k ∧ k ≤ 6) ∧ 3 ≤ c ∧ c ≤ 12 := by simpa [kcB] using hk
  obtain ⟨⟨_, a⟩, b, d⟩ := this
  have e1 : k = 2 ∨ k = 3 ∨ k = 4 ∨ k = 5 ∨ k = 6 := by omega
  have e2 : c = 3 ∨ c = 4 ∨ c = 5 ∨ c = 6 ∨ c = 7 ∨ c = 8 ∨ c = 9 ∨ c = 10 ∨ c = 11 ∨ c = 12 := by omega
  rcases e1 with rfl | rfl | rfl | rfl | rfl <;> rcases e2 with rfl | rfl | rfl | rfl | rfl | rfl | rfl | rfl | rfl | rfl <;> decide

theorem prune_none {n : Nat} {k c : Int} (hk : kcB k c = true) (hn : 1 ≤ n) (hn2 : n ≤ 10) (hp : 2 ≤ k ∧ n < gB k c.toNat) : srch n k c (List.replicate n 0) 0 1 = none := by
  have hkc : (1 ≤ k ∧ k ≤ 6) ∧ 3 ≤ c ∧ c ≤ 12 := by simpa [kcB] using hk
  cases h : srch n k c (List.replicate n 0) 0 1 with
  | none => rfl
  | some r =>
    obtain ⟨g, hf, hd⟩ := srch_ok n k c _ 0 1 (GV.zero hn (by omega)) (by omega) (by omega) (by omega) (fits_zero hn (by omega) (by omega)) (fun u hu => by omega) r h
    have := moore g (noSh g hf.2) hd (by omega) (by omega)
    omega

/-- The first cage graph. -/
noncomputable def fR (n : Nat) (k c : Int) : Option (List Int) := if prS n k c then none else srch n k c (List.replicate n 0) 0 1
theorem fR_impl {n : Nat} {k c : Int} (hk : kcB k c = true) (hn : 1 ≤ n) (hn2 : n ≤ 10) : fR n k c = if prI n k c then none else srch n k c (List.replicate n 0) 0 1 := by
  unfold fR
  by_cases h1 : prS n k c
  · rw [if_pos h1, if_pos]
    rcases h1 with h | h | ⟨h2, h3⟩
    · exact .inl h
    · exact .inr (.inl h)
    · exact .inr (.inr ⟨by omega, by have := gB_ge hk (by omega); omega⟩)
  · rw [if_neg h1]
    by_cases h2 : prI n k c
    · rw [if_pos h2]
      rcases h2 with h | h | h
      · exact absurd (.inl h) h1
      · exact absurd (.inr (.inl h)) h1
      · exact prune_none hk hn hn2 h
    · rw [if_neg h2]
theorem fR_len {n : Nat} {k c : Int} (hk : kcB k c = true) (hn : 1 ≤ n) (hn2 : n ≤ 10) {r : List Int} (h : fR n k c = some r) : GV n r ∧ FitsP r n k c ∧ ∀ u, u < n → (deg r u : Int) = k := by
  have hkc : (1 ≤ k ∧ k ≤ 6) ∧ 3 ≤ c ∧ c ≤ 12 := by simpa [kcB] using hk
  unfold fR at h
  split at h
  · cases h
  · exact srch_ok n k c _ 0 1 (GV.zero hn (by omega)) (by omega) (by omega) (by omega) (fits_zero hn (by omega) (by omega)) (fun u hu => by omega) r h

theorem c_spec_l07First (n : Nat) (k c : Int) (h : VH) (hk : kcB k c = true) (h1 : 1 ≤ n) (h2 : n ≤ 10) (hn : nro ≤ h.length) :
    vcall F nro k_spec_l07First [.int .i64 n, .int .i64 k, .int .i64 c] h = some (.tuple #[gv n (.slice (some ⟨h.length, 0, none⟩) n n), .bool (fR n k c).isSome], h ++ [⟨1, ints (lefto (List.replicate n 0) (fR n k c))⟩]) := by
  have hkc : (1 ≤ k ∧ k ≤ 6) ∧ 3 ≤ c ∧ c ≤ 12 := by simpa [kcB] using hk
  have hn' := fun k => Nat.le_trans hn (Nat.le_add_right h.length k)
  refine v_spec_l07First (by simp [i_spec_l07First]) ?_
  rw [fbody_eq]
  have he := c_spec_l01Empty (nro := nro) n (h ++ [⟨0, [.int .i64 0, .slice none 0 0]⟩]) (by omega) (by omega) (by simp; omega)
  rw [Int.toNat_natCast] at he
  simp only [List.length_append, List.length_singleton, List.append_assoc, List.cons_append, List.nil_append] at he
  have b1 : 0 ≤ (n : Int) * k := Int.mul_nonneg (by omega) (by omega)
  have b2 : (n : Int) * k ≤ 10 * 6 := Int.mul_le_mul (by omega) (by omega) (by omega) (by omega)
  have w1 : IntKind.i64.wrap ((n : Int) * k) = n * k := wrap64 (by omega) (by omega)
  have t1 : ((n : Int) * k).tmod 2 = (n * k) % 2 := Int.tmod_eq_emod_of_nonneg b1
  have w2 : IntKind.i64.wrap ((n : Int) * k % 2) = (n : Int) * k % 2 := wrap64 (by omega) (by omega)
  unfold fR
  by_cases hp : prS n k c
  · rw [if_pos hp]
    rcases hp with hp | hp | hp
    · obtain ⟨m, hm⟩ : ∃ m, m = (n : Int) * k := ⟨_, rfl⟩
      rw [← hm] at *
      clear hm
      simp (disch := first | assumption | omega | (simp [*] <;> omega) | fail) [i_spec_l07First, he, w1, w2, t1, hp, fresults, fresL, fres1, hn', hn]
    · by_cases hq : (n : Int) * k % 2 = 0
      · obtain ⟨m, hm⟩ : ∃ m, m = (n : Int) * k := ⟨_, rfl⟩
        rw [← hm] at *
        clear hm
        simp (disch := first | assumption | omega | (simp [*] <;> omega) | fail) [i_spec_l07First, he, w1, w2, t1, hp, hq, fresults, fresL, fres1, hn', hn]
      · obtain ⟨m, hm⟩ : ∃ m, m = (n : Int) * k := ⟨_, rfl⟩
        rw [← hm] at *
        clear hm
        simp (disch := first | assumption | omega | (simp [*] <;> omega) | fail) [i_spec_l07First, he, w1, w2, t1, hp, hq, fresults, fresL, fres1, hn', hn]
    · by_cases hq : (n : Int) * k % 2 = 0
      · by_cases hr : (n : Int) ≤ k
        · obtain ⟨m, hm⟩ : ∃ m, m = (n : Int) * k := ⟨_, rfl⟩
          rw [← hm] at *
          clear hm
          simp (disch := first | assumption | omega | (simp [*] <;> omega) | fail) [i_spec_l07First, he, w1, w2, t1, hr, hq, fresults, fresL, fres1, hn', hn]
        · obtain ⟨m, hm⟩ : ∃ m, m = (n : Int) * k := ⟨_, rfl⟩
          rw [← hm] at *
          clear hm
          simp (disch := first | assumption | omega | (simp [*] <;> omega) | fail) [i_spec_l07First, he, w1, w2, t1, hp, hr, hq, fresults, fresL, fres1, hn', hn]
      · obtain ⟨m, hm⟩ : ∃ m, m = (n : Int) * k := ⟨_, rfl⟩
        rw [← hm] at *
        clear hm
        simp (disch := first | assumption | omega | (simp [*] <;> omega) | fail) [i_spec_l07First, he, w1, w2, t1, hq, fresults, fresL, fres1, hn', hn]
  · rw [if_neg hp]
    have hq : (n : Int) * k % 2 = 0 := Classical.byContradiction fun e => hp (.inl e)
    have hr : ¬ (n : Int) ≤ k := fun e => hp (.inr (.inl e))
    have hs : 1 < k → ¬ (n : Int) < c := fun e1 e2 => hp (.inr (.inr ⟨e1, e2⟩))
    have hsr := c_spec_l07Search (nro := nro) n k c (h.length + 1) h2 (by omega) (List.replicate n 0) 0 1 (h ++ [⟨0, [.int .i64 0, .slice none 0 0]⟩, ⟨1, ints (List.replicate n 0)⟩, ⟨0, [.int .i64 n, .slice (some ⟨h.length + 1, 0, none⟩) n n]⟩]) (GV.zero h1 (by omega)) (by omega) (by omega) (by omega) (by simp)
    have hln : (lefto (List.replicate n 0) (srch n k c (List.replicate n 0) 0 1)).length = n := by
      cases ho : srch n k c (List.replicate n 0) 0 1 with
      | none => simp
      | some r => exact (srch_ok n k c _ 0 1 (GV.zero h1 (by omega)) (by omega) (by omega) (by omega) (fits_zero h1 (by omega) (by omega)) (fun u hu => by omega) r ho).1.rok.len
    obtain ⟨o, ho⟩ : ∃ o, o = srch n k c (List.replicate n 0) 0 1 := ⟨_, rfl⟩
    rw [← ho] at hsr hln ⊢
    obtain ⟨m, hm⟩ : ∃ m, m = (n : Int) * k := ⟨_, rfl⟩
    rw [← hm] at *
    obtain ⟨q, hq2⟩ : ∃ q, q = lefto (List.replicate n 0) o := ⟨_, rfl⟩
    rw [← hq2] at hsr hln ⊢
    clear hm ho hp hq2
    simp [-List.reduceReplicate] at hsr
    by_cases hk1 : 1 < k
    · have hs' := hs hk1
      simp (disch := first | assumption | omega | (simp [*] <;> omega) | fail) [i_spec_l07First, he, w1, w2, t1, hq, hr, hk1, hs', hsr, hln, fresults, fresL, fres1, hn', hn]
    · clear hs
      simp (disch := first | assumption | omega | (simp [*] <;> omega) | fail) [i_spec_l07First, he, w1, w2, t1, hq, hr, hk1, hsr, hln, fresults, fresL, fres1, hn', hn]
end Go.Proofs.YthpgiimaadohcaaDoor.Zv

/- The first cage graph: the program. -/
namespace Go.Proofs.YthpgiimaadohcaaDoor.Zv
open Go
variable {nro : Nat}

attribute [simp] isAtom
@[simp] theorem vcells_func (f : Fn) (a b : Array Value) : vcells (.func f a b) = [.func f a b] := rfl
@[simp] theorem vcells_nilFunc : vcells .nilFunc = [.nilFunc] := rfl

set_option maxHeartbeats 4000000 in
theorem c_impl_firstRegular (n : Nat) (k c : Int) (h : VH) (hk : kcB k c = true) (h1 : 1 ≤ n) (h2 : n ≤ 10) (hn : nro ≤ h.length) :
    vcall F nro k_impl_firstRegular [.int .i64 n, .int .i64 k, .int .i64 c] h = some (if prI n k c then (.tuple #[gv 0 (.slice none 0 0), .bool false], h) else (.tuple #[gv n (.slice (some ⟨h.length, 0, none⟩) n n), .bool (fR n k c).isSome], h ++ [⟨1, ints (lefto (List.replicate n 0) (fR n k c))⟩])) := by
  have hkc : (1 ≤ k ∧ k ≤ 6) ∧ 3 ≤ c ∧ c ≤ 12 := by simpa [kcB] using hk
  have hn' := fun k => Nat.le_trans hn (Nat.le_add_right h.length k)
  refine v_impl_firstRegular (by simp [i_impl_firstRegular]) ?_
  rw [fbody_eq]
  have b1 : 0 ≤ (n : Int) * k := Int.mul_nonneg (by omega) (by omega)
  have b2 : (n : Int) * k ≤ 10 * 6 := Int.mul_le_mul (by omega) (by omega) (by omega) (by omega)
  obtain ⟨m, hm⟩ : ∃ m, m = (n : Int) * k := ⟨_, rfl⟩
  have w1 : IntKind.i64.wrap ((n : Int) * k) = m := by rw [wrap64 (by omega) (by omega), hm]
  have t1 : m.tmod 2 = m % 2 := Int.tmod_eq_emod_of_nonneg (by omega)
  have w2 : IntKind.i64.wrap (m % 2) = m % 2 := wrap64 (by omega) (by omega)
  have hB := fun L => c_impl_girthBound (nro := nro) k c.toNat (h ++ L) (by omega) (by omega) (by omega) (by omega)
  rw [show ((c.toNat : Nat) : Int) = c by omega] at hB
  rw [fR_impl hk h1 h2]
  by_cases hp : prI n k c
  · rw [if_pos hp]
    unfold prI at hp
    obtain ⟨G, hG⟩ : ∃ G, G = gB k c.toNat := ⟨_, rfl⟩
    rw [← hG] at hB hp
    rw [← hm] at hp
    clear hm hG b1 b2
    by_cases hq : m % 2 = 0
    · by_cases hr : (n : Int) ≤ k
      · clear hp
        simp (disch := first | assumption | omega | (simp [*] <;> omega) | fail) [i_impl_firstRegular, w1, w2, t1, hr, hq, hB, fresults, fresL, fres1, hn', hn]
      · obtain ⟨hp1, hp2⟩ : 2 ≤ k ∧ n < G := by
          rcases hp with h | h | h
          · exact absurd hq h
          · exact absurd h hr
          · exact h
        simp (disch := first | assumption | omega | (simp [*] <;> omega) | fail) [i_impl_firstRegular, w1, w2, t1, hp1, hp2, hr, hq, hB, fresults, fresL, fres1, hn', hn]
    · clear hp
      simp (disch := first | assumption | omega | (simp [*] <;> omega) | fail) [i_impl_firstRegular, w1, w2, t1, hq, fresults, fresL, fres1, hn', hn]
  · rw [if_neg hp, if_neg hp]
    have hq : (n : Int) * k % 2 = 0 := Classical.byContradiction fun e => hp (.inl e)
    have hr : ¬ (n : Int) ≤ k := fun e => hp (.inr (.inl e))
    have hs : 2 ≤ k → ¬ (n : Int) < gB k c.toNat := fun e1 e2 => hp (.inr (.inr ⟨e1, e2⟩))
    obtain ⟨G, hG⟩ : ∃ G, G = gB k c.toNat := ⟨_, rfl⟩
    rw [← hG] at hB hs
    have he := c_impl_empty (nro := nro) n (h ++ [⟨0, [.int .i64 n]⟩, ⟨0, [.int .i64 k]⟩, ⟨0, [.int .i64 c]⟩, ⟨0, [.int .i64 0, .slice none 0 0]⟩]) (by omega) (by omega) (by simp; omega)
    rw [Int.toNat_natCast] at he
    have hsr := c_impl_firstRegular_1 (nro := nro) n k c (h.length + 4) h.length (h.length + 5) (h.length + 1) (h.length + 6) (h.length + 2) h2 (by omega) (List.replicate n 0) 0 1 (h ++ [⟨0, [.int .i64 n]⟩, ⟨0, [.int .i64 k]⟩, ⟨0, [.int .i64 c]⟩, ⟨0, [.int .i64 0, .slice none 0 0]⟩, ⟨1, ints (List.replicate n 0)⟩, ⟨0, [.int .i64 n, .slice (some ⟨h.length + 4, 0, none⟩) n n]⟩, ⟨0, [fvS h.length (h.length + 5) (h.length + 1) (h.length + 6) (h.length + 2)]⟩])
      ⟨by simp, by simp, by simp, by simp, by simp⟩ (GV.zero h1 (by omega)) (by omega) (by omega) (by omega) (by simp)
    have hln : (lefto (List.replicate n 0) (srch n k c (List.replicate n 0) 0 1)).length = n := by
      cases ho : srch n k c (List.replicate n 0) 0 1 with
      | none => simp
      | some r => exact (srch_ok n k c _ 0 1 (GV.zero h1 (by omega)) (by omega) (by omega) (by omega) (fits_zero h1 (by omega) (by omega)) (fun u hu => by omega) r ho).1.rok.len
    obtain ⟨o, ho⟩ : ∃ o, o = srch n k c (List.replicate n 0) 0 1 := ⟨_, rfl⟩
    rw [← ho] at hsr hln ⊢
    rw [← hm] at hq
    clear b1 b2
    obtain ⟨q, hq2⟩ : ∃ q, q = lefto (List.replicate n 0) o := ⟨_, rfl⟩
    rw [← hq2] at hsr hln ⊢
    clear hm ho hp hq2 hG
    unfold fvS at hsr
    simp [-List.reduceReplicate] at hsr he
    by_cases hk1 : 2 ≤ k
    · have hs' := hs hk1
      simp (disch := first | assumption | omega | (simp [*] <;> omega) | fail) [i_impl_firstRegular, he, w1, w2, t1, hq, hr, hk1, hs', hB, hsr, hln, fresults, fresL, fres1, hn', hn]
    · clear hs
      simp (disch := first | assumption | omega | (simp [*] <;> omega) | fail) [i_impl_firstRegular, he, w1, w2, t1, hq, hr, hk1, hB, hsr, hln, fresults, fresL, fres1, hn', hn]
end Go.Proofs.YthpgiimaadohcaaDoor.Zv

/- The laws of FirstRegular and LeastVertices. -/
namespace Go.Proofs.YthpgiimaadohcaaDoor.Zv
open Go
variable {nro : Nat}

/-- What the function answers. -/
noncomputable def firstAns (n k c : Int) : GAns := if (1 ≤ n ∧ n ≤ 10) ∧ kcB k c = true then (match fR n.toNat k c with
  | some r => .inl (n, r)
  | none => .inr 4) else .inr 2

theorem c_spec_FirstRegular (n k c : Int) (h : VH) (hn : nro ≤ h.length) : vcall F nro k_spec_FirstRegular [.int .i64 n, .int .i64 k, .int .i64 c] h = some (gres h (firstAns n k c)) := by
  have hn' := fun k => Nat.le_trans hn (Nat.le_add_right h.length k)
  refine v_spec_FirstRegular (by simp [i_spec_FirstRegular]) ?_
  rw [fbody_eq]
  have h1 := fun L => c_spec_l01In (nro := nro) n 1 10 (h ++ L)
  have h2 := fun L => c_spec_l07Numbers (nro := nro) k c (h ++ L)
  unfold firstAns
  by_cases g : 1 ≤ n ∧ n ≤ 10
  · rw [decide_eq_true g] at h1
    by_cases g2 : kcB k c = true
    · rw [if_pos ⟨g, g2⟩]
      obtain ⟨N, rfl⟩ : ∃ N : Nat, n = N := ⟨n.toNat, by omega⟩
      have h3 := c_spec_l07First (nro := nro) N k c (h ++ [⟨0, [.int .i64 0, .slice none 0 0]⟩]) g2 (by omega) (by omega) (by simp; omega)
      rw [g2] at h2
      rw [Int.toNat_natCast]
      cases hf : fR N k c with
      | some r =>
        have hl := (fR_len g2 (by omega) (by omega) hf).1.rok.len
        rw [hf] at h3
        simp [-List.reduceReplicate] at h3
        simp (disch := first | assumption | omega | (simp [*] <;> omega) | fail) [i_spec_FirstRegular, h1, h2, h3, hl, fresults, fresL, fres1, hn', hn]
      | none =>
        rw [hf] at h3
        simp [-List.reduceReplicate] at h3
        simp (disch := first | assumption | omega | (simp [*] <;> omega) | fail) [i_spec_FirstRegular, h1, h2, h3, fresults, fresL, fres1, hn', hn]
    · rw [if_neg (fun h => g2 h.2)]
      have g3 : kcB k c = false := by simpa using g2
      rw [g3] at h2
      simp (disch := first | assumption | omega | (simp [*] <;> omega) | fail) [i_spec_FirstRegular, h1, h2, fresults, fresL, fres1, hn', hn]
  · rw [decide_eq_false g] at h1
    rw [if_neg (fun h => g h.1)]
    simp (disch := first | assumption | omega | (simp [*] <;> omega) | fail) [i_spec_FirstRegular, h1, fresults, fresL, fres1, hn', hn]

theorem c_impl_FirstRegular (n k c : Int) (h : VH) (hn : nro ≤ h.length) : vcall F nro k_impl_FirstRegular [.int .i64 n, .int .i64 k, .int .i64 c] h = some (gres h (firstAns n k c)) := by
  have hn' := fun k => Nat.le_trans hn (Nat.le_add_right h.length k)
  refine v_impl_FirstRegular (by simp [i_impl_FirstRegular]) ?_
  rw [fbody_eq]
  have h2 := fun L => c_impl_isBoth (nro := nro) k c (h ++ L)
  unfold firstAns
  by_cases g : 1 ≤ n ∧ n ≤ 10
  · have ga : ¬ n < 1 := by omega
    have gb : ¬ 10 < n := by omega
    by_cases g2 : kcB k c = true
    · rw [if_pos ⟨g, g2⟩]
      obtain ⟨N, rfl⟩ : ∃ N : Nat, n = N := ⟨n.toNat, by omega⟩
      have h3 := c_impl_firstRegular (nro := nro) N k c (h ++ [⟨0, [.int .i64 0, .slice none 0 0]⟩]) g2 (by omega) (by omega) (by simp; omega)
      have e := fR_impl g2 (n := N) (by omega) (by omega)
      rw [g2] at h2
      rw [Int.toNat_natCast]
      by_cases hp : prI N k c
      · rw [if_pos hp] at h3 e
        rw [e]
        simp (disch := first | assumption | omega | (simp [*] <;> omega) | fail) [i_impl_FirstRegular, ga, gb, h2, h3, fresults, fresL, fres1, hn', hn]
      · rw [if_neg hp] at h3
        cases hf : fR N k c with
        | some r =>
          have hl := (fR_len g2 (by omega) (by omega) hf).1.rok.len
          rw [hf] at h3
          simp [-List.reduceReplicate] at h3
          simp (disch := first | assumption | omega | (simp [*] <;> omega) | fail) [i_impl_FirstRegular, ga, gb, h2, h3, hl, fresults, fresL, fres1, hn', hn]
        | none =>
          rw [hf] at h3
          simp [-List.reduceReplicate] at h3
          simp (disch := first | assumption | omega | (simp [*] <;> omega) | fail) [i_impl_FirstRegular, ga, gb, h2, h3, fresults, fresL, fres1, hn', hn]
    · rw [if_neg (fun h => g2 h.2)]
      have g3 : kcB k c = false := by simpa using g2
      rw [g3] at h2
      simp (disch := first | assumption | omega | (simp [*] <;> omega) | fail) [i_impl_FirstRegular, ga, gb, h2, fresults, fresL, fres1, hn', hn]
  · rw [if_neg (fun h => g h.1)]
    by_cases ga : n < 1
    · simp (disch := first | assumption | omega | (simp [*] <;> omega) | fail) [i_impl_FirstRegular, ga, fresults, fresL, fres1, hn', hn]
    · have gb : 10 < n := by omega
      simp (disch := first | assumption | omega | (simp [*] <;> omega) | fail) [i_impl_FirstRegular, ga, gb, fresults, fresL, fres1, hn', hn]

theorem law_FirstRegular (n k c : Int) (h : VH) (hn1 : -9223372036854775808 ≤ n) (hn2 : n ≤ 9223372036854775807) (hk1 : -9223372036854775808 ≤ k) (hk2 : k ≤ 9223372036854775807) (hc1 : -9223372036854775808 ≤ c) (hc2 : c ≤ 9223372036854775807) (hn : nro ≤ h.length) :
    vcall F nro k_laws_FnExactFirstRegular [.int .i64 n, .int .i64 k, .int .i64 c] h = some (.bool true, h) := by
  refine v_laws_FnExactFirstRegular (by simp [i_laws_FnExactFirstRegular]) ?_
  rw [fbody_eq]
  have p1 : ∀ k : Nat, (0 : Int) ≤ 1 + k := fun k => by omega
  have p2 : ∀ k : Nat, ¬ (1 + k : Int) < 0 := fun k => by omega
  have p3 : ∀ k j : Nat, ¬ (1 + k + j : Int) < 0 := fun k j => by omega
  have hn' := fun k => Nat.le_trans hn (Nat.le_add_right h.length k)
  have hc1 := fun L => c_spec_FirstRegular (nro := nro) n k c (h ++ L) (by simp; omega)
  have hc2 := fun L => c_impl_FirstRegular (nro := nro) n k c (h ++ L) (by simp; omega)
  have hc10 := c_spec_FirstRegular (nro := nro) n k c h hn
  have hc20 := c_impl_FirstRegular (nro := nro) n k c h hn
  cases hp : firstAns n k c with
  | inl q =>
    obtain ⟨x, r⟩ := q
    have hl : r.length ≤ 62 := by
      unfold firstAns at hp
      split at hp
      · rename_i g
        split at hp
        · rename_i r' hf
          cases hp
          have := (fR_len g.2 (by omega) (by omega) hf).1.rok.len
          omega
        · cases hp
      · cases hp
    rw [hp] at hc1 hc2 hc10 hc20
    simp (disch := first | assumption | omega | (simp [*] <;> omega) | fail) [i_laws_FnExactFirstRegular, hc1, hc2, hc10, hc20, r_laws_eqGraph, r_laws_markGraph, r_laws_heldGraph, hn', hn, hl, p1, p2, p3]
  | inr x =>
    rw [hp] at hc1 hc2 hc10 hc20
    simp (disch := first | assumption | omega | (simp [*] <;> omega) | fail) [i_laws_FnExactFirstRegular, hc1, hc2, hc10, hc20, r_laws_eqGraph, r_laws_markGraph, r_laws_markGraph_nil, r_laws_heldGraph, hn', hn, p1, p2, p3]

/-! ### LeastVertices -/
def leastV : Unit ⊕ (Nat × List Int) → Int × Int
  | .inl _ => (0, 4)
  | .inr p => (p.1, 0)
def leastX (h : VH) : Unit ⊕ (Nat × List Int) → Option (VX × FE × VH)
  | .inl _ => some (.exit 0, fl [], h)
  | .inr p => some (.ret, fl [(4, .int .i64 p.1), (5, .int .i64 0)], h ++ [⟨1, ints p.2⟩, ⟨0, [.int .i64 p.1, .slice (some ⟨h.length, 0, none⟩) p.1 p.1]⟩])
@[simp] theorem leastV_inl (x : Unit) : leastV (.inl x) = (0, 4) := rfl
@[simp] theorem leastV_inr (i : Nat) (r : List Int) : leastV (.inr (i, r)) = ((i : Int), 0) := rfl
@[simp] theorem leastX_inl (h : VH) (x : Unit) : leastX h (.inl x) = some (.exit 0, fl [], h) := rfl
@[simp] theorem leastX_inr (h : VH) (i : Nat) (r : List Int) : leastX h (.inr (i, r)) = some (.ret, fl [(4, .int .i64 i), (5, .int .i64 0)], h ++ [⟨1, ints r⟩, ⟨0, [.int .i64 i, .slice (some ⟨h.length, 0, none⟩) i i]⟩]) := rfl

end Go.Proofs.YthpgiimaadohcaaDoor.Zv

