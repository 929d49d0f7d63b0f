/- Part F of the proof: ZwEdges, ZwGiven, ZwGirths1, ZwTwo, ZwShort, ZwGirths2, ZwConn, ZwParts, ZwHalf, ZwGirths3, ZwDraw, ZwDraw2, ZwSearch, ZwFound, ZwFirst, ZwDraw4, ZwDraw5, ZwCompl, ZwBeside, ZwNamed. Conditions: none. -/
import Derived.Test.YtghondlbkjponaaDoorZpD
import Derived.Test.YtghondlbkjponaaDoorZpE
set_option linter.unusedSimpArgs false
set_option linter.unusedVariables false
/- Lists of lists: all edges. -/
namespace Go.Proofs.YtghondlbkjponaaDoor.Zv
open Go
variable {nro : Nat}

/-- The edges of v from w on. -/
def edgF (rows : List Int) (v n w : Nat) : List (List Int) := if h : w < n then (if rbit rows v w = true then [[(v : Int), (w : Int)]] else []) ++ edgF rows v n (w + 1) else []
 termination_by n - w
theorem edgF_end {rows : List Int} {v n w : Nat} (h : ¬ w < n) : edgF rows v n w = [] := by rw [edgF, dif_neg h]
theorem edgF_step {rows : List Int} {v n w : Nat} (h : w < n) : edgF rows v n w = (if rbit rows v w = true then [[(v : Int), (w : Int)]] else []) ++ edgF rows v n (w + 1) := by rw [edgF, dif_pos h]
/-- All edges from v on. -/
def edgesF (rows : List Int) (n v : Nat) : List (List Int) := if h : v < n then edgF rows v n (v + 1) ++ edgesF rows n (v + 1) else []
 termination_by n - v
theorem edgesF_end {rows : List Int} {n v : Nat} (h : ¬ v < n) : edgesF rows n v = [] := by rw [edgesF, dif_neg h]
theorem edgesF_step {rows : List Int} {n v : Nat} (h : v < n) : edgesF rows n v = edgF rows v n (v + 1) ++ edgesF rows n (v + 1) := by rw [edgesF, dif_pos h]
theorem edgF_mem (rows : List Int) (v n w : Nat) (e : List Int) : e ∈ edgF rows v n w ↔ ∃ k : Nat, w ≤ k ∧ k < n ∧ rbit rows v k = true ∧ e = [(v : Int), (k : Int)] := by
  by_cases h : w < n
  · rw [edgF_step h, List.mem_append, edgF_mem rows v n (w + 1) e]
    split
    · rename_i hb
      simp only [List.mem_singleton]
      constructor
      · rintro (rfl | ⟨k, h1, h2, h3, h4⟩)
        · exact ⟨w, Nat.le_refl _, h, hb, rfl⟩
        · exact ⟨k, by omega, h2, h3, h4⟩
      · rintro ⟨k, h1, h2, h3, h4⟩
        by_cases e : k = w
        · subst e; exact .inl h4
        · exact .inr ⟨k, by omega, h2, h3, h4⟩
    · rename_i hb
      simp only [List.not_mem_nil, false_or]
      constructor
      · rintro ⟨k, h1, h2, h3, h4⟩
        exact ⟨k, by omega, h2, h3, h4⟩
      · rintro ⟨k, h1, h2, h3, h4⟩
        by_cases e : k = w
        · subst e; exact absurd h3 hb
        · exact ⟨k, by omega, h2, h3, h4⟩
  · rw [edgF_end h]
    simp only [List.not_mem_nil, false_iff]
    rintro ⟨k, h1, h2, _⟩
    omega
 termination_by n - w
theorem edgesF_mem (rows : List Int) (n v : Nat) (e : List Int) : e ∈ edgesF rows n v ↔ ∃ u k : Nat, v ≤ u ∧ u < k ∧ k < n ∧ rbit rows u k = true ∧ e = [(u : Int), (k : Int)] := by
  by_cases h : v < n
  · rw [edgesF_step h, List.mem_append, edgF_mem, edgesF_mem rows n (v + 1) e]
    constructor
    · rintro (⟨k, h1, h2, h3, h4⟩ | ⟨u, k, h1, h2, h3, h4, h5⟩)
      · exact ⟨v, k, Nat.le_refl _, by omega, h2, h3, h4⟩
      · exact ⟨u, k, by omega, h2, h3, h4, h5⟩
    · rintro ⟨u, k, h1, h2, h3, h4, h5⟩
      by_cases e : u = v
      · subst e; exact .inl ⟨k, by omega, h3, h4, h5⟩
      · exact .inr ⟨u, k, by omega, h2, h3, h4, h5⟩
  · rw [edgesF_end h]
    simp only [List.not_mem_nil, false_iff]
    rintro ⟨u, k, h1, h2, h3, _⟩
    omega
 termination_by n - v
theorem edgF_len (rows : List Int) (v n w : Nat) (hw : w ≤ n) : (edgF rows v n w).length ≤ n - w := by
  by_cases h : w < n
  · rw [edgF_step h, List.length_append]
    have := edgF_len rows v n (w + 1) h
    split <;> simp <;> omega
  · rw [edgF_end h]; simp
 termination_by n - w

/-- The heap in the loops. -/
abbrev eH (h : VH) (n : Int) (s : Value) (vs : List Value) (G : VH) : VH := h ++ ⟨0, [.int .i64 n, s]⟩ :: ⟨1, vs⟩ :: G
abbrev eq1 (h : VH) (m : Nat) : Value := .slice (some ⟨h.length + 1, 0, none⟩) m m
theorem eH_clean {h : VH} {n : Int} {s : Value} {vs0 vs vals : List Value} {G0 G : VH} {ess0 ess : List (List Int)} (e0 : EI (h.length + 2) vs0 G0 ess0) (e : EI (h.length + 2) vs G ess) (hG : G0.length ≤ G.length) (hv : ∀ v ∈ vals, Old (h.length + 2 + G0.length) v) :
    ∃ G1, kclean (eH h n s vs0 G0) vals (eH h n s vs G) = (vals, eH h n s vs G1) ∧ EI (h.length + 2) vs G1 ess ∧ G0.length ≤ G1.length := by
  have := EI.cleanP (P0 := h ++ [⟨0, [.int .i64 n, s]⟩]) (P := h ++ [⟨0, [.int .i64 n, s]⟩]) (by simpa using e0) (by simpa using e) rfl hG (by simpa using hv)
  simpa using this

theorem eH_clean' {h : VH} {n : Int} {s : Value} {vs0 vs vals : List Value} {G0 G : VH} {ess0 ess : List (List Int)} (e0 : EI (h.length + 2) vs0 G0 ess0) (e : EI (h.length + 2) vs G ess) (hG : G0.length ≤ G.length) (hv : ∀ v ∈ vals, Old (h.length + 2 + G0.length) v) :
    ∃ G1, kclean (eH h n s vs0 G0) vals (eH h n s vs G) = (vals, eH h n s vs G1) ∧ EI (h.length + 2) vs G1 ess ∧ G0.length ≤ G1.length ∧ ∀ k, k < G0.length → G1[k]? = G[k]? := by
  have := EI.cleanP' (P0 := h ++ [⟨0, [.int .i64 n, s]⟩]) (P := h ++ [⟨0, [.int .i64 n, s]⟩]) (by simpa using e0) (by simpa using e) rfl hG (by simpa using hv)
  simpa using this

end Go.Proofs.YtghondlbkjponaaDoor.Zv

/- The code of a graph that has to fit k and c. -/
namespace Go.Proofs.YtghondlbkjponaaDoor.Zv
open Go
variable {nro : Nat}

theorem edges_len' (rows : List Int) (n v : Nat) (hn : n ≤ 62) : (edgesF rows n v).length ≤ (n - v) * 62 := by
  by_cases h : v < n
  · rw [edgesF_step h, List.length_append]
    have h1 := edges_len' rows n (v + 1) hn
    have h2 := edgF_len rows v n (v + 1) h
    have e : n - v = (n - (v + 1)) + 1 := by omega
    rw [e, Nat.add_mul]
    omega
  · rw [edgesF_end h]; simp
 termination_by n - v

end Go.Proofs.YtghondlbkjponaaDoor.Zv

/- The sum of the shortest cycles of all edges, without overflow. -/
namespace Go.Proofs.YtghondlbkjponaaDoor.Zv
open Go
open Classical

/-- A step of the sum over all edges. -/
def csF (rows : List Int) (n : Nat) (L : Int) (a b : Nat) (acc : Int) : Int := if rbit rows a b = true ∧ arF rows a b = L then IntKind.i64.wrap (acc + arN rows n a b) else acc
def csRow (rows : List Int) (n : Nat) (L : Int) (a : Nat) (acc : Int) : Int := upF (fun b x => csF rows n L a b x) n (a + 1) acc
def csAll (rows : List Int) (n : Nat) (L : Int) : Int := upF (fun a x => csRow rows n L a x) n 0 0
def csL (rows : List Int) (n : Nat) (L : Int) (acc : Int) (es : List (List Int)) : Int := es.foldl (fun x e => csF rows n L (e.getD 0 0).toNat (e.getD 1 0).toNat x) acc
theorem csL_app (rows : List Int) (n : Nat) (L acc : Int) (xs ys : List (List Int)) : csL rows n L acc (xs ++ ys) = csL rows n L (csL rows n L acc xs) ys := by simp [csL]
theorem csL_edg (rows : List Int) (n : Nat) (L : Int) (v : Nat) (w : Nat) (acc : Int) : csL rows n L acc (edgF rows v n w) = upF (fun b x => csF rows n L v b x) n w acc := by
  by_cases h : w < n
  · rw [edgF_step h, csL_app, csL_edg rows n L v (w + 1), upF_step h]
    congr 1
    by_cases c : rbit rows v w = true
    · rw [if_pos c]; simp [csL]
    · rw [if_neg c]; simp [csL, csF, c]
  · rw [edgF_end h, upF_end h]; rfl
 termination_by n - w
theorem csL_edges (rows : List Int) (n : Nat) (L : Int) (v : Nat) (acc : Int) : csL rows n L acc (edgesF rows n v) = upF (fun a x => csRow rows n L a x) n v acc := by
  by_cases h : v < n
  · rw [edgesF_step h, csL_app, csL_edges rows n L (v + 1), upF_step h, csL_edg]
    rfl
  · rw [edgesF_end h, upF_end h]; rfl
 termination_by n - v
theorem csL_all (rows : List Int) (n : Nat) (L : Int) : csL rows n L 0 (edgesF rows n 0) = csAll rows n L := csL_edges rows n L 0 0

/-! ### what the girth is -/
section
variable {n : Nat} {rows : List Int} (g : GV n rows)
include g
theorem gir_min (c : Int) (hc : 1 ≤ c) : (girF rows n 0 0 = 0 ∨ c ≤ girF rows n 0 0) ↔ ∀ p q, rbit rows p q = true → arF rows p q ≤ 0 ∨ c ≤ arF rows p q := by
  rw [girF_ok hc 0 0 (by omega)]
  constructor
  · rintro ⟨_, h⟩ p q hpq
    obtain ⟨h1, h2⟩ := rbit_lt g.rok hpq
    have hle := g.rok.le
    have := h p (Nat.zero_le _) h1 (q : Int) ((nbL_mem rows p q).mpr ⟨by omega, by omega, by rw [Int.toNat_natCast]; exact hpq⟩)
    rwa [Int.toNat_natCast] at this
  · intro h
    refine ⟨.inl rfl, fun u _ hu y hy => ?_⟩
    obtain ⟨h1, h2, h3⟩ := (nbL_mem rows u y).mp hy
    exact h u y.toNat h3
theorem gir_edge {L : Nat} (hL : girF rows n 0 0 = L) (h0 : L ≠ 0) : ∃ p q, rbit rows p q = true ∧ arF rows p q = L := by
  apply Classical.byContradiction
  intro hn
  have h1 := (gir_min g (L : Int) (by omega)).mp (by omega)
  have h2 := (gir_min g ((L : Int) + 1) (by omega)).mpr (fun p q hpq => by
    have a1 := h1 p q hpq
    have a2 : ¬ arF rows p q = L := fun e => hn ⟨p, q, hpq, e⟩
    omega)
  omega
theorem arF_3 {p q : Nat} (hpq : rbit rows p q = true) : arF rows p q ≤ 0 ∨ 3 ≤ arF rows p q := by
  obtain ⟨hp, hq⟩ := rbit_lt g.rok hpq
  have R2 := (cut_rok g hp hq hpq).1
  unfold arF
  rcases far_dist R2 hp q with ⟨h1, _⟩ | ⟨e, h1, h2⟩
  · omega
  · rw [h1]
    match e, h2 with
    | 0, h2 => exact absurd h2.1 (g.ne hpq)
    | 1, h2 =>
      obtain ⟨c, hc, hb⟩ := h2.1
      have : p = c := hc
      subst this
      rw [cut_iff g hpq] at hb
      exact absurd (.inl ⟨rfl, rfl⟩) hb.2
    | e + 2, _ => omega
theorem gir_3 {L : Nat} (hL : girF rows n 0 0 = L) (h0 : L ≠ 0) : 3 ≤ L := by
  have := (gir_min g 3 (by omega)).mpr (fun p q h => arF_3 g h)
  omega
/-- The number of shortest cycles through an edge does not overflow. -/
theorem arN_eq {L a b : Nat} (hab : rbit rows a b = true) (hl : arF rows a b = L) (h0 : L ≠ 0) : arN rows n a b = cyE rows n L a b ∧ 1 ≤ cyE rows n L a b ∧ cyE rows n L a b < 8589934592 := by
  obtain ⟨ha, hb⟩ := rbit_lt g.rok hab
  have R2 := (cut_rok g ha hb hab).1
  unfold cyE
  rw [if_pos hl]
  unfold arF at hl
  have hd : Dst (cut2 rows a b) (L - 1) a b := dist_far R2 ha (by omega)
  have h1 := wkN_small (n := n) g.rok.le hd
  have h2 : ∀ (k u : Nat), u < n → Wk (cut2 rows a b) k a u → 1 ≤ wkN (cut2 rows a b) n a k u := by
    intro k
    induction k with
    | zero =>
      intro u _ h
      have h' : a = u := h
      rw [wkN, if_pos h'.symm]; omega
    | succ k ih =>
      rintro u hu ⟨w, h3, h4⟩
      rw [wkN]
      have hw := (rbit_lt R2 h4).1
      have h5 := ih w hw h3
      have h6 : sumF (fun i => if i = w then (1 : Int) else 0) n ≤ sumF (fun w => if rbit (cut2 rows a b) w u = true then wkN (cut2 rows a b) n a k w else 0) n := by
        apply sumF_le
        intro i _
        by_cases c : i = w
        · subst c; rw [if_pos rfl, if_pos h4]; exact h5
        · rw [if_neg c]; split
          · exact wkN_nonneg _ _ _ _ _
          · omega
      rw [sumF_one hw (fun i _ hi => if_neg hi), if_pos rfl] at h6
      exact h6
  have h3 := h2 _ b hb hd.1
  refine ⟨?_, h3, h1⟩
  unfold arN
  rw [if_neg (by omega)]
  have e : (far (cut2 rows a b) a b).toNat = L - 1 := by omega
  rw [e]
  exact wrap64 (by omega) (by omega)
theorem cyE_rng {L a b : Nat} (hab : rbit rows a b = true) (h0 : L ≠ 0) : 0 ≤ cyE rows n L a b ∧ cyE rows n L a b < 8589934592 := by
  by_cases c : arF rows a b = L
  · obtain ⟨_, h1, h2⟩ := arN_eq g hab c h0
    omega
  · unfold cyE; rw [if_neg c]; omega

/-- One row of the sum. -/
theorem csRow_at {L : Nat} (h0 : L ≠ 0) (a : Nat) (i : Nat) (acc : Int) (hi : i ≤ n) (h1 : 0 ≤ acc) (h2 : acc + (n - i : Nat) * 8589934592 ≤ 9223372036854775807) :
    upF (fun b x => csF rows n L a b x) n i acc = acc + (sumF (fun b => if rbit rows a b = true then cyE rows n L a b else 0) n - sumF (fun b => if rbit rows a b = true then cyE rows n L a b else 0) i) := by
  by_cases hlt : i < n
  · rw [upF_step hlt]
    obtain ⟨c, hc⟩ : ∃ c, c = if rbit rows a i = true then cyE rows n L a i else 0 := ⟨_, rfl⟩
    have hcr : 0 ≤ c ∧ c < 8589934592 := by
      rw [hc]; split
      · rename_i hb; exact cyE_rng g hb h0
      · omega
    have e1 : csF rows n L a i acc = acc + c := by
      unfold csF
      by_cases hb : rbit rows a i = true
      · rw [if_pos hb] at hc
        by_cases hl : arF rows a i = L
        · rw [if_pos ⟨hb, hl⟩, (arN_eq g hb hl h0).1, ← hc]
          exact wrap64 (by omega) (by omega)
        · rw [if_neg (fun h => hl h.2)]
          unfold cyE at hc
          rw [if_neg hl] at hc
          omega
      · rw [if_neg (fun h => hb h.1), hc, if_neg hb]; omega
    rw [e1, csRow_at h0 a (i + 1) (acc + c) hlt (by omega) (by omega)]
    have e2 : sumF (fun b => if rbit rows a b = true then cyE rows n L a b else 0) (i + 1) = sumF (fun b => if rbit rows a b = true then cyE rows n L a b else 0) i + c := by rw [sumF, hc]
    rw [e2]; omega
  · rw [upF_end hlt]
    have : i = n := by omega
    subst this; omega
 termination_by n - i
omit g in
theorem sumF_from (f : Nat → Int) (a : Nat) : ∀ n, sumF (fun b => if a < b then f b else 0) n = if a < n then sumF f n - sumF f (a + 1) else 0
  | 0 => by simp [sumF]
  | n + 1 => by
    rw [sumF, sumF_from f a n]
    by_cases c : a < n
    · have e : sumF f (n + 1) = sumF f n + f n := rfl
      rw [if_pos c, if_pos c, if_pos (by omega), e]; omega
    · rw [if_neg c, if_neg c]
      by_cases e : a = n
      · subst e; rw [if_pos (by omega)]; omega
      · rw [if_neg (by omega)]; omega
omit g in
theorem sumF_bound {f : Nat → Int} {B : Int} : ∀ {n : Nat}, (∀ i, i < n → 0 ≤ f i ∧ f i ≤ B) → 0 ≤ sumF f n ∧ sumF f n ≤ n * B
  | 0, _ => by simp [sumF]
  | n + 1, h => by
    have h1 := sumF_bound (f := f) (B := B) (n := n) (fun i hi => h i (by omega))
    have h2 := h n (by omega)
    rw [sumF]
    have : ((n + 1 : Nat) : Int) * B = n * B + B := by rw [Int.natCast_add, Int.add_mul]; simp
    omega
theorem csAll_at {L : Nat} (h0 : L ≠ 0) (i : Nat) (acc : Int) (hi : i ≤ n) (h1 : 0 ≤ acc) (h2 : acc + (n - i : Nat) * 532575944704 ≤ 532575944704 * 62) :
    upF (fun a x => csRow rows n L a x) n i acc = acc + (sumF (fun a => sumF (fun b => if a < b ∧ rbit rows a b = true then cyE rows n L a b else 0) n) n - sumF (fun a => sumF (fun b => if a < b ∧ rbit rows a b = true then cyE rows n L a b else 0) n) i) := by
  have hle := g.rok.le
  by_cases hlt : i < n
  · rw [upF_step hlt]
    obtain ⟨c, hc⟩ : ∃ c, c = sumF (fun b => if i < b ∧ rbit rows i b = true then cyE rows n L i b else 0) n := ⟨_, rfl⟩
    have hcr : 0 ≤ c ∧ c ≤ (n : Int) * 8589934592 := by
      rw [hc]
      apply sumF_bound
      intro b _
      split
      · rename_i hb; have := cyE_rng g hb.2 h0; omega
      · omega
    have e1 : csRow rows n L i acc = acc + c := by
      unfold csRow
      rw [csRow_at g h0 i (i + 1) acc hlt h1 (by omega), hc]
      have e3 : (fun b => if i < b ∧ rbit rows i b = true then cyE rows n L i b else 0) = fun b => if i < b then (fun b => if rbit rows i b = true then cyE rows n L i b else 0) b else 0 := by
        funext b
        by_cases c1 : i < b <;> simp [c1]
      rw [e3, sumF_from, if_pos hlt]
    rw [e1, csAll_at h0 (i + 1) (acc + c) hlt (by omega) (by omega)]
    have e2 : sumF (fun a => sumF (fun b => if a < b ∧ rbit rows a b = true then cyE rows n L a b else 0) n) (i + 1) = sumF (fun a => sumF (fun b => if a < b ∧ rbit rows a b = true then cyE rows n L a b else 0) n) i + c := by rw [sumF, hc]
    rw [e2]; omega
  · rw [upF_end hlt]
    have : i = n := by omega
    subst this; omega
 termination_by n - i

/-- The sum over all edges is the girth times a number of at least 1. -/
theorem csAll_div {L : Nat} (hL : girF rows n 0 0 = L) (h0 : L ≠ 0) : ∃ M : Int, csAll rows n L = L * M ∧ 1 ≤ M ∧ M ≤ 33019708571648 ∧ L * M ≤ 33019708571648 := by
  have hle := g.rok.le
  have h3 := gir_3 g hL h0
  have hmin := (gir_min g (L : Int) (by omega)).mp (by omega)
  obtain ⟨M, hM⟩ := cyE_div g h3 hmin
  have e := csAll_at g h0 0 0 (Nat.zero_le _) (by omega) (by omega)
  have e2 : csAll rows n L = sumF (fun a => sumF (fun b => if a < b ∧ rbit rows a b = true then cyE rows n L a b else 0) n) n := by
    unfold csAll; rw [e]; simp [sumF]
  obtain ⟨S, hS⟩ : ∃ S, S = sumF (fun a => sumF (fun b => if a < b ∧ rbit rows a b = true then cyE rows n L a b else 0) n) n := ⟨_, rfl⟩
  have hb : ∀ a, a < n → 0 ≤ sumF (fun b => if a < b ∧ rbit rows a b = true then cyE rows n L a b else 0) n ∧ sumF (fun b => if a < b ∧ rbit rows a b = true then cyE rows n L a b else 0) n ≤ n * 8589934592 := by
    intro a _
    apply sumF_bound
    intro b _
    split
    · rename_i hb; have := cyE_rng g hb.2 h0; omega
    · omega
  have hS2 : S ≤ 33019708571648 := by
    have := (sumF_bound (f := fun a => sumF (fun b => if a < b ∧ rbit rows a b = true then cyE rows n L a b else 0) n) (B := 532575944704) (n := n) (fun i hi => by have := hb i hi; omega)).2
    rw [← hS] at this
    omega
  have hS1 : 1 ≤ S := by
    obtain ⟨p, q, hpq, har⟩ := gir_edge g hL h0
    -- the smaller of the two first
    have key : ∀ p q, p < q → rbit rows p q = true → arF rows p q = L → 1 ≤ S := by
      intro p q hlt hpq har
      obtain ⟨hp, hq⟩ := rbit_lt g.rok hpq
      have h5 := (arN_eq g hpq har h0).2.1
      have h6 : sumF (fun i => if i = p then (1 : Int) else 0) n ≤ S := by
        rw [hS]
        apply sumF_le
        intro i hi
        by_cases c : i = p
        · subst c
          rw [if_pos rfl]
          have h7 : sumF (fun j => if j = q then (1 : Int) else 0) n ≤ sumF (fun b => if i < b ∧ rbit rows i b = true then cyE rows n L i b else 0) n := by
            apply sumF_le
            intro j _
            by_cases c2 : j = q
            · subst c2; rw [if_pos rfl, if_pos ⟨hlt, hpq⟩]; exact h5
            · rw [if_neg c2]; split
              · rename_i hb2; exact (cyE_rng g hb2.2 h0).1
              · omega
          rw [sumF_one hq (fun i _ hi => if_neg hi), if_pos rfl] at h7
          exact h7
        · rw [if_neg c]; exact (hb i hi).1
      rw [sumF_one hp (fun i _ hi => if_neg hi), if_pos rfl] at h6
      exact h6
    have hne := g.ne hpq
    rcases Nat.lt_or_ge p q with h | h
    · exact key p q h hpq har
    · exact key q p (by omega) (g.sym' hpq) (by rw [← arF_symm g hpq]; exact har)
  rw [← hS] at hM e2
  have hM1 : 1 ≤ M := by
    apply Classical.byContradiction
    intro hn
    have : (L : Int) * M ≤ L * 0 := Int.mul_le_mul_of_nonneg_left (by omega) (by omega)
    omega
  refine ⟨M, by omega, hM1, ?_, by omega⟩
  have : (1 : Int) * M ≤ L * M := Int.mul_le_mul_of_nonneg_right (by omega) (by omega)
  omega
end
end Go.Proofs.YtghondlbkjponaaDoor.Zv

/- Pairs of vertices that are in range. -/
namespace Go.Proofs.YtghondlbkjponaaDoor.Zv
open Go
variable {nro : Nat}

theorem badV2 (n a b : Int) : badV n [a, b] ↔ ¬ ((0 ≤ a ∧ a < n) ∧ (0 ≤ b ∧ b < n)) := by
  constructor
  · rintro ⟨j, h1, h2, h3⟩ ⟨h4, h5⟩
    simp at h2
    have : j = 0 ∨ j = 1 := by omega
    rcases this with rfl | rfl
    · exact h3 (by simpa using h4)
    · exact h3 (by simpa using h5)
  · intro h
    by_cases h1 : 0 ≤ a ∧ a < n
    · exact ⟨1, by omega, by simp, fun h2 => h ⟨h1, by simpa using h2⟩⟩
    · exact ⟨0, by omega, by simp, fun h2 => h1 (by simpa using h2)⟩
end Go.Proofs.YtghondlbkjponaaDoor.Zv

/- Walks are counted step by step; ShortestThrough. -/
namespace Go.Proofs.YtghondlbkjponaaDoor.Zv
open Go
variable {nro : Nat}

/-- At a loop's head: one place leads to a fresh object. -/
theorem clean_mid {h L : VH} {A B : List Value} {k off n t : Nat} {o : VO} (hA : ∀ v ∈ A, Old h.length v) (hB : ∀ v ∈ B, Old h.length v) (hk : L[k]? = some o) (hf : flatO h.length o) :
    kclean h (A ++ .slice (some ⟨h.length + k, off, none⟩) n t :: B) (h ++ L) = (A ++ .slice (some ⟨h.length, off, none⟩) n t :: B, h ++ [o]) := by
  have fil : ∀ (C : List Value), (∀ v ∈ C, Old h.length v) → (C.flatMap trefs).filter (fun i => decide (h.length ≤ i)) = [] := fun C hC => by
    rw [List.filter_eq_nil_iff]
    intro r hr
    have := (old_all h.length C).mpr hC r hr
    simp; omega
  have e : keepL h.length (A ++ .slice (some ⟨h.length + k, off, none⟩) n t :: B) = [h.length + k] := by
    unfold keepL
    rw [List.flatMap_append, List.filter_append, fil A hA, List.nil_append, List.flatMap_cons, List.filter_append, fil B hB]
    simp [trefs, vrefs, crefs, arefs, dedup]
  have hg : (h ++ L)[h.length + k]? = some o := by rw [hgetk]; exact hk
  rw [cleanup_keep e fun i hi => ⟨o, by rw [List.mem_singleton] at hi; rw [hi]; exact hg, hf⟩]
  have keep : ∀ (C : List Value), (∀ v ∈ C, Old h.length v) → C.map (tren (renOf h.length [h.length + k])) = C := fun C hC => by
    have : ∀ v ∈ C, tren (renOf h.length [h.length + k]) v = v := fun v hv => tren_old (hC v hv) fun i hi => by simp only [renOf, if_pos hi]
    exact (List.map_congr_left this).trans (by simp)
  rw [List.map_append, List.map_cons, keep A hA, keep B hB]
  simp [hg, tren, vren, cren, aren, renOf_one]

/-- One vertex hands its number on to its neighbours. -/
def addW (c : Int) (l : List Int) (g : Nat → Int) : Nat → Int := l.foldl (fun g u => upd g u.toNat (IntKind.i64.wrap (g u.toNat + c))) g
theorem addW_at (c : Int) : ∀ (l : List Int) (g : Nat → Int) (u : Nat), l.Nodup → (∀ x ∈ l, 0 ≤ x) → addW c l g u = if (u : Int) ∈ l then IntKind.i64.wrap (g u + c) else g u
  | [], g, u, _, _ => by simp [addW]
  | x :: l, g, u, hn, h0 => by
    obtain ⟨h1, h2⟩ := List.nodup_cons.mp hn
    have hx := h0 x (List.mem_cons_self ..)
    have ih := addW_at c l (upd g x.toNat (IntKind.i64.wrap (g x.toNat + c))) u h2 (fun y hy => h0 y (List.mem_cons_of_mem _ hy))
    have e : addW c (x :: l) g = addW c l (upd g x.toNat (IntKind.i64.wrap (g x.toNat + c))) := rfl
    rw [e, ih]
    by_cases c1 : (u : Int) = x
    · have : u = x.toNat := by omega
      subst this
      rw [if_neg (by rw [c1]; exact h1), upd_same, if_pos (by rw [c1]; exact List.mem_cons_self ..)]
    · have : u ≠ x.toNat := by omega
      rw [upd_ne this]
      have e2 : (u : Int) ∈ x :: l ↔ (u : Int) ∈ l := by simp [c1]
      simp only [e2]

theorem bitF_nodup (x n w : Nat) : (bitF x n w).Nodup ∧ ∀ y ∈ bitF x n w, (w : Int) ≤ y := by
  by_cases h : w < n
  · rw [bitF_step h]
    obtain ⟨h1, h2⟩ := bitF_nodup x n (w + 1)
    split
    · refine ⟨?_, fun y hy => ?_⟩
      · rw [List.cons_append, List.nil_append]
        refine List.nodup_cons.mpr ⟨fun hm => ?_, h1⟩
        have := h2 _ hm
        omega
      · rw [List.cons_append, List.nil_append] at hy
        rcases List.mem_cons.mp hy with rfl | hy
        · omega
        · have := h2 y hy; omega
    · refine ⟨by simpa using h1, fun y hy => ?_⟩
      have := h2 y (by simpa using hy); omega
  · rw [bitF_end h]; exact ⟨List.nodup_nil, fun y hy => by cases hy⟩
 termination_by n - w
theorem nbL_nodup (rows : List Int) (v : Nat) : (nbL rows v).Nodup := (bitF_nodup _ 62 0).1

/-- One step of all walks. -/
def stepW (rows : List Int) (n : Nat) (f : Nat → Int) : Nat → Int := upF (fun w g => addW (f w) (nbL rows w) g) n 0 (fun _ => 0)
def walkW (rows : List Int) (n v : Nat) : Nat → Nat → Int
  | 0 => upd (fun _ => 0) v 1
  | k + 1 => stepW rows n (walkW rows n v k)
theorem stepW_at {n : Nat} {rows : List Int} (R : Rok n rows) (f e : Nat → Int) (hf : ∀ w, w < n → f w = IntKind.i64.wrap (e w)) (u : Nat) (hu : u < n) : stepW rows n f u = IntKind.i64.wrap (sumF (fun w => if rbit rows w u = true then e w else 0) n) := by
  have hle := R.le
  exact upF_inv (f := fun w g => addW (f w) (nbL rows w) g) (n := n) (fun i g => ∀ u, u < n → g u = IntKind.i64.wrap (sumF (fun w => if rbit rows w u = true then e w else 0) i)) (fun i g hi hI u hu => by
    rw [addW_at _ _ _ _ (nbL_nodup rows i) (fun x hx => ((nbL_mem rows i x).mp hx).1), sumF]
    by_cases c : rbit rows i u = true
    · rw [if_pos ((nbL_mem rows i u).mpr ⟨by omega, by omega, by rw [Int.toNat_natCast]; exact c⟩), if_pos c, hI u hu, hf i hi, w_add]
    · rw [if_neg (fun h => c (by have := ((nbL_mem rows i u).mp h).2.2; rwa [Int.toNat_natCast] at this)), if_neg c, Int.add_zero]
      exact hI u hu) 0 (fun _ => 0) (Nat.zero_le _) (fun u _ => w_zero.symm) u hu
theorem walkW_at {n : Nat} {rows : List Int} (R : Rok n rows) {v : Nat} : ∀ (k u : Nat), u < n → walkW rows n v k u = IntKind.i64.wrap (wkN rows n v k u)
  | 0, u, _ => by
    simp only [walkW, wkN, upd]
    split
    · exact w_one.symm
    · exact w_zero.symm
  | k + 1, u, hu => by
    rw [walkW, wkN]
    exact stepW_at R _ _ (fun w hw => walkW_at R k w hw) u hu

theorem l_impl_Graph_walks_1 (P : VH) (bi pn n : Nat) (k i : Int) (f : Nat → Int) (L : List Int) (w : Nat) (hw : w < n) (hL : L.length ≤ 62) (hLn : ∀ y ∈ L, 0 ≤ y ∧ y < n) (hp : P[pn]? = some ⟨1, ints (tbl n f)⟩) (hpl : ∀ k, pn < P.length + k) (hbi : ∀ k, bi < P.length + k) (hn : nro ≤ P.length) (g0 : Nat → Int) :
    floop (vcall F nro) nro [3, 7, 8, 9, 18, 19, 25, 26, 34, 35, 36] i_impl_Graph_walks_B1 (P ++ [⟨1, ints (tbl n g0)⟩, ⟨1, ints L⟩]) [.pointer (some ⟨bi, 0, some 2⟩), .slice (some ⟨pn, 0, none⟩) n n, .slice (some ⟨P.length, 0, none⟩) n n, .int .i64 w, .int .i64 k, .int .i64 i, .int .i64 n, .int .i64 w, .slice (some ⟨P.length + 1, 0, none⟩) L.length L.length, .int .i64 L.length, .int .i64 0] (P ++ [⟨1, ints (tbl n g0)⟩, ⟨1, ints L⟩]) =
      some (.exit 4, fl [(3, .pointer (some ⟨bi, 0, some 2⟩)), (7, .slice (some ⟨pn, 0, none⟩) n n), (8, .slice (some ⟨P.length, 0, none⟩) n n), (18, .int .i64 k), (19, .int .i64 i), (25, .int .i64 n), (26, .int .i64 w)], P ++ [⟨1, ints (tbl n (addW (f w) L g0))⟩, ⟨1, ints L⟩]) := by
  have hn' := fun k => Nat.le_trans hn (Nat.le_add_right P.length k)
  have tw := tbl_take1 (g := f) hw
  have hw2 : (w : Int) < n := by omega
  have key := for_up (call := vcall F nro) (nro := nro) (live := [3, 7, 8, 9, 18, 19, 25, 26, 34, 35, 36]) (c := i_impl_Graph_walks_B1) (h0 := P ++ [⟨1, ints (tbl n g0)⟩, ⟨1, ints L⟩]) (n := L.length) (fun j (_ : Nat → Int) => [.pointer (some ⟨bi, 0, some 2⟩), .slice (some ⟨pn, 0, none⟩) n n, .slice (some ⟨P.length, 0, none⟩) n n, .int .i64 w, .int .i64 k, .int .i64 i, .int .i64 n, .int .i64 w, .slice (some ⟨P.length + 1, 0, none⟩) L.length L.length, .int .i64 L.length, .int .i64 j]) (fun _ g => P ++ [⟨1, ints (tbl n g)⟩, ⟨1, ints L⟩])
    (fun j g => upd g (L.getD j 0).toNat (IntKind.i64.wrap (g (L.getD j 0).toNat + f w))) (fun j g => addW (f w) (L.drop j) g = addW (f w) L g0)
    (fun g => some (.exit 4, fl [(3, .pointer (some ⟨bi, 0, some 2⟩)), (7, .slice (some ⟨pn, 0, none⟩) n n), (8, .slice (some ⟨P.length, 0, none⟩) n n), (18, .int .i64 k), (19, .int .i64 i), (25, .int .i64 n), (26, .int .i64 w)], P ++ [⟨1, ints (tbl n g)⟩, ⟨1, ints L⟩])) ?_ ?_ 0 g0 (Nat.zero_le _) rfl
  · have e := key.2
    rw [List.drop_length] at e
    exact key.1.trans (by rw [← e]; rfl)
  · intro j g hj hj2 hI
    have hjl : L.getD j 0 = L[j] := getD_at L hj
    obtain ⟨y0, y1⟩ := hLn L[j] (List.getElem_mem hj)
    obtain ⟨y, hy⟩ : ∃ y : Nat, L[j] = y := ⟨L[j].toNat, by omega⟩
    rw [hjl, hy, Int.toNat_natCast]
    refine ⟨?_, ?_⟩
    · rw [← hI, List.drop_eq_getElem_cons hj, hy]
      rfl
    have t0 := take1_ints hj
    rw [hy] at t0 y1
    have hyn : y < n := by omega
    have t1 := tbl_take1 (g := g) hyn
    obtain ⟨q, hq⟩ : ∃ q, q = IntKind.i64.wrap (g y + f w) := ⟨_, rfl⟩
    have hq2 := hq.symm
    rw [hq2]
    have t3 := tbl_splice (g := g) (x := q) hyn
    clear hI hjl hy hq y0
    rw [floop_at i_impl_Graph_walks_B1.eq_1]
    simp (disch := first | assumption | omega | (simp [*] <;> omega) | fail) [-getElem?_pos, List.getElem?_cons_zero, List.getElem?_cons_succ, hj, hj2, hget_old hp, hp, t0, hyn, y1, t1, t3, hq2, hw, hw2, tw, hn, hn', hpl, hbi, wrap64]
  · intro g _
    rw [floop_at i_impl_Graph_walks_B1.eq_1]
    simp (disch := first | assumption | omega | (simp [*] <;> omega) | fail) [-getElem?_pos, List.getElem?_cons_zero, List.getElem?_cons_succ, ]

theorem l_impl_Graph_walks_2 (P : VH) (bi pn n : Nat) (k i : Int) (s : Value) (rows : List Int) (R : Rok n rows) (hs : Sli P s rows) (f : Nat → Int) (hb : P[bi]? = some ⟨0, [.int .i64 n, s]⟩) (hp : P[pn]? = some ⟨1, ints (tbl n f)⟩) (hn : nro ≤ P.length) :
    floop (vcall F nro) nro [3, 7, 8, 18, 19, 25, 26] i_impl_Graph_walks_B2 (P ++ [⟨1, ints (tbl n fun _ => 0)⟩]) [.pointer (some ⟨bi, 0, some 2⟩), .slice (some ⟨pn, 0, none⟩) n n, .slice (some ⟨P.length, 0, none⟩) n n, .int .i64 k, .int .i64 i, .int .i64 n, .int .i64 0] (P ++ [⟨1, ints (tbl n fun _ => 0)⟩]) =
      some (.exit 2, fl [(3, .pointer (some ⟨bi, 0, some 2⟩)), (8, .slice (some ⟨P.length, 0, none⟩) n n), (18, .int .i64 k), (19, .int .i64 i)], P ++ [⟨1, ints (tbl n (stepW rows n f))⟩]) := by
  have hn' := fun k => Nat.le_trans hn (Nat.le_add_right P.length k)
  have hpl : ∀ k, pn < P.length + k := fun k => Nat.lt_of_lt_of_le (List.getElem?_eq_some_iff.mp hp).1 (Nat.le_add_right _ _)
  have hbi : ∀ k, bi < P.length + k := fun k => Nat.lt_of_lt_of_le (List.getElem?_eq_some_iff.mp hb).1 (Nat.le_add_right _ _)
  have hlen := R.len
  have hle := R.le
  refine (for_up (call := vcall F nro) (nro := nro) (live := [3, 7, 8, 18, 19, 25, 26]) (c := i_impl_Graph_walks_B2) (h0 := P ++ [⟨1, ints (tbl n fun _ => 0)⟩]) (n := n) (fun w (_ : Nat → Int) => [.pointer (some ⟨bi, 0, some 2⟩), .slice (some ⟨pn, 0, none⟩) n n, .slice (some ⟨P.length, 0, none⟩) n n, .int .i64 k, .int .i64 i, .int .i64 n, .int .i64 w]) (fun _ g => P ++ [⟨1, ints (tbl n g)⟩])
    (fun w g => addW (f w) (nbL rows w) g) (fun _ _ => True)
    (fun g => some (.exit 2, fl [(3, .pointer (some ⟨bi, 0, some 2⟩)), (8, .slice (some ⟨P.length, 0, none⟩) n n), (18, .int .i64 k), (19, .int .i64 i)], P ++ [⟨1, ints (tbl n g)⟩])) ?_ ?_ 0 (fun _ => 0) (Nat.zero_le _) trivial).1
  · intro w g hw hw2 _
    refine ⟨trivial, ?_⟩
    have hwl : w < rows.length := by omega
    have hc := c_impl_listRow (nro := nro) n w rows R hw (P ++ [⟨1, ints (tbl n g)⟩]) (by simp; omega)
    have vx := fun L => (hs.app L).vidx (k := .i64) (j := (w : Int)) (by omega) (by omega)
    have vl := fun L => (hs.app L).vload hwl
    have hlL : (nbL rows w).length ≤ 62 := bitL_len _
    have l1 := l_impl_Graph_walks_1 (nro := nro) P bi pn n k i f (nbL rows w) w hw hlL (fun y hy => by
      obtain ⟨h1, h2, h3⟩ := (nbL_mem rows w y).mp hy
      have := (rbit_lt R h3).2
      omega) hp hpl hbi hn g
    obtain ⟨L, hL⟩ : ∃ L, L = nbL rows w := ⟨_, rfl⟩
    rw [← hL] at hc l1 hlL ⊢
    obtain ⟨q, hq⟩ : ∃ q, q = addW (f w) L g := ⟨_, rfl⟩
    rw [← hq] at l1 ⊢
    simp at hc
    rw [floop_at i_impl_Graph_walks_B2.eq_1]
    clear hq hL
    simp (disch := first | assumption | omega | (simp [*] <;> omega) | fail) [-getElem?_pos, List.getElem?_cons_zero, List.getElem?_cons_succ, hw, hw2, hb, hget_old hb, vx, vl, hc, l1, hn, hn', hpl, hbi, wrap64]
  · intro g _
    rw [floop_at i_impl_Graph_walks_B2.eq_1]
    simp (disch := first | assumption | omega | (simp [*] <;> omega) | fail) [-getElem?_pos, List.getElem?_cons_zero, List.getElem?_cons_succ, ]

theorem upF_walk (rows : List Int) (n v : Nat) (k i : Nat) (hi : i ≤ k) : upF (fun _ f => stepW rows n f) k i (walkW rows n v i) = walkW rows n v k := by
  by_cases h : i < k
  · rw [upF_step h]
    exact upF_walk rows n v k (i + 1) h
  · rw [upF_end h]
    have : i = k := by omega
    rw [this]
 termination_by k - i

theorem l_impl_Graph_walks_3 (h : VH) (n v k : Nat) (s : Value) (rows : List Int) (R : Rok n rows) (hs : Sli h s rows) (hn : nro ≤ h.length) (f0 : Nat → Int) (hk : k ≤ 1000) (hk1 : 1 ≤ k) :
    floop (vcall F nro) nro [3, 7, 18, 19] i_impl_Graph_walks_B3 (bx h n s ++ [⟨1, ints (tbl n f0)⟩]) [bp h, .slice (some ⟨h.length + 2, 0, none⟩) n n, .int .i64 k, .int .i64 1] (bx h n s ++ [⟨1, ints (tbl n f0)⟩, ⟨1, ints (tbl n (walkW rows n v 1))⟩]) =
      some (.exit 0, fl [(7, .slice (some ⟨h.length + 2, 0, none⟩) n n)], bx h n s ++ [⟨1, ints (tbl n f0)⟩, ⟨1, ints (tbl n (walkW rows n v k))⟩]) := by
  have hn' := fun k => Nat.le_trans hn (Nat.le_add_right h.length k)
  have hso := fun k => hs.oldCk (k := k)
  have hle := R.le
  have k2 : 8 * (n : Int) ≤ 140737488355328 := by omega
  have k3 : (n : Int) ≤ 140737488355328 := by omega
  have key := for_up (call := vcall F nro) (nro := nro) (live := [3, 7, 18, 19]) (c := i_impl_Graph_walks_B3) (h0 := bx h n s ++ [⟨1, ints (tbl n f0)⟩]) (n := k) (fun i (_ : Nat → Int) => [bp h, .slice (some ⟨h.length + 2, 0, none⟩) n n, .int .i64 k, .int .i64 i]) (fun _ f => bx h n s ++ [⟨1, ints (tbl n f0)⟩, ⟨1, ints (tbl n f)⟩])
    (fun _ f => stepW rows n f) (fun _ _ => True)
    (fun f => some (.exit 0, fl [(7, .slice (some ⟨h.length + 2, 0, none⟩) n n)], bx h n s ++ [⟨1, ints (tbl n f0)⟩, ⟨1, ints (tbl n f)⟩])) ?_ ?_ 1 (walkW rows n v 1) hk1 trivial
  · rw [upF_walk rows n v k 1 hk1] at key
    exact key.1
  · intro i f hi hi2 _
    refine ⟨trivial, ?_⟩
    have l2 := l_impl_Graph_walks_2 (nro := nro) (bx h n s ++ [⟨1, ints (tbl n f0)⟩, ⟨1, ints (tbl n f)⟩]) h.length (h.length + 2) n k i s rows R ((hs.app _).app _) f (by simp) (by simp) (by simp; omega)
    have hc := clean_mid (h := bx h n s ++ [⟨1, ints (tbl n f0)⟩]) (L := [⟨1, ints (tbl n f)⟩, ⟨1, ints (tbl n (stepW rows n f))⟩]) (A := [bp h]) (B := [.int .i64 k, .int .i64 ((i : Int) + 1)]) (k := 1) (off := 0) (n := n) (t := n) (o := ⟨1, ints (tbl n (stepW rows n f))⟩) (by intro v hv; simp at hv; subst hv; simp) (by intro v hv; simp at hv; rcases hv with rfl | rfl <;> simp) rfl (by simp)
    obtain ⟨q, hq⟩ : ∃ q, q = stepW rows n f := ⟨_, rfl⟩
    rw [← hq] at l2 hc ⊢
    have e0 : ints (List.replicate n 0) = ints (tbl n fun _ => 0) := by rw [tbl_const]
    simp at l2 hc
    rw [floop_at i_impl_Graph_walks_B3.eq_1]
    clear hq
    simp (disch := first | assumption | omega | (simp [*] <;> omega) | fail) [hi, hi2, e0, l2, hc, hn', hso, wrap64, k2, k3]
  · intro f _
    rw [floop_at i_impl_Graph_walks_B3.eq_1]
    simp (disch := first | assumption | omega | (simp [*] <;> omega) | fail) []

theorem c_impl_Graph_walks (n v k : Nat) (s : Value) (rows : List Int) (h : VH) (R : Rok n rows) (hs : Sli h s rows) (hv : v < n) (hk : k ≤ 1000) (hn : nro ≤ h.length) :
    vcall F nro k_impl_Graph_walks [gv n s, .int .i64 v, .int .i64 k] h = some (.slice (some ⟨h.length, 0, none⟩) n n, h ++ [⟨1, ints (tbl n (walkW rows n v k))⟩]) := by
  have hn' := fun k => Nat.le_trans hn (Nat.le_add_right h.length k)
  have hso := fun k => hs.oldCk (k := k)
  have hle := R.le
  have k2 : 8 * (n : Int) ≤ 140737488355328 := by omega
  have k3 : (n : Int) ≤ 140737488355328 := by omega
  have hv2 : (v : Int) < n := by omega
  have t3 := tbl_splice (g := fun _ => 0) (x := 1) hv
  have e0 : ints (List.replicate n 0) = ints (tbl n fun _ => 0) := by rw [tbl_const]
  refine v_impl_Graph_walks (by simp [i_impl_Graph_walks]) ?_
  rw [fbody_eq]
  by_cases hk0 : k = 0
  · subst hk0
    have l3 : ∀ H vs, floop (vcall F nro) nro [3, 7, 18, 19] i_impl_Graph_walks_B3 H (vs :: .slice (some ⟨h.length + 1, 0, none⟩) n n :: [.int .i64 0, .int .i64 0]) H = some (.exit 0, fl [(7, .slice (some ⟨h.length + 1, 0, none⟩) n n)], H) := by
      intro H vs
      rw [floop_at i_impl_Graph_walks_B3.eq_1]
      simp (disch := first | assumption | omega | (simp [*] <;> omega) | fail) []
    unfold walkW
    simp (disch := first | assumption | omega | (simp [*] <;> omega) | fail) [i_impl_Graph_walks, hv, hv2, t3, e0, l3, hn', hso, k2, k3]
  · have hk1 : 1 ≤ k := by omega
    have l3 := l_impl_Graph_walks_3 (nro := nro) h n v k s rows R hs hn (upd (fun _ => 0) v 1) hk hk1
    have l2 := l_impl_Graph_walks_2 (nro := nro) (bx h n s ++ [⟨1, ints (tbl n (upd (fun _ => 0) v 1))⟩]) h.length (h.length + 1) n k 0 s rows R ((hs.app _).app _) (upd (fun _ => 0) v 1) (by simp) (by simp) (by simp; omega)
    have e1 : stepW rows n (upd (fun _ => 0) v 1) = walkW rows n v 1 := rfl
    rw [e1] at l2
    have hc := clean_mid (h := bx h n s ++ [⟨1, ints (tbl n (upd (fun _ => 0) v 1))⟩]) (L := [⟨1, ints (tbl n (walkW rows n v 1))⟩]) (A := [bp h]) (B := [.int .i64 k, .int .i64 1]) (k := 0) (off := 0) (n := n) (t := n) (o := ⟨1, ints (tbl n (walkW rows n v 1))⟩) (by intro v hv; simp at hv; subst hv; simp) (by intro v hv; simp at hv; rcases hv with rfl | rfl <;> simp) rfl (by simp)
    obtain ⟨q, hq⟩ : ∃ q, q = walkW rows n v 1 := ⟨_, rfl⟩
    rw [← hq] at l2 hc l3
    obtain ⟨q2, hq2⟩ : ∃ q2, q2 = walkW rows n v k := ⟨_, rfl⟩
    rw [← hq2] at l3 ⊢
    have step : floop (vcall F nro) nro [3, 7, 18, 19] i_impl_Graph_walks_B3 (bx h n s ++ [⟨1, ints (tbl n (upd (fun _ => 0) v 1))⟩]) [bp h, .slice (some ⟨h.length + 1, 0, none⟩) n n, .int .i64 k, .int .i64 0] (bx h n s ++ [⟨1, ints (tbl n (upd (fun _ => 0) v 1))⟩]) = some (.exit 0, fl [(7, .slice (some ⟨h.length + 2, 0, none⟩) n n)], bx h n s ++ [⟨1, ints (tbl n (upd (fun _ => 0) v 1))⟩, ⟨1, ints (tbl n q2)⟩]) := by
      have hk2 : (0 : Int) < k := by omega
      simp at l2 hc l3
      rw [floop_at i_impl_Graph_walks_B3.eq_1]
      clear hq hq2 e1
      simp (disch := first | assumption | omega | (simp [*] <;> omega) | fail) [hk2, hk0, e0, l2, hc, l3, hn', hso, wrap64, k2, k3]
    simp at step
    clear hq hq2 l2 l3 hc e1
    simp (disch := first | assumption | omega | (simp [*] <;> omega) | fail) [i_impl_Graph_walks, hv, hv2, t3, e0, step, hn', hso, k2, k3]

theorem c_impl_Graph_through (n a b k : Nat) (s : Value) (rows : List Int) (h : VH) (hs : Sli h s rows) (g : GV n rows) (hab : rbit rows a b = true) (hk : k ≤ 1000) (hn : nro ≤ h.length) :
    vcall F nro k_impl_Graph_through [gv n s, .int .i64 a, .int .i64 b, .int .i64 ((k : Int) + 1)] h = some (.int .i64 (IntKind.i64.wrap (wkN (cut2 rows a b) n a k b)), h) := by
  refine v_impl_Graph_through (by simp [i_impl_Graph_through]) ?_
  rw [fbody_eq]
  have hn' := fun k => Nat.le_trans hn (Nat.le_add_right h.length k)
  have hso := fun k => hs.oldCk (k := k)
  obtain ⟨ha, hb⟩ := rbit_lt g.rok hab
  obtain ⟨R2, _⟩ := cut_rok g ha hb hab
  have R := g.rok
  have hl := R.len
  have hle := R.le
  have hne := g.ne hab
  have ho := c_impl_own (nro := nro) n s rows (h ++ [⟨0, [.int .i64 n, s]⟩]) (hs.app _) (by intro e; rw [e] at hl; simp at hl; omega) (by omega) (by simp; omega)
  obtain ⟨r1, r2⟩ := R.row a ha
  obtain ⟨q1, q2⟩ := R.row b hb
  have r3 := le62 hle r2
  have q3 := le62 hle q2
  have ht := c_impl_Graph_take (nro := nro) n (h.length + 1) n a b rows (h ++ [⟨0, [.int .i64 n, s]⟩, ⟨1, ints rows⟩, ⟨0, [.int .i64 n, .slice (some ⟨h.length + 1, 0, none⟩) n n]⟩]) (by simp) hl (by omega) (by omega) (by omega) (by omega) (by omega) hle (by omega)
    (by rw [Int.toNat_natCast]; exact r1) (by rw [Int.toNat_natCast]; omega) (by rw [Int.toNat_natCast, Int.toNat_natCast]; exact hab) (by rw [Int.toNat_natCast]; exact q1) (by rw [Int.toNat_natCast]; omega) (by rw [Int.toNat_natCast, Int.toNat_natCast]; exact g.sym' hab)
  have hl2 := R2.len
  have hd := c_impl_Graph_walks (nro := nro) n a k (.slice (some ⟨h.length + 1, 0, none⟩) n n) (cut2 rows a b) (h ++ [⟨0, [.int .i64 n, s]⟩, ⟨1, ints (cut2 rows a b)⟩, ⟨0, [.int .i64 n, .slice (some ⟨h.length + 1, 0, none⟩) n n]⟩]) R2 (by
    have := sli_at (h := h ++ [⟨0, [.int .i64 n, s]⟩, ⟨1, ints (cut2 rows a b)⟩, ⟨0, [.int .i64 n, .slice (some ⟨h.length + 1, 0, none⟩) n n]⟩]) (b := h.length + 1) (xs := cut2 rows a b) (by simp)
    rw [hl2] at this
    exact this) ha hk (by simp; omega)
  have t1 := tbl_take1 (g := walkW (cut2 rows a b) n a k) hb
  rw [walkW_at R2 k b hb] at t1
  have hb' : (b : Int) < n := by omega
  obtain ⟨G, hG⟩ : ∃ G, G = walkW (cut2 rows a b) n a k := ⟨_, rfl⟩
  rw [← hG] at hd t1
  obtain ⟨q, hq⟩ : ∃ q, q = IntKind.i64.wrap (wkN (cut2 rows a b) n a k b) := ⟨_, rfl⟩
  rw [← hq] at t1 ⊢
  obtain ⟨c, hc⟩ : ∃ c, c = cut2 rows a b := ⟨_, rfl⟩
  rw [← hc] at ht hd
  have w1 : IntKind.i64.wrap (k : Int) = k := wrap64 (by omega) (by omega)
  simp at ht hd
  rw [hl] at ho
  simp at ho
  clear hG hq hc R2 hl2
  simp (disch := first | assumption | omega | (simp [*] <;> omega) | fail) [i_impl_Graph_through, ho, ht, hd, w1, hn, hn', hso, hb, hb', t1]

/-! ### codes of vertices of the second chapter -/
open Classical in
theorem l_spec_l02Code (n : Int) (s t : Value) (xs : List Int) (h : VH) (ht : Sli h t xs) (hsc : ∀ k, OldC (h.length + k) s) (hl : xs.length ≤ 9223372036854775806) (h1 : 1 ≤ n) (h2 : n ≤ 62) :
    floop (vcall F nro) nro [1, 2, 5] i_spec_l02Code_B1 (bx h n s) [t, bp h, .int .i64 0] (bx h n s) =
      if badV n xs then some (.ret, fl [(4, .int .i64 2)], bx h n s) else some (.exit 0, fl [], bx h n s) := by
  have hto := fun k => ht.oldk (k := k)
  refine search (fun i => floop (vcall F nro) nro [1, 2, 5] i_spec_l02Code_B1 (bx h n s) [t, bp h, .int .i64 i] (bx h n s)) (fun i => ¬ (0 ≤ xs.getD i.toNat 0 ∧ xs.getD i.toNat 0 < n)) _ _ xs.length 0 ?_ ?_ 0 (by omega)
  · intro i hi hlt
    have e1 : xs.getD i.toNat 0 = xs[i.toNat]'(by omega) := getD_at _ (by omega)
    have hc := fun L (x a b : Int) => c_spec_l01In (nro := nro) x a b (h ++ L)
    have e2 : xs[i.toNat]'(by omega) ≤ n - 1 ↔ xs[i.toNat]'(by omega) < n := by omega
    rw [floop_at i_spec_l02Code_B1.eq_1, e1]
    constructor <;> intro hb
    · by_cases h0 : 0 ≤ xs[i.toNat]'(by omega)
      · have h3 : ¬ xs[i.toNat]'(by omega) < n := fun h3 => hb ⟨h0, h3⟩
        simp (disch := first | assumption | omega | (simp [*] <;> omega) | fail) [ht.vlen', ht.vidx', ht.vload', wrap64, hlt, h0, h3, hc, e2]
      · simp (disch := first | assumption | omega | (simp [*] <;> omega) | fail) [ht.vlen', ht.vidx', ht.vload', wrap64, hlt, h0, hc, e2]
    · obtain ⟨h0, h3⟩ := Classical.not_not.mp hb
      simp (disch := first | assumption | omega | (simp [*] <;> omega) | fail) [ht.vlen', ht.vidx', ht.vload', wrap64, hlt, h0, h3, hc, e2]
  · intro i hi hlt
    rw [floop_at i_spec_l02Code_B1.eq_1]
    simp (disch := first | assumption | omega | (simp [*] <;> omega) | fail) [ht.vlen', hlt]
theorem c_spec_l02Code (n : Int) (s t : Value) (rows xs : List Int) (h : VH) (hs : Sli h s rows) (ht : Sli h t xs) (hl : xs.length ≤ 9223372036854775806) :
    vcall F nro k_spec_l02Code [gv n s, t] h = some (.int .i64 (vtxCode n rows xs), h) := by
  refine v_spec_l02Code (by simp [i_spec_l02Code]) ?_
  rw [fbody_eq]
  have hc := c_spec_l01Is (nro := nro) n s rows (bx h n s) (hs.app _)
  unfold vtxCode
  by_cases g : GV n rows
  · have hl := l_spec_l02Code (nro := nro) n s t xs h ht (fun k => hs.oldCk (k := k)) hl g.lo g.hi
    by_cases b : badV n xs
    · rw [if_pos b] at hl
      simp (disch := first | assumption | omega | (simp [*] <;> omega) | fail) [i_spec_l02Code, hc, g, hl, b]
    · rw [if_neg b] at hl
      simp (disch := first | assumption | omega | (simp [*] <;> omega) | fail) [i_spec_l02Code, hc, g, hl, b]
  · simp (disch := first | assumption | omega | (simp [*] <;> omega) | fail) [i_spec_l02Code, hc, g]

/-! ### ShortestThrough -/
noncomputable def stA (n : Int) (rows : List Int) (a b : Int) : Int × Int :=
  if vtxCode n rows [a, b] ≠ 0 then (0, vtxCode n rows [a, b]) else if rbit rows a.toNat b.toNat = false then (0, 5) else if girF rows n.toNat 0 0 = 0 then (0, 4) else
    if arF rows a.toNat b.toNat ≠ girF rows n.toNat 0 0 then (0, 0) else (arN rows n.toNat a.toNat b.toNat, 0)
theorem vtx0 {n a b : Int} {rows : List Int} (h : vtxCode n rows [a, b] = 0) : GV n rows ∧ (0 ≤ a ∧ a < n) ∧ 0 ≤ b ∧ b < n := by
  unfold vtxCode at h
  by_cases g : GV n rows
  · rw [if_pos g] at h
    by_cases hb : badV n [a, b]
    · rw [if_pos hb] at h; omega
    · exact ⟨g, Classical.not_not.mp (mt (badV2 n a b).mpr hb)⟩
  · rw [if_neg g] at h; omega

theorem c_spec_ShortestThrough (n a b : Int) (s : Value) (rows : List Int) (h : VH) (hs : Sli h s rows) (hn : nro ≤ h.length) :
    vcall F nro k_spec_ShortestThrough [gv n s, .int .i64 a, .int .i64 b] h = some (.tuple #[.int .i64 (stA n rows a b).1, .int .i64 (stA n rows a b).2], h) := by
  refine v_spec_ShortestThrough (by simp [i_spec_ShortestThrough]) ?_
  rw [fbody_eq]
  have hn' := fun k => Nat.le_trans hn (Nat.le_add_right h.length k)
  have hso := fun k => hs.oldCk (k := k)
  have hc := c_spec_l02Code (nro := nro) n s (.slice (some ⟨h.length + 1, 0, none⟩) 2 2) rows [a, b] (h ++ [⟨0, [.int .i64 n, s]⟩, ⟨1, ints [a, b]⟩]) (hs.app _) (sli_at (xs := [a, b]) (by simp)) (by simp)
  simp only [ints_cons, ints_nil] at hc
  unfold stA
  by_cases hz : vtxCode n rows [a, b] = 0
  · rw [if_neg (fun h => h hz)]
    rw [hz] at hc
    obtain ⟨g, ⟨a0, a1⟩, b0, b1⟩ := vtx0 hz
    have hlo := g.lo
    obtain ⟨N, rfl⟩ : ∃ N : Nat, n = N := ⟨n.toNat, by omega⟩
    obtain ⟨A, rfl⟩ : ∃ A : Nat, a = A := ⟨a.toNat, by omega⟩
    obtain ⟨B, rfl⟩ : ∃ B : Nat, b = B := ⟨b.toNat, by omega⟩
    simp only [Int.toNat_natCast]
    have R := g.rok
    have hle := R.le
    have hlen := R.len
    have hA : A < N := by omega
    obtain ⟨r1, r2⟩ := R.row A hA
    have r3 := le62 hle r2
    have hvl : A < rows.length := by omega
    have vx := fun L => (hs.app L).vidx (k := .i64) (j := (A : Int)) (by omega) (by omega)
    have vl := fun L => (hs.app L).vload hvl
    have w1 : IntKind.u64.wrap (B : Int) = B := wrapu64 (by omega) (by omega)
    have hbit := bit_two (a := rows.getD A 0) (b := (B : Int)) r1 (by omega) (by omega)
    rw [Int.toNat_natCast, getD_at rows hvl] at hbit
    have hrb : rbit rows A B = (rows[A]'hvl).toNat.testBit B := by unfold rbit; rw [getD_at rows hvl]
    rw [← hrb] at hbit
    have hg := c_spec_l02Girth (nro := nro) N (-1) s rows (h ++ [⟨0, [.int .i64 N, s]⟩, ⟨1, ints [(A : Int), (B : Int)]⟩]) (hs.app _) g (by simp; omega)
    rw [gAll_girF g] at hg
    simp only [ints_cons, ints_nil] at hg
    by_cases c1 : rbit rows A B = true
    · rw [if_neg (by simp [c1])]
      rw [if_pos c1] at hbit
      have ha := c_spec_l02Around (nro := nro) N A B s rows (h ++ [⟨0, [.int .i64 N, s]⟩, ⟨1, ints [(A : Int), (B : Int)]⟩]) (hs.app _) g c1 (by simp; omega)
      simp only [ints_cons, ints_nil] at ha
      obtain ⟨x, hx⟩ : ∃ x, x = girF rows N 0 0 := ⟨_, rfl⟩
      rw [← hx] at hg ⊢
      obtain ⟨y, hy⟩ : ∃ y, y = arF rows A B := ⟨_, rfl⟩
      rw [← hy] at ha ⊢
      obtain ⟨z, hz2⟩ : ∃ z, z = arN rows N A B := ⟨_, rfl⟩
      rw [← hz2] at ha ⊢
      clear hx hy hz2 hz hrb r1 r2 r3
      by_cases c2 : x = 0
      · simp (disch := first | assumption | omega | (simp [*] <;> omega) | fail) [i_spec_ShortestThrough, hc, vx, vl, w1, hbit, hg, c2, hn', hso, fresults, fresL, fres1]
      · by_cases c3 : y = x
        · subst c3
          simp (disch := first | assumption | omega | (simp [*] <;> omega) | fail) [i_spec_ShortestThrough, hc, vx, vl, w1, hbit, hg, ha, c2, hn', hso, fresults, fresL, fres1]
        · simp (disch := first | assumption | omega | (simp [*] <;> omega) | fail) [i_spec_ShortestThrough, hc, vx, vl, w1, hbit, hg, ha, c2, c3, hn', hso, fresults, fresL, fres1]
    · rw [if_pos (by simpa using c1)]
      rw [if_neg c1] at hbit
      clear hrb r1 r2 r3 hz
      simp (disch := first | assumption | omega | (simp [*] <;> omega) | fail) [i_spec_ShortestThrough, hc, vx, vl, w1, hbit, hn', hso, fresults, fresL, fres1]
  · rw [if_pos hz]
    obtain ⟨x, hx⟩ : ∃ x, x = vtxCode n rows [a, b] := ⟨_, rfl⟩
    rw [← hx] at hc hz ⊢
    clear hx
    simp (disch := first | assumption | omega | (simp [*] <;> omega) | fail) [i_spec_ShortestThrough, hc, hz, hn', hso, fresults, fresL, fres1]

theorem c_impl_ShortestThrough (n a b : Int) (s : Value) (rows : List Int) (h : VH) (hs : Sli h s rows) (hn : nro ≤ h.length) :
    vcall F nro k_impl_ShortestThrough [gv n s, .int .i64 a, .int .i64 b] h = some (.tuple #[.int .i64 (stA n rows a b).1, .int .i64 (stA n rows a b).2], h) := by
  refine v_impl_ShortestThrough (by simp [i_impl_ShortestThrough]) ?_
  rw [fbody_eq]
  have hn' := fun k => Nat.le_trans hn (Nat.le_add_right h.length k)
  have hso := fun k => hs.oldCk (k := k)
  have hc := c_impl_graphCode (nro := nro) n s (.slice (some ⟨h.length + 1, 0, none⟩) 2 2) rows [a, b] (h ++ [⟨0, [.int .i64 n, s]⟩, ⟨1, ints [a, b]⟩]) (hs.app _) (sli_at (xs := [a, b]) (by simp)) (by simp)
  simp only [ints_cons, ints_nil] at hc
  unfold stA
  by_cases hz : vtxCode n rows [a, b] = 0
  · rw [if_neg (fun h => h hz)]
    rw [hz] at hc
    obtain ⟨g, ⟨a0, a1⟩, b0, b1⟩ := vtx0 hz
    have hlo := g.lo
    obtain ⟨N, rfl⟩ : ∃ N : Nat, n = N := ⟨n.toNat, by omega⟩
    obtain ⟨A, rfl⟩ : ∃ A : Nat, a = A := ⟨a.toNat, by omega⟩
    obtain ⟨B, rfl⟩ : ∃ B : Nat, b = B := ⟨b.toNat, by omega⟩
    simp only [Int.toNat_natCast]
    have R := g.rok
    have hle := R.le
    have hA : A < N := by omega
    have hB : B < N := by omega
    have hh := has_impl (nro := nro) N A B s rows (h ++ [⟨0, [.int .i64 N, s]⟩, ⟨1, ints [(A : Int), (B : Int)]⟩]) (hs.app _) R hA hB
    have hg := c_impl_Graph_girth (nro := nro) N s rows (h ++ [⟨0, [.int .i64 N, s]⟩, ⟨1, ints [(A : Int), (B : Int)]⟩]) (hs.app _) g (by simp; omega)
    simp only [ints_cons, ints_nil] at hg hh
    by_cases c1 : rbit rows A B = true
    · rw [if_neg (by simp [c1])]
      rw [c1] at hh
      have ha := c_impl_Graph_around (nro := nro) N A B s rows (h ++ [⟨0, [.int .i64 N, s]⟩, ⟨1, ints [(A : Int), (B : Int)]⟩]) (hs.app _) g c1 (by simp; omega)
      simp only [ints_cons, ints_nil] at ha
      by_cases c2 : girF rows N 0 0 = 0
      · rw [if_pos c2]
        rw [c2] at hg
        clear c2 hz
        simp (disch := first | assumption | omega | (simp [*] <;> omega) | fail) [i_impl_ShortestThrough, hc, hh, hg, hn', hso, fresults, fresL, fres1]
      · rw [if_neg c2]
        by_cases c3 : arF rows A B = girF rows N 0 0
        · rw [if_neg (fun h => h c3)]
          have hge := girF_ge' (rows := rows) (n := N) 0 0 (by omega)
          obtain ⟨R2, _⟩ := cut_rok g hA hB c1
          have hsm := far_small R2 hA hB
          obtain ⟨d, hd⟩ : ∃ d : Nat, far (cut2 rows A B) A B = d := ⟨(far (cut2 rows A B) A B).toNat, by unfold arF at c3; omega⟩
          have ht := c_impl_Graph_through (nro := nro) N A B d s rows (h ++ [⟨0, [.int .i64 N, s]⟩, ⟨1, ints [(A : Int), (B : Int)]⟩]) (hs.app _) g c1 (by omega) (by simp; omega)
          simp only [ints_cons, ints_nil] at ht
          have e1 : arN rows N A B = IntKind.i64.wrap (wkN (cut2 rows A B) N A d B) := by
            unfold arN
            rw [hd, if_neg (by omega), Int.toNat_natCast]
          have e2 : girF rows N 0 0 = (d : Int) + 1 := by rw [← c3]; unfold arF; rw [hd]
          rw [e1]
          rw [c3, e2] at ha
          rw [e2] at hg c2
          obtain ⟨q, hq⟩ : ∃ q, q = IntKind.i64.wrap (wkN (cut2 rows A B) N A d B) := ⟨_, rfl⟩
          rw [← hq] at ht ⊢
          clear hq e1 e2 c3 hd hz hge hsm R2
          simp (disch := first | assumption | omega | (simp [*] <;> omega) | fail) [i_impl_ShortestThrough, hc, hh, hg, ha, ht, c2, hn', hso, fresults, fresL, fres1]
        · rw [if_pos c3]
          obtain ⟨x, hx⟩ : ∃ x, x = girF rows N 0 0 := ⟨_, rfl⟩
          rw [← hx] at hg c2 c3
          obtain ⟨y, hy⟩ : ∃ y, y = arF rows A B := ⟨_, rfl⟩
          rw [← hy] at ha c3
          clear hx hy hz
          simp (disch := first | assumption | omega | (simp [*] <;> omega) | fail) [i_impl_ShortestThrough, hc, hh, hg, ha, c2, c3, hn', hso, fresults, fresL, fres1]
    · rw [if_pos (by simpa using c1)]
      have c1' : rbit rows A B = false := by simpa using c1
      rw [c1'] at hh
      clear hz
      simp (disch := first | assumption | omega | (simp [*] <;> omega) | fail) [i_impl_ShortestThrough, hc, hh, hn', hso, fresults, fresL, fres1]
  · rw [if_pos hz]
    obtain ⟨x, hx⟩ : ∃ x, x = vtxCode n rows [a, b] := ⟨_, rfl⟩
    rw [← hx] at hc hz ⊢
    clear hx
    simp (disch := first | assumption | omega | (simp [*] <;> omega) | fail) [i_impl_ShortestThrough, hc, hz, hn', hso, fresults, fresL, fres1]

end Go.Proofs.YtghondlbkjponaaDoor.Zv

/- Shortest cycles through an edge in either direction; girths at vertices are not less than the girth. -/
namespace Go.Proofs.YtghondlbkjponaaDoor.Zv
open Go
open Classical

section
variable {n : Nat} {rows : List Int} (g : GV n rows)
include g
theorem cyE_symm {L a b : Nat} (h3 : 3 ≤ L) (hL : ∀ p q, rbit rows p q = true → arF rows p q ≤ 0 ∨ (L : Int) ≤ arF rows p q) (hab : rbit rows a b = true) : cyE rows n L a b = cyE rows n L b a := by
  rw [cyE_tup g h3 hL hab, cyE_tup g h3 hL (g.sym' hab)]
  rw [← cn_perm (p := fun l => (Cyc (rr rows) l ∧ l.getD (L - 1) 0 = b) ∧ l.getD 0 0 = a) (f := List.reverse) (f' := List.reverse) (fun l => rev_tup) (fun l => rev_tup) (fun l _ => List.reverse_reverse l) (fun l _ => List.reverse_reverse l)]
  apply cn_congr
  intro l hl
  have hl2 := (mem_tup.mp hl).1
  rw [Cyc.rev_iff (r := rr rows) (fun _ _ h => g.sym' h)]
  have g1 : l.reverse.getD 0 0 = l.getD (L - 1) 0 := by
    simp only [List.getD_eq_getElem?_getD]
    rw [List.getElem?_reverse (by omega), hl2, Nat.sub_zero]
  have g2 : l.reverse.getD (L - 1) 0 = l.getD 0 0 := by
    simp only [List.getD_eq_getElem?_getD]
    rw [List.getElem?_reverse (by omega), hl2]
    congr 2; omega
  rw [g1, g2]
  constructor
  · rintro ⟨⟨h1, h2⟩, h4⟩; exact ⟨⟨h1, h4⟩, h2⟩
  · rintro ⟨⟨h1, h2⟩, h4⟩; exact ⟨⟨h1, h4⟩, h2⟩
theorem gaL_girF {v : Nat} (hv : gaL rows v 0 (nbL rows v) ≠ 0) : girF rows n 0 0 ≠ 0 ∧ girF rows n 0 0 ≤ gaL rows v 0 (nbL rows v) ∧ 3 ≤ girF rows n 0 0 := by
  have hge := gaL_ge (rows := rows) (v := v) (nbL rows v) 0 (by omega)
  have hg0 := girF_ge' (rows := rows) (n := n) 0 0 (by omega)
  have one : ∀ c : Int, 1 ≤ c → (girF rows n 0 0 = 0 ∨ c ≤ girF rows n 0 0) → c ≤ gaL rows v 0 (nbL rows v) := by
    intro c hc h
    have h1 := (gir_min g c hc).mp h
    have h2 := (gaL_ok (rows := rows) (v := v) hc (nbL rows v) 0 (by omega)).mpr ⟨.inl rfl, fun y hy => h1 v y.toNat ((nbL_mem rows v y).mp hy).2.2⟩
    omega
  have hne : girF rows n 0 0 ≠ 0 := by
    intro e
    have := one (gaL rows v 0 (nbL rows v) + 1) (by omega) (.inl e)
    omega
  refine ⟨hne, one _ (by omega) (.inr (Int.le_refl _)), ?_⟩
  have := gir_3 g (L := (girF rows n 0 0).toNat) (by omega) (by omega)
  omega
end
theorem stA_symm {n a b : Int} {rows : List Int} (h : (stA n rows a b).2 = 0) : stA n rows b a = stA n rows a b := by
  unfold stA at h ⊢
  by_cases hz : vtxCode n rows [a, b] = 0
  · have hz2 : vtxCode n rows [b, a] = 0 := by
      obtain ⟨g, h1, h2⟩ := vtx0 hz
      unfold vtxCode
      rw [if_pos g, if_neg]
      rw [badV2]
      exact fun hn => hn ⟨h2, h1⟩
    obtain ⟨g, ⟨a0, a1⟩, b0, b1⟩ := vtx0 hz
    have z1 : ¬ (vtxCode n rows [a, b] ≠ 0) := fun h => h hz
    have z2 : ¬ (vtxCode n rows [b, a] ≠ 0) := fun h => h hz2
    rw [if_neg z1] at h
    rw [if_neg z1, if_neg z2]
    have hlo := g.lo
    obtain ⟨N, rfl⟩ : ∃ N : Nat, n = N := ⟨n.toNat, by omega⟩
    rw [Int.toNat_natCast] at h
    rw [Int.toNat_natCast]
    by_cases c1 : rbit rows a.toNat b.toNat = true
    · have c1' := g.sym' c1
      have k1 : ¬ rbit rows a.toNat b.toNat = false := by rw [c1]; simp
      have k2 : ¬ rbit rows b.toNat a.toNat = false := by rw [c1']; simp
      rw [if_neg k1] at h
      rw [if_neg k1, if_neg k2]
      by_cases c2 : girF rows N 0 0 = 0
      · rw [if_pos c2] at h; simp at h
      · rw [if_neg c2, if_neg c2, ← arF_symm g c1]
        by_cases c3 : arF rows a.toNat b.toNat = girF rows N 0 0
        · rw [if_neg (fun h => h c3), if_neg (fun h => h c3)]
          have hge := girF_ge' (rows := rows) (n := N) 0 0 (by omega)
          obtain ⟨L, hL⟩ : ∃ L : Nat, girF rows N 0 0 = L := ⟨(girF rows N 0 0).toNat, by omega⟩
          rw [hL] at c3 c2
          have hL0 : L ≠ 0 := by omega
          have hmin := (gir_min g (L : Int) (by omega)).mp (by omega)
          rw [(arN_eq g c1 c3 hL0).1, (arN_eq g c1' (by rw [← arF_symm g c1]; exact c3) hL0).1, cyE_symm g (gir_3 g hL hL0) hmin c1]
        · rw [if_pos c3, if_pos c3]
    · rw [if_pos (by simpa using c1)] at h
      simp at h
  · rw [if_pos hz] at h
    exact absurd h hz

/-! ### answers -/
noncomputable def giA (n : Int) (rows : List Int) : Int × Int := if ¬ GV n rows then (0, 1) else if girF rows n.toNat 0 0 = 0 then (0, 4) else (girF rows n.toNat 0 0, 0)
noncomputable def gatA (n : Int) (rows : List Int) (v : Int) : Int × Int := if vtxCode n rows [v] ≠ 0 then (0, vtxCode n rows [v]) else if gAll rows n.toNat v = 0 then (0, 4) else (gAll rows n.toNat v, 0)
noncomputable def csA (n : Int) (rows : List Int) : Int × Int := if ¬ GV n rows then (0, 1) else if girF rows n.toNat 0 0 = 0 then (0, 4) else ((csAll rows n.toNat (girF rows n.toNat 0 0)).tdiv (girF rows n.toNat 0 0), 0)
end Go.Proofs.YtghondlbkjponaaDoor.Zv

/- Parts: all vertices to which there is a way; connected graphs. -/
namespace Go.Proofs.YtghondlbkjponaaDoor.Zv
open Go
variable {nro : Nat}

/-- All that is met. -/
def pt (rows : List Int) (met f : Nat) : Nat :=
  if f = 0 then met else if h : met < (met ||| nxt rows f) ∧ (met ||| nxt rows f) < 2 ^ 62 then pt rows (met ||| nxt rows f) (nand (nxt rows f) met) else met
 termination_by 2 ^ 62 - met
 decreasing_by omega
/-- The part of a vertex. -/
def part (rows : List Int) (v : Nat) : Nat := pt rows (2 ^ v) (2 ^ v)
end Go.Proofs.YtghondlbkjponaaDoor.Zv

/- The program's lists of edges and parts. -/
namespace Go.Proofs.YtghondlbkjponaaDoor.Zv
open Go
variable {nro : Nat}

/-! ### edges -/
/-- The pairs of v with the greater ones of a list. -/
def pairL (v : Nat) : List Int → List (List Int)
  | [] => []
  | y :: l => (if (v : Int) < y then [[(v : Int), y]] else []) ++ pairL v l
theorem pairL_len (v : Nat) : ∀ l, (pairL v l).length ≤ l.length
  | [] => Nat.le_refl _
  | y :: l => by
    rw [pairL, List.length_append]
    have := pairL_len v l
    split <;> simp <;> omega
theorem pairL_bitF (rows : List Int) (v n w : Nat) (hw : v < w) : pairL v (bitF (rows.getD v 0).toNat n w) = edgF rows v n w := by
  by_cases h : w < n
  · rw [bitF_step h, edgF_step h, ← pairL_bitF rows v n (w + 1) (by omega)]
    unfold rbit
    by_cases hb : (rows.getD v 0).toNat.testBit w = true
    · rw [if_pos hb, if_pos hb, List.cons_append, List.nil_append, pairL, if_pos (by omega)]
    · rw [if_neg hb, if_neg hb]; rfl
  · rw [bitF_end h, edgF_end h]; rfl
 termination_by n - w
theorem pairL_low (rows : List Int) (v n w : Nat) (hw : w ≤ v + 1) : pairL v (bitF (rows.getD v 0).toNat n w) = pairL v (bitF (rows.getD v 0).toNat n (v + 1)) := by
  by_cases c : w = v + 1
  · rw [c]
  · by_cases h : w < n
    · rw [bitF_step h, ← pairL_low rows v n (w + 1) (by omega)]
      split
      · rw [List.cons_append, List.nil_append, pairL, if_neg (by omega)]; rfl
      · rfl
    · rw [bitF_end h, bitF_end (by omega)]
 termination_by v + 1 - w
theorem pairL_nb {n : Nat} {rows : List Int} (R : Rok n rows) {v : Nat} (hv : v < n) : pairL v (nbL rows v) = edgF rows v n (v + 1) := by
  obtain ⟨_, r2⟩ := R.row v hv
  unfold nbL bitL
  rw [bitF_cut r2 R.le, pairL_low rows v n 0 (by omega), pairL_bitF rows v n (v + 1) (by omega)]

theorem l_impl_Graph_edges_1 (n : Nat) (s : Value) (rows : List Int) (h : VH) (hs : Sli h s rows) (hn : nro ≤ h.length) (R : Rok n rows) (v : Nat) (hv : v < n) (vs0 : List Value) (G0 : VH) (ess0 : List (List Int)) (L : List Int) (hL : L.length ≤ 62) (hg0 : ∃ k, k < G0.length ∧ G0[k]? = some ⟨1, ints L⟩ ∧ k = G0.length - 1) (e0 : EI (h.length + 2) vs0 G0 ess0) (hm : vs0.length ≤ v * 62) :
    ∃ a : List Value × VH, (EI (h.length + 2) a.1 a.2 (ess0 ++ pairL v L) ∧ G0.length ≤ a.2.length) ∧ floop (vcall F nro) nro [1, 3, 4, 9, 10, 18, 19, 20] i_impl_Graph_edges_B1 (eH h n s vs0 G0) [bp h, eq1 h vs0.length, .int .i64 v, .int .i64 n, .int .i64 v, .slice (some ⟨h.length + 2 + (G0.length - 1), 0, none⟩) L.length L.length, .int .i64 L.length, .int .i64 0] (eH h n s vs0 G0) =
      some (.exit 2, fl [(1, bp h), (3, eq1 h a.1.length), (9, .int .i64 n), (10, .int .i64 v)], eH h n s a.1 a.2) := by
  have hle := R.le
  obtain ⟨kk, hk1, hk2, rfl⟩ := hg0
  refine Exists.elim (for_upR (call := vcall F nro) (nro := nro) (live := [1, 3, 4, 9, 10, 18, 19, 20]) (c := i_impl_Graph_edges_B1) (h0 := eH h n s vs0 G0) (n := L.length) (fun j (a : List Value × VH) => [bp h, eq1 h a.1.length, .int .i64 v, .int .i64 n, .int .i64 v, .slice (some ⟨h.length + 2 + (G0.length - 1), 0, none⟩) L.length L.length, .int .i64 L.length, .int .i64 j]) (fun i a => eH h n s a.1 a.2)
    (fun j a => (∃ ess, EI (h.length + 2) a.1 a.2 ess ∧ ess ++ pairL v (L.drop j) = ess0 ++ pairL v L) ∧ G0.length ≤ a.2.length ∧ a.1.length ≤ v * 62 + j ∧ a.2[G0.length - 1]? = some ⟨1, ints L⟩) (fun a => some (.exit 2, fl [(1, bp h), (3, eq1 h a.1.length), (9, .int .i64 n), (10, .int .i64 v)], eH h n s a.1 a.2)) ?_ ?_ 0 (vs0, G0) (Nat.zero_le _) ⟨⟨ess0, e0, rfl⟩, Nat.le_refl _, by simp; omega, hk2⟩) ?_
  · rintro j ⟨vs, G⟩ hlt hlt0 ⟨⟨ess, e, hess⟩, hG, hm, hgl⟩
    dsimp only at e hG hm hgl ⊢
    rw [floop_at i_impl_Graph_edges_B1.eq_1]
    rw [List.drop_eq_getElem_cons hlt, pairL, ← List.append_assoc] at hess
    obtain ⟨H, hH⟩ : ∃ H, H = eH h n s vs G := ⟨_, rfl⟩
    have hq : H[h.length + 1]? = some ⟨1, vs⟩ := by rw [hH]; simp
    have hbx : H[h.length]? = some ⟨0, [.int .i64 n, s]⟩ := by rw [hH]; simp
    have hql : H[h.length + 2 + (G0.length - 1)]? = some ⟨1, ints L⟩ := by
      rw [hH, Nat.add_assoc, hgetk, show 2 + (G0.length - 1) = (G0.length - 1) + 1 + 1 by omega]
      simp only [List.getElem?_cons_succ]
      exact hgl
    have hHl : H.length = h.length + 2 + G.length := by rw [hH]; simp; omega
    have hnH : nro ≤ H.length := by omega
    have hn2 := fun k => Nat.le_trans hnH (Nat.le_add_right H.length k)
    have hn1 := fun k => Nat.le_trans hn (Nat.le_add_right h.length k)
    have t1 := take1_ints hlt
    obtain ⟨y, hy⟩ : ∃ y, y = L[j] := ⟨_, rfl⟩
    rw [← hy] at t1 hess
    obtain ⟨K, hK⟩ : ∃ K, K = eH h n s vs0 G0 := ⟨_, rfl⟩
    have hold : ∀ m, ∀ x ∈ [bp h, eq1 h m, .int .i64 v, .int .i64 n, .int .i64 v, .slice (some ⟨h.length + 2 + (G0.length - 1), 0, none⟩) L.length L.length, .int .i64 L.length, .int .i64 ((j : Int) + 1)], Old (h.length + 2 + G0.length) x := by
      intro m x hx
      simp at hx
      rcases hx with rfl | rfl | rfl | rfl | rfl | rfl | rfl | rfl <;> intro r hr <;> simp [trefs, vrefs, crefs, arefs] at hr ⊢ <;> omega
    by_cases hb : (v : Int) < y
    · rw [if_pos hb] at hess
      have b1 : (vs.length + 1) * 24 ≤ 1099511627776 := by omega
      have b2 : vs.length < 1099511627776 := by omega
      have hnew : H.set (h.length + 1) ⟨1, vs ++ [.slice (some ⟨H.length, 0, none⟩) 2 2]⟩ ++ [⟨1, [.int .i64 v, .int .i64 y]⟩, ⟨1, [.slice (some ⟨H.length, 0, none⟩) 2 2]⟩] = eH h n s (vs ++ [.slice (some ⟨h.length + 2 + G.length, 0, none⟩) 2 2]) (G ++ ⟨1, [.int .i64 v, .int .i64 y]⟩ :: [⟨1, [.slice (some ⟨h.length + 2 + G.length, 0, none⟩) 2 2]⟩]) := by
        rw [hHl, hH]; simp
      have e1 := e.push [(v : Int), y] [⟨1, [.slice (some ⟨h.length + 2 + G.length, 0, none⟩) 2 2]⟩]
      obtain ⟨G1, hk, e2, e3, e4⟩ := eH_clean' (n := n) (s := s) e0 e1 (by simp; omega) (hold (vs.length + 1))
      refine ⟨(_, G1), ⟨⟨_, e2, hess⟩, e3, by simp; omega, by dsimp only; rw [e4 _ hk1, List.getElem?_append_left (by omega)]; exact hgl⟩, ?_⟩
      rw [← hK] at hk ⊢
      rw [← hH]
      simp at hk
      simp only [List.length_append, List.length_singleton, List.length_cons, List.length_nil]
      clear hold hHl hH hK e1 e e0 e2 e4 hess hy hk2 hgl
      simp (disch := first | assumption | omega | (simp [*] <;> omega) | fail) [-getElem?_pos, List.getElem?_cons_zero, List.getElem?_cons_succ, hbx, hq, hql, hget_old hq, hset_old hq, hb, wrap64, hlt, hlt0, hn1, hnH, hn2, b1, b2, hnew, hk, t1]
    · rw [if_neg hb, List.append_nil] at hess
      obtain ⟨G1, hk, e2, e3, e4⟩ := eH_clean' (n := n) (s := s) e0 e hG (hold vs.length)
      refine ⟨(vs, G1), ⟨⟨_, e2, hess⟩, e3, by simp; omega, by dsimp only; rw [e4 _ hk1]; exact hgl⟩, ?_⟩
      rw [← hK, ← hH] at hk
      rw [← hK, ← hH]
      clear hold hHl hH hK e e0 e2 e4 hess hy hk2 hgl
      simp (disch := first | assumption | omega | (simp [*] <;> omega) | fail) [-getElem?_pos, List.getElem?_cons_zero, List.getElem?_cons_succ, hbx, hq, hql, hb, wrap64, hlt, hlt0, hnH, hn2, hk, t1]
  · rintro ⟨vs, G⟩ ⟨_, _, _, hgl⟩
    dsimp only at hgl
    have hql : (eH h n s vs G)[h.length + 2 + (G0.length - 1)]? = some ⟨1, ints L⟩ := by
      rw [Nat.add_assoc, hgetk, show 2 + (G0.length - 1) = (G0.length - 1) + 1 + 1 by omega]
      simp only [List.getElem?_cons_succ]
      exact hgl
    obtain ⟨H, hH⟩ : ∃ H, H = eH h n s vs G := ⟨_, rfl⟩
    rw [← hH] at hql ⊢
    rw [floop_at i_impl_Graph_edges_B1.eq_1]
    clear hH
    simp (disch := first | assumption | omega | (simp [*] <;> omega) | fail) [-getElem?_pos, List.getElem?_cons_zero, List.getElem?_cons_succ, hql]
  · rintro a ⟨⟨⟨ess, k1, k2⟩, k3, k4⟩, h2⟩
    rw [List.drop_length, pairL, List.append_nil] at k2
    rw [k2] at k1
    exact ⟨a, ⟨k1, k3⟩, h2⟩

theorem l_impl_Graph_edges_2 (n : Nat) (s : Value) (rows : List Int) (h : VH) (hs : Sli h s rows) (hn : nro ≤ h.length) (R : Rok n rows) :
    ∃ a : List Value × VH, EI (h.length + 2) a.1 a.2 (edgesF rows n 0) ∧ floop (vcall F nro) nro [1, 3, 9, 10] i_impl_Graph_edges_B2 (eH h n s [] []) [bp h, eq1 h 0, .int .i64 n, .int .i64 0] (eH h n s [] []) =
      some (.exit 0, fl [(3, eq1 h a.1.length)], eH h n s a.1 a.2) := by
  have hle := R.le
  have hlen := R.len
  refine Exists.elim (for_upR (call := vcall F nro) (nro := nro) (live := [1, 3, 9, 10]) (c := i_impl_Graph_edges_B2) (h0 := eH h n s [] []) (n := n) (fun i (a : List Value × VH) => [bp h, eq1 h a.1.length, .int .i64 n, .int .i64 i]) (fun i a => eH h n s a.1 a.2)
    (fun i a => (∃ ess, EI (h.length + 2) a.1 a.2 ess ∧ ess ++ edgesF rows n i = edgesF rows n 0) ∧ a.1.length ≤ i * 62) (fun a => some (.exit 0, fl [(3, eq1 h a.1.length)], eH h n s a.1 a.2)) ?_ ?_ 0 ([], []) (by omega) ⟨⟨[], EI.nil _ _, rfl⟩, by simp⟩) ?_
  · rintro v ⟨vs, G⟩ hlt hlt0 ⟨⟨ess, e, hess⟩, hm⟩
    dsimp only at e hm ⊢
    obtain ⟨H, hH⟩ : ∃ H, H = eH h n s vs G := ⟨_, rfl⟩
    have hHl : H.length = h.length + 2 + G.length := by rw [hH]; simp; omega
    have hvl : v < rows.length := by omega
    have hsH : Sli H s rows := by rw [hH]; exact hs.app _
    have hc := c_impl_listRow (nro := nro) n v rows R hlt H (by omega)
    have vx := hsH.vidx (k := .i64) (j := (v : Int)) (by omega) (by omega)
    have vl := hsH.vload hvl
    have hbL : (nbL rows v).length ≤ 62 := bitL_len _
    have e' := e.more [⟨1, ints (nbL rows v)⟩]
    obtain ⟨⟨vs1, G1⟩, ⟨i2, i3⟩, i1⟩ := l_impl_Graph_edges_1 (nro := nro) n s rows h hs hn R v hlt vs (G ++ [⟨1, ints (nbL rows v)⟩]) ess (nbL rows v) hbL ⟨G.length, by simp, by simp, by simp⟩ e' hm
    dsimp only at i1 i2 i3
    have e1 : eH h n s vs (G ++ [⟨1, ints (nbL rows v)⟩]) = H ++ [⟨1, ints (nbL rows v)⟩] := by rw [hH]; simp
    have e2 : h.length + 2 + ((G ++ [(⟨1, ints (nbL rows v)⟩ : VO)]).length - 1) = H.length := by rw [hHl]; simp
    rw [e1, e2] at i1
    have i4 : vs1.length ≤ (v + 1) * 62 := by
      have := i2.len
      have := e.len
      have := pairL_len v (nbL rows v)
      simp at *
      omega
    rw [pairL_nb R hlt] at i2
    have hold : ∀ x ∈ [bp h, eq1 h vs1.length, .int .i64 n, .int .i64 ((v : Int) + 1)], Old (h.length + 2 + ([] : VH).length) x := by
      intro x hx
      simp at hx
      rcases hx with rfl | rfl | rfl | rfl <;> intro r hr <;> simp [trefs, vrefs, crefs, arefs] at hr ⊢ <;> omega
    obtain ⟨G2, hk, e2, e3⟩ := eH_clean (n := n) (s := s) (EI.nil (h.length + 2) []) i2 (by simp) hold
    rw [edgesF_step hlt, ← List.append_assoc] at hess
    refine ⟨(vs1, G2), ⟨⟨_, e2, hess⟩, i4⟩, ?_⟩
    rw [floop_at i_impl_Graph_edges_B2.eq_1]
    obtain ⟨K, hK⟩ : ∃ K, K = eH h n s [] [] := ⟨_, rfl⟩
    obtain ⟨H1, hH1⟩ : ∃ H1, H1 = eH h n s vs1 G1 := ⟨_, rfl⟩
    have hbx : H[h.length]? = some ⟨0, [.int .i64 n, s]⟩ := by rw [hH]; simp
    obtain ⟨L, hLL⟩ : ∃ L, L = nbL rows v := ⟨_, rfl⟩
    rw [← hLL] at hc i1
    rw [← hK, ← hH1] at hk
    rw [← hH1] at i1
    rw [← hK, ← hH]
    clear hold hH hH1 hK e e2 i2 hess e1 e' hLL hHl i3 hbL
    try simp at i1
    simp (disch := first | assumption | omega | (simp [*] <;> omega) | fail) [-getElem?_pos, List.getElem?_cons_zero, List.getElem?_cons_succ, hbx, wrap64, hlt, hlt0, vx, vl, hc, i1, hk]
  · rintro ⟨vs, G⟩ _
    rw [floop_at i_impl_Graph_edges_B2.eq_1]
    simp (disch := first | assumption | omega | (simp [*] <;> omega) | fail) []
  · rintro a ⟨⟨⟨ess, k1, k2⟩, _⟩, h2⟩
    rw [edgesF_end (by omega), List.append_nil] at k2
    rw [k2] at k1
    exact ⟨a, k1, h2⟩

theorem c_impl_Graph_edges (n : Nat) (s : Value) (rows : List Int) (h : VH) (hs : Sli h s rows) (hn : nro ≤ h.length) (R : Rok n rows) :
    ∃ v M, vcall F nro k_impl_Graph_edges [gv n s] h = some (v, h ++ M) ∧ SL2 h.length M v (edgesF rows n 0) := by
  have hn' := fun k => Nat.le_trans hn (Nat.le_add_right h.length k)
  obtain ⟨⟨vs', G'⟩, l2, l1⟩ := l_impl_Graph_edges_2 (nro := nro) n s rows h hs hn R
  obtain ⟨v, M, k1, k2⟩ := EI.fin1 (h := h) (pre := [⟨0, [.int .i64 n, s]⟩]) l2
  refine ⟨v, M, ?_, k2⟩
  refine v_impl_Graph_edges (by simp [i_impl_Graph_edges]) ?_
  rw [fbody_eq]
  simp at l1 k1
  simp (disch := first | assumption | omega | (simp [*] <;> omega) | fail) [i_impl_Graph_edges, l1, hn', k1]

/-! ### parts -/
/-- The least number of a set. -/
def low (x : Nat) : Nat := ((bitL x).getD 0 0).toNat
end Go.Proofs.YtghondlbkjponaaDoor.Zv

/- Bipartite graphs, graphs at a distance, halves. -/
namespace Go.Proofs.YtghondlbkjponaaDoor.Zv
open Go
variable {nro : Nat}

/-! ### bipartite graphs -/
/-- Does an edge join vertices of one distance from p? -/
def badE (rows : List Int) (p : Nat) (e : List Int) : Prop := ∃ u w : Nat, e = [(u : Int), (w : Int)] ∧ 0 ≤ far rows p u ∧ far rows p u = far rows p w
theorem edges_shape {n : Nat} {rows : List Int} {e : List Int} (he : e ∈ edgesF rows n 0) : ∃ u w : Nat, u < w ∧ w < n ∧ rbit rows u w = true ∧ e = [(u : Int), (w : Int)] := by
  obtain ⟨u, w, _, h2, h3, h4, h5⟩ := (edgesF_mem rows n 0 e).mp he
  exact ⟨u, w, h2, h3, h4, h5⟩
theorem getD_list {ess : List (List Int)} {i : Nat} (hi : i < ess.length) : ess.getD i [] = ess[i] := by
  rw [List.getD_eq_getElem?_getD, List.getElem?_eq_getElem hi]; rfl

/-! ### graphs at a distance -/
/-! ### the reference -/
end Go.Proofs.YtghondlbkjponaaDoor.Zv

/- GirthOf, GirthAt, CountShortest, EdgesOf. -/
namespace Go.Proofs.YtghondlbkjponaaDoor.Zv
open Go
open Classical
variable {nro : Nat}

theorem c_impl_found (x : Int) (h : VH) : vcall F nro k_impl_found [.int .i64 x] h = some (.tuple #[.int .i64 x, .int .i64 (if x = 0 then 4 else 0)], h) := by
  refine v_impl_found (by simp [i_impl_found]) ?_
  rw [fbody_eq]
  by_cases c : x = 0
  · simp (disch := first | assumption | omega | (simp [*] <;> omega) | fail) [i_impl_found, c]
  · simp (disch := first | assumption | omega | (simp [*] <;> omega) | fail) [i_impl_found, c]

theorem c_spec_GirthOf (n : Int) (s : Value) (rows : List Int) (h : VH) (hs : Sli h s rows) (hn : nro ≤ h.length) :
    vcall F nro k_spec_GirthOf [gv n s] h = some (.tuple #[.int .i64 (giA n rows).1, .int .i64 (giA n rows).2], h) := by
  refine v_spec_GirthOf (by simp [i_spec_GirthOf]) ?_
  rw [fbody_eq]
  have hn' := fun k => Nat.le_trans hn (Nat.le_add_right h.length k)
  have hso := fun k => hs.oldCk (k := k)
  have hi := c_spec_l01Is (nro := nro) n s rows (bx h n s) (hs.app _)
  unfold giA
  by_cases g : GV n rows
  · have hlo := g.lo
    obtain ⟨N, rfl⟩ : ∃ N : Nat, n = N := ⟨n.toNat, by omega⟩
    have hg := c_spec_l02Girth (nro := nro) N (-1) s rows (bx h N s) (hs.app _) g (by simp; omega)
    rw [gAll_girF g] at hg
    rw [if_neg (fun h => h g), Int.toNat_natCast]
    rw [decide_eq_true g] at hi
    obtain ⟨x, hx⟩ : ∃ x, x = girF rows N 0 0 := ⟨_, rfl⟩
    rw [← hx] at hg ⊢
    clear hx g
    by_cases c2 : x = 0
    · simp (disch := first | assumption | omega | (simp [*] <;> omega) | fail) [i_spec_GirthOf, hi, hg, c2, hn', hso]
    · simp (disch := first | assumption | omega | (simp [*] <;> omega) | fail) [i_spec_GirthOf, hi, hg, c2, hn', hso]
  · rw [if_pos g]
    rw [decide_eq_false g] at hi
    clear g
    simp (disch := first | assumption | omega | (simp [*] <;> omega) | fail) [i_spec_GirthOf, hi, hn', hso]

theorem c_impl_GirthOf (n : Int) (s : Value) (rows : List Int) (h : VH) (hs : Sli h s rows) (hn : nro ≤ h.length) :
    vcall F nro k_impl_GirthOf [gv n s] h = some (.tuple #[.int .i64 (giA n rows).1, .int .i64 (giA n rows).2], h) := by
  refine v_impl_GirthOf (by simp [i_impl_GirthOf]) ?_
  rw [fbody_eq]
  have hn' := fun k => Nat.le_trans hn (Nat.le_add_right h.length k)
  have hso := fun k => hs.oldCk (k := k)
  have hi := c_impl_IsGraph (nro := nro) n s rows (bx h n s) (hs.app _)
  have hf := fun x => c_impl_found (nro := nro) x (bx h n s)
  unfold giA
  by_cases g : GV n rows
  · have hlo := g.lo
    obtain ⟨N, rfl⟩ : ∃ N : Nat, n = N := ⟨n.toNat, by omega⟩
    have hg := c_impl_Graph_girth (nro := nro) N s rows (bx h N s) (hs.app _) g (by simp; omega)
    rw [if_neg (fun h => h g), Int.toNat_natCast]
    rw [decide_eq_true g] at hi
    obtain ⟨x, hx⟩ : ∃ x, x = girF rows N 0 0 := ⟨_, rfl⟩
    rw [← hx] at hg ⊢
    clear hx g
    by_cases c2 : x = 0
    · subst c2
      simp (disch := first | assumption | omega | (simp [*] <;> omega) | fail) [i_impl_GirthOf, hi, hg, hf, hn', hso]
    · simp (disch := first | assumption | omega | (simp [*] <;> omega) | fail) [i_impl_GirthOf, hi, hg, hf, c2, hn', hso]
  · rw [if_pos g]
    rw [decide_eq_false g] at hi
    clear g
    simp (disch := first | assumption | omega | (simp [*] <;> omega) | fail) [i_impl_GirthOf, hi, hn', hso]

theorem vtx1 {n v : Int} {rows : List Int} (h : vtxCode n rows [v] = 0) : GV n rows ∧ 0 ≤ v ∧ v < n := by
  unfold vtxCode at h
  by_cases g : GV n rows
  · rw [if_pos g] at h
    by_cases hb : badV n [v]
    · rw [if_pos hb] at h; omega
    · refine ⟨g, ?_⟩
      apply Classical.byContradiction
      intro hn
      exact hb ⟨0, by simp, by simp, by simpa using hn⟩
  · rw [if_neg g] at h; omega

theorem c_spec_GirthAt (n v : Int) (s : Value) (rows : List Int) (h : VH) (hs : Sli h s rows) (hn : nro ≤ h.length) :
    vcall F nro k_spec_GirthAt [gv n s, .int .i64 v] h = some (.tuple #[.int .i64 (gatA n rows v).1, .int .i64 (gatA n rows v).2], h) := by
  refine v_spec_GirthAt (by simp [i_spec_GirthAt]) ?_
  rw [fbody_eq]
  have hn' := fun k => Nat.le_trans hn (Nat.le_add_right h.length k)
  have hso := fun k => hs.oldCk (k := k)
  have hc := c_spec_l02Code (nro := nro) n s (.slice (some ⟨h.length + 1, 0, none⟩) 1 1) rows [v] (h ++ [⟨0, [.int .i64 n, s]⟩, ⟨1, ints [v]⟩]) (hs.app _) (sli_at (xs := [v]) (by simp)) (by simp)
  simp only [ints_cons, ints_nil] at hc
  unfold gatA
  by_cases hz : vtxCode n rows [v] = 0
  · rw [if_neg (fun h => h hz)]
    rw [hz] at hc
    obtain ⟨g, _⟩ := vtx1 hz
    have hlo := g.lo
    obtain ⟨N, rfl⟩ : ∃ N : Nat, n = N := ⟨n.toNat, by omega⟩
    have hg := c_spec_l02Girth (nro := nro) N v s rows (h ++ [⟨0, [.int .i64 N, s]⟩, ⟨1, ints [v]⟩]) (hs.app _) g (by simp; omega)
    simp only [ints_cons, ints_nil] at hg
    rw [Int.toNat_natCast]
    obtain ⟨x, hx⟩ : ∃ x, x = gAll rows N v := ⟨_, rfl⟩
    rw [← hx] at hg ⊢
    clear hx hz g
    by_cases c2 : x = 0
    · simp (disch := first | assumption | omega | (simp [*] <;> omega) | fail) [i_spec_GirthAt, hc, hg, c2, hn', hso, fresults, fresL, fres1]
    · simp (disch := first | assumption | omega | (simp [*] <;> omega) | fail) [i_spec_GirthAt, hc, hg, c2, hn', hso, fresults, fresL, fres1]
  · rw [if_pos hz]
    obtain ⟨x, hx⟩ : ∃ x, x = vtxCode n rows [v] := ⟨_, rfl⟩
    rw [← hx] at hc hz ⊢
    clear hx
    simp (disch := first | assumption | omega | (simp [*] <;> omega) | fail) [i_spec_GirthAt, hc, hz, hn', hso, fresults, fresL, fres1]

theorem c_impl_GirthAt (n v : Int) (s : Value) (rows : List Int) (h : VH) (hs : Sli h s rows) (hn : nro ≤ h.length) :
    vcall F nro k_impl_GirthAt [gv n s, .int .i64 v] h = some (.tuple #[.int .i64 (gatA n rows v).1, .int .i64 (gatA n rows v).2], h) := by
  refine v_impl_GirthAt (by simp [i_impl_GirthAt]) ?_
  rw [fbody_eq]
  have hn' := fun k => Nat.le_trans hn (Nat.le_add_right h.length k)
  have hso := fun k => hs.oldCk (k := k)
  have hc := c_impl_graphCode (nro := nro) n s (.slice (some ⟨h.length + 1, 0, none⟩) 1 1) rows [v] (h ++ [⟨0, [.int .i64 n, s]⟩, ⟨1, ints [v]⟩]) (hs.app _) (sli_at (xs := [v]) (by simp)) (by simp)
  simp only [ints_cons, ints_nil] at hc
  have hf := fun x L => c_impl_found (nro := nro) x (h ++ L)
  unfold gatA
  by_cases hz : vtxCode n rows [v] = 0
  · rw [if_neg (fun h => h hz)]
    rw [hz] at hc
    obtain ⟨g, v0, v1⟩ := vtx1 hz
    have hlo := g.lo
    obtain ⟨N, rfl⟩ : ∃ N : Nat, n = N := ⟨n.toNat, by omega⟩
    obtain ⟨V, rfl⟩ : ∃ V : Nat, v = V := ⟨v.toNat, by omega⟩
    have hg := c_impl_Graph_girthAt (nro := nro) N V s rows (h ++ [⟨0, [.int .i64 N, s]⟩, ⟨1, ints [(V : Int)]⟩]) (hs.app _) g (by omega) (by simp; omega)
    rw [← gAll_gaL g (by omega)] at hg
    simp only [ints_cons, ints_nil] at hg
    rw [Int.toNat_natCast]
    obtain ⟨x, hx⟩ : ∃ x, x = gAll rows N V := ⟨_, rfl⟩
    rw [← hx] at hg ⊢
    clear hx hz g
    by_cases c2 : x = 0
    · subst c2
      simp (disch := first | assumption | omega | (simp [*] <;> omega) | fail) [i_impl_GirthAt, hc, hg, hf, hn', hso, fresults, fresL, fres1]
    · simp (disch := first | assumption | omega | (simp [*] <;> omega) | fail) [i_impl_GirthAt, hc, hg, hf, c2, hn', hso, fresults, fresL, fres1]
  · rw [if_pos hz]
    obtain ⟨x, hx⟩ : ∃ x, x = vtxCode n rows [v] := ⟨_, rfl⟩
    rw [← hx] at hc hz ⊢
    clear hx
    simp (disch := first | assumption | omega | (simp [*] <;> omega) | fail) [i_impl_GirthAt, hc, hz, hn', hso, fresults, fresL, fres1]

theorem c_impl_EdgesOf (n : Nat) (s : Value) (rows : List Int) (h : VH) (hs : Sli h s rows) (hn : nro ≤ h.length) (g : GV n rows) :
    ∃ v M, vcall F nro k_impl_EdgesOf [gv n s] h = some (.tuple #[v, .int .i64 0], h ++ M) ∧ SL2 h.length M v (edgesF rows n 0) := by
  have hn' := fun k => Nat.le_trans hn (Nat.le_add_right h.length k)
  have hso := fun k => hs.oldCk (k := k)
  have hi := c_impl_IsGraph (nro := nro) n s rows (bx h n s) (hs.app _)
  rw [decide_eq_true g] at hi
  obtain ⟨q, M, e1, e2⟩ := c_impl_Graph_edges (nro := nro) n s rows (bx h n s) (hs.app _) (by simp; omega) g.rok
  have e2' : SL2 (h.length + [(⟨0, [.int .i64 n, s]⟩ : VO)].length) M q (edgesF rows n 0) := by simpa using e2
  obtain ⟨v, M', e3, e4⟩ := SL2.fwdC (h := h) (pre := [⟨0, [.int .i64 n, s]⟩]) e2' .i64 0
  obtain ⟨qa, qm, rfl⟩ := e2.shape
  refine ⟨v, M', ?_, e4⟩
  refine v_impl_EdgesOf (by simp [i_impl_EdgesOf]) ?_
  rw [fbody_eq]
  simp at e1 e3
  clear e2 e2' e4 g
  simp (disch := first | assumption | omega | (simp [*] <;> omega) | fail) [i_impl_EdgesOf, hi, e1, e3, hn', hso, fresults, fresL, fres1]

/-! ### CountShortest -/
theorem l_spec_CountShortest_1 (h : VH) (n : Nat) (L : Int) (s : Value) (rows : List Int) (hs : Sli h s rows) (g : GV n rows) (hn : nro ≤ h.length) (a : Nat) (ha : a < n) (acc : Int) :
    floop (vcall F nro) nro [1, 4, 5, 6, 7] i_spec_CountShortest_B1 (bx h n s) [bp h, .int .i64 L, .int .i64 acc, .int .i64 a, .int .i64 ((a + 1 : Nat) : Int)] (bx h n s) =
      some (.exit 2, fl [(1, bp h), (4, .int .i64 L), (5, .int .i64 (csRow rows n L a acc)), (6, .int .i64 a)], bx h n s) := by
  have hn' := fun k => Nat.le_trans hn (Nat.le_add_right h.length k)
  have hso := fun k => hs.oldCk (k := k)
  have R := g.rok
  have hle := R.le
  have hlen := R.len
  refine (for_up (call := vcall F nro) (nro := nro) (live := [1, 4, 5, 6, 7]) (c := i_spec_CountShortest_B1) (h0 := bx h n s) (n := n) (fun b (x : Int) => [bp h, .int .i64 L, .int .i64 x, .int .i64 a, .int .i64 b]) (fun _ _ => bx h n s) (fun b x => csF rows n L a b x) (fun _ x => True)
    (fun x => some (.exit 2, fl [(1, bp h), (4, .int .i64 L), (5, .int .i64 x), (6, .int .i64 a)], bx h n s)) ?_ ?_ (a + 1) acc ha trivial).1
  · intro b x hb hb2 _
    refine ⟨trivial, ?_⟩
    obtain ⟨r1, r2⟩ := R.row a ha
    have r3 := le62 hle r2
    have hvl : a < rows.length := by omega
    have vx := fun L => (hs.app L).vidx (k := .i64) (j := (a : Int)) (by omega) (by omega)
    have vl := fun L => (hs.app L).vload hvl
    have w1 : IntKind.u64.wrap (b : Int) = b := wrapu64 (by omega) (by omega)
    have hbit := bit_two (a := rows.getD a 0) (b := (b : Int)) r1 (by omega) (by omega)
    rw [Int.toNat_natCast, getD_at rows hvl] at hbit
    have hrb : rbit rows a b = (rows[a]'hvl).toNat.testBit b := by unfold rbit; rw [getD_at rows hvl]
    rw [← hrb] at hbit
    rw [floop_at i_spec_CountShortest_B1.eq_1]
    unfold csF
    by_cases c1 : rbit rows a b = true
    · rw [if_pos c1] at hbit
      have hc := c_spec_l02Around (nro := nro) n a b s rows (bx h n s) (hs.app _) g c1 (by simp; omega)
      obtain ⟨z, hz⟩ : ∃ z, z = arF rows a b := ⟨_, rfl⟩
      obtain ⟨z2, hz2⟩ : ∃ z, z = arN rows n a b := ⟨_, rfl⟩
      rw [← hz, ← hz2] at hc
      rw [← hz, ← hz2]
      clear r1 r2 r3 hrb hz hz2
      by_cases k1 : z = L
      · subst k1
        simp (disch := first | assumption | omega | (simp [*] <;> omega) | fail) [hb, hb2, vx, vl, w1, hbit, c1, hc, hn', hso, wrap64]
      · simp (disch := first | assumption | omega | (simp [*] <;> omega) | fail) [hb, hb2, vx, vl, w1, hbit, c1, hc, k1, hn', hso, wrap64]
    · rw [if_neg c1] at hbit
      simp (disch := first | assumption | omega | (simp [*] <;> omega) | fail) [hb, hb2, vx, vl, w1, hbit, c1, hn', hso, wrap64]
  · intro x _
    rw [floop_at i_spec_CountShortest_B1.eq_1]
    simp (disch := first | assumption | omega | (simp [*] <;> omega) | fail) [hn', hso]

theorem c_spec_CountShortest (n : Int) (s : Value) (rows : List Int) (h : VH) (hs : Sli h s rows) (hn : nro ≤ h.length) :
    vcall F nro k_spec_CountShortest [gv n s] h = some (.tuple #[.int .i64 (csA n rows).1, .int .i64 (csA n rows).2], h) := by
  refine v_spec_CountShortest (by simp [i_spec_CountShortest]) ?_
  rw [fbody_eq]
  have hn' := fun k => Nat.le_trans hn (Nat.le_add_right h.length k)
  have hso := fun k => hs.oldCk (k := k)
  have hi := c_spec_l01Is (nro := nro) n s rows (bx h n s) (hs.app _)
  unfold csA
  by_cases g : GV n rows
  · have hlo := g.lo
    obtain ⟨N, rfl⟩ : ∃ N : Nat, n = N := ⟨n.toNat, by omega⟩
    have hg := c_spec_l02Girth (nro := nro) N (-1) s rows (bx h N s) (hs.app _) g (by simp; omega)
    rw [gAll_girF g] at hg
    rw [if_neg (fun h => h g), Int.toNat_natCast]
    rw [decide_eq_true g] at hi
    have hge := girF_ge' (rows := rows) (n := N) 0 0 (by omega)
    by_cases c2 : girF rows N 0 0 = 0
    · rw [if_pos c2]
      rw [c2] at hg
      clear g
      simp (disch := first | assumption | omega | (simp [*] <;> omega) | fail) [i_spec_CountShortest, hi, hg, hn', hso]
    · rw [if_neg c2]
      obtain ⟨L, hL⟩ : ∃ L : Nat, girF rows N 0 0 = L := ⟨(girF rows N 0 0).toNat, by omega⟩
      obtain ⟨M, hM, m1, m2, _⟩ := csAll_div g hL (by omega)
      rw [hL] at hg c2 ⊢
      have l2 : floop (vcall F nro) nro [1, 4, 5, 6] i_spec_CountShortest_B2 (bx h N s) [bp h, .int .i64 L, .int .i64 0, .int .i64 0] (bx h N s) = some (.exit 0, fl [(4, .int .i64 L), (5, .int .i64 (csAll rows N L))], bx h N s) := by
        have hle := g.rok.le
        refine (for_up (call := vcall F nro) (nro := nro) (live := [1, 4, 5, 6]) (c := i_spec_CountShortest_B2) (h0 := bx h N s) (n := N) (fun a (x : Int) => [bp h, .int .i64 L, .int .i64 x, .int .i64 a]) (fun _ _ => bx h N s) (fun a x => csRow rows N L a x) (fun _ x => True)
          (fun x => some (.exit 0, fl [(4, .int .i64 L), (5, .int .i64 x)], bx h N s)) ?_ ?_ 0 0 (Nat.zero_le _) trivial).1
        · intro a x ha ha2 _
          refine ⟨trivial, ?_⟩
          have l1 := l_spec_CountShortest_1 (nro := nro) h N L s rows hs g hn a ha x
          rw [show ((a + 1 : Nat) : Int) = (a : Int) + 1 by omega] at l1
          obtain ⟨q, hq⟩ : ∃ q, q = csRow rows N L a x := ⟨_, rfl⟩
          rw [← hq] at l1 ⊢
          clear hq hM hg hi hge hL
          rw [floop_at i_spec_CountShortest_B2.eq_1]
          simp (disch := first | assumption | omega | (simp [*] <;> omega) | fail) [ha, ha2, l1, hn', hso, wrap64]
        · intro x _
          rw [floop_at i_spec_CountShortest_B2.eq_1]
          simp (disch := first | assumption | omega | (simp [*] <;> omega) | fail) [hn', hso]
      have hq0 : (csAll rows N L).tdiv L = M := by rw [hM, Int.mul_tdiv_cancel_left _ c2]
      have c3 : ¬ L = 0 := by omega
      have w1 : IntKind.i64.wrap M = M := wrap64 (by omega) (by omega)
      obtain ⟨q, hq⟩ : ∃ q, q = csAll rows N L := ⟨_, rfl⟩
      rw [← hq] at l2 hq0 ⊢
      rw [hq0]
      clear hq hM g hge hL m1 m2
      simp (disch := first | assumption | omega | (simp [*] <;> omega) | fail) [i_spec_CountShortest, hi, hg, c2, c3, l2, hq0, w1, hn', hso]
  · rw [if_pos g]
    rw [decide_eq_false g] at hi
    clear g
    simp (disch := first | assumption | omega | (simp [*] <;> omega) | fail) [i_spec_CountShortest, hi, hn', hso]

theorem upF_list {α : Type} (F' : List Int → α → α) : ∀ (pre es : List (List Int)) (a : α), upF (fun i x => F' ((pre ++ es).getD i []) x) (pre ++ es).length pre.length a = es.foldl (fun x e => F' e x) a
  | pre, [], a => by rw [List.append_nil, upF_end (by omega)]; rfl
  | pre, e :: es, a => by
    rw [upF_step (by simp)]
    have h1 : (pre ++ e :: es).getD pre.length [] = e := by simp [List.getD_eq_getElem?_getD]
    rw [h1]
    have := upF_list F' (pre ++ [e]) es (F' e a)
    rw [show pre ++ [e] ++ es = pre ++ e :: es by simp, show (pre ++ [e]).length = pre.length + 1 by simp] at this
    exact this
theorem l_impl_CountShortest (H : VH) (p n d : Nat) (q s : Value) (rows : List Int) (hs : Sli H s rows) (g : GV n rows) (hp : H[p]? = some ⟨0, [.int .i64 n, s]⟩) (hq : LL H q (edgesF rows n 0)) (hn : nro ≤ H.length) :
    floop (vcall F nro) nro [1, 4, 5, 16, 17, 18] i_impl_CountShortest_B1 H [.pointer (some ⟨p, 0, some 2⟩), .int .i64 ((d : Int) + 1), .int .i64 0, q, .int .i64 (edgesF rows n 0).length, .int .i64 0] H =
      some (.exit 0, fl [(4, .int .i64 ((d : Int) + 1)), (5, .int .i64 (csAll rows n ((d : Int) + 1)))], H) := by
  obtain ⟨vs, v1, v2, v3⟩ := hq
  have R := g.rok
  have hle := R.le
  have hel := edges_len' rows n 0 hle
  have hpl : ∀ k, p < H.length + k := fun k => by have := (List.getElem?_eq_some_iff.mp hp).1; omega
  have hpl0 : p < H.length := by have := hpl 0; omega
  have key := for_up (call := vcall F nro) (nro := nro) (live := [1, 4, 5, 16, 17, 18]) (c := i_impl_CountShortest_B1) (h0 := H) (n := (edgesF rows n 0).length) (fun j (x : Int) => [.pointer (some ⟨p, 0, some 2⟩), .int .i64 ((d : Int) + 1), .int .i64 x, q, .int .i64 (edgesF rows n 0).length, .int .i64 j]) (fun _ _ => H) (fun j x => csF rows n ((d : Int) + 1) (((edgesF rows n 0).getD j []).getD 0 0).toNat (((edgesF rows n 0).getD j []).getD 1 0).toNat x) (fun _ _ => True)
    (fun x => some (.exit 0, fl [(4, .int .i64 ((d : Int) + 1)), (5, .int .i64 x)], H)) ?_ ?_ 0 0 (Nat.zero_le _) trivial
  · have e := upF_list (fun e x => csF rows n ((d : Int) + 1) (e.getD 0 0).toNat (e.getD 1 0).toNat x) [] (edgesF rows n 0) (0 : Int)
    simp only [List.nil_append, List.length_nil] at e
    have e2 := csL_all rows n ((d : Int) + 1)
    unfold csL at e2
    rw [← e2, ← e]
    exact key.1
  · intro j x hj hj2 _
    refine ⟨trivial, ?_⟩
    rw [getD_list hj]
    obtain ⟨u, w, huw, hwn, hb, he⟩ := edges_shape (List.getElem_mem hj)
    have hjv : j < vs.length := by omega
    have I := v3 j hjv
    rw [getD_list hj, he] at I
    rw [he]
    have oq := v2.old
    have vx := v2.vidx (k := .i64) (j := (j : Int)) (by omega) (by omega)
    have vl := v2.vload hjv
    have i0 := I.vidx (k := .i64) (j := 0) (by omega) (by simp)
    have i1 := I.vidx (k := .i64) (j := 1) (by omega) (by simp)
    have j0 := I.vload (j := 0) (by simp)
    have j1 := I.vload (j := 1) (by simp)
    simp at i0 i1 j0 j1
    have b1 : (j : Int) < vs.length := by omega
    have ca := c_impl_Graph_around (nro := nro) n u w s rows H hs g hb hn
    have eg : csF rows n ((d : Int) + 1) (([(u : Int), (w : Int)].getD 0 0).toNat) (([(u : Int), (w : Int)].getD 1 0).toNat) x = if arF rows u w = (d : Int) + 1 then IntKind.i64.wrap (x + arN rows n u w) else x := by
      unfold csF
      by_cases c : arF rows u w = (d : Int) + 1
      · simp [hb, c]
      · simp [c]
    rw [eg]
    obtain ⟨N, hN⟩ : ∃ N, N = (edgesF rows n 0).length := ⟨_, rfl⟩
    rw [← hN] at hj2 hel ⊢
    have wj : IntKind.i64.wrap ((j : Int) + 1) = (j : Int) + 1 := wrap64 (by omega) (by omega)
    rw [floop_at i_impl_CountShortest_B1.eq_1]
    by_cases c : arF rows u w = (d : Int) + 1
    · have hun : u < n := by omega
      have hsm := far_small (cut_rok g hun hwn hb).1 hun hwn
      have hfd : far (cut2 rows u w) u w = d := by unfold arF at c; omega
      have ct := c_impl_Graph_through (nro := nro) n u w d s rows H hs g hb (by omega) hn
      have e1 : arN rows n u w = IntKind.i64.wrap (wkN (cut2 rows u w) n u d w) := by
        unfold arN
        rw [hfd, if_neg (by omega), Int.toNat_natCast]
      rw [if_pos c, e1]
      rw [c] at ca
      obtain ⟨z, hz⟩ : ∃ z, z = IntKind.i64.wrap (wkN (cut2 rows u w) n u d w) := ⟨_, rfl⟩
      rw [← hz] at ct ⊢
      clear hz e1 hfd c hsm eg he I hN v3 hs g R
      simp (disch := first | assumption | omega | (simp [*] <;> omega) | fail) [-getElem?_pos, List.getElem?_cons_zero, List.getElem?_cons_succ, hj2, vx, vl, i0, i1, j0, j1, hp, ca, ct, hn, hpl, hpl0, wj]
    · rw [if_neg c]
      obtain ⟨z, hz⟩ : ∃ z, z = arF rows u w := ⟨_, rfl⟩
      rw [← hz] at ca c
      clear hz eg he I hN v3 hs g R
      simp (disch := first | assumption | omega | (simp [*] <;> omega) | fail) [-getElem?_pos, List.getElem?_cons_zero, List.getElem?_cons_succ, hj2, vx, vl, i0, i1, j0, j1, hp, ca, c, hn, hpl, hpl0, wj]
  · intro x _
    rw [floop_at i_impl_CountShortest_B1.eq_1]
    simp (disch := first | assumption | omega | (simp [*] <;> omega) | fail) [-getElem?_pos, List.getElem?_cons_zero, List.getElem?_cons_succ, hpl, hpl0]

theorem c_impl_CountShortest (n : Int) (s : Value) (rows : List Int) (h : VH) (hs : Sli h s rows) (hn : nro ≤ h.length) :
    vcall F nro k_impl_CountShortest [gv n s] h = some (.tuple #[.int .i64 (csA n rows).1, .int .i64 (csA n rows).2], h) := by
  refine v_impl_CountShortest (by simp [i_impl_CountShortest]) ?_
  rw [fbody_eq]
  have hn' := fun k => Nat.le_trans hn (Nat.le_add_right h.length k)
  have hso := fun k => hs.oldCk (k := k)
  have hi := c_impl_IsGraph (nro := nro) n s rows (bx h n s) (hs.app _)
  unfold csA
  by_cases g : GV n rows
  · have hlo := g.lo
    obtain ⟨N, rfl⟩ : ∃ N : Nat, n = N := ⟨n.toNat, by omega⟩
    have hg := c_impl_Graph_girth (nro := nro) N s rows (bx h N s) (hs.app _) g (by simp; omega)
    rw [if_neg (fun h => h g), Int.toNat_natCast]
    rw [decide_eq_true g] at hi
    have hge := girF_ge' (rows := rows) (n := N) 0 0 (by omega)
    by_cases c2 : girF rows N 0 0 = 0
    · rw [if_pos c2]
      rw [c2] at hg
      clear g
      simp (disch := first | assumption | omega | (simp [*] <;> omega) | fail) [i_impl_CountShortest, hi, hg, hn', hso]
    · rw [if_neg c2]
      obtain ⟨d, hL⟩ : ∃ d : Nat, girF rows N 0 0 = (d : Int) + 1 := ⟨((girF rows N 0 0) - 1).toNat, by omega⟩
      obtain ⟨m, hM, m1, m2, _⟩ := csAll_div g (L := d + 1) (by omega) (by omega)
      rw [show ((d + 1 : Nat) : Int) = (d : Int) + 1 by omega] at hM
      rw [hL] at hg c2 ⊢
      obtain ⟨q, M, e1, e2⟩ := c_impl_Graph_edges (nro := nro) N s rows (bx h N s) (hs.app _) (by simp; omega) g.rok
      have l2 := l_impl_CountShortest (nro := nro) (bx h N s ++ M) h.length N d q s rows ((hs.app _).app _) g (by simp) e2.ll (by simp; omega)
      obtain ⟨vs, v1, v2, _⟩ := e2.ll
      have vl := v2.vlen
      rw [v1] at vl
      obtain ⟨qa, qm, rfl⟩ := e2.shape
      have hq0 : (csAll rows N ((d : Int) + 1)).tdiv ((d : Int) + 1) = m := by rw [hM, Int.mul_tdiv_cancel_left _ c2]
      have w1 : IntKind.i64.wrap m = m := wrap64 (by omega) (by omega)
      obtain ⟨x, hx⟩ : ∃ q, q = csAll rows N ((d : Int) + 1) := ⟨_, rfl⟩
      rw [← hx] at l2 hq0 ⊢
      rw [hq0]
      obtain ⟨E, hE⟩ : ∃ E, E = (edgesF rows N 0).length := ⟨_, rfl⟩
      rw [← hE] at l2 vl
      have hk := fun x y : Int => kclean_take (h := h) (H := bx h N s ++ M) (vs := [.tuple #[.int .i64 x, .int .i64 y]]) (by simp) (by simp)
      obtain ⟨K, hK⟩ : ∃ K, K = bx h N s ++ M := ⟨_, rfl⟩
      rw [← hK] at e1 l2 vl hk
      clear hx hM g hge hL m1 m2 e2 v1 v2 hE hK hs
      simp (disch := first | assumption | omega | (simp [*] <;> omega) | fail) [i_impl_CountShortest, hi, hg, c2, e1, vl, l2, hq0, w1, hk, hn', hso]
  · rw [if_pos g]
    rw [decide_eq_false g] at hi
    clear g
    simp (disch := first | assumption | omega | (simp [*] <;> omega) | fail) [i_impl_CountShortest, hi, hn', hso]
end Go.Proofs.YtghondlbkjponaaDoor.Zv

/- Draws: the source of a code, picks, the numbers of a cage. -/
namespace Go.Proofs.YtghondlbkjponaaDoor.Zv
open Go
variable {nro : Nat}

theorem Sl.cells {h : VH} {cd : Value} {cs : List Value} (hs : Sl h cd cs) : vcells cd = [cd] := by
  rcases hs.inv with ⟨rfl, _⟩ | ⟨rfl, _⟩ | ⟨a, n, t, o, rfl, _⟩ <;> rfl
theorem Sl.junk {h : VH} {cd : Value} {cs : List Value} (hs : Sl h cd cs) : isJunk cd = false := by
  rcases hs.inv with ⟨rfl, _⟩ | ⟨rfl, _⟩ | ⟨a, n, t, o, rfl, _⟩ <;> rfl
theorem l_spec_l01From (h : VH) (cd : Value) (xs : List Int) (hs : Sl h cd (bys xs)) (hx : Code' xs) (hn : nro ≤ h.length) (g0 : Int) :
    ∃ g1, floop (vcall F nro) nro [0, 3, 4] i_spec_l01From_B1 (h ++ [⟨0, [cd, .int .i64 0, .int .u64 g0]⟩]) [cd, .pointer (some ⟨h.length, 0, some 3⟩), .int .i64 0] (h ++ [⟨0, [cd, .int .i64 0, .int .u64 g0]⟩]) =
      some (.exit 0, fl [(3, .pointer (some ⟨h.length, 0, some 3⟩))], h ++ [⟨0, [cd, .int .i64 0, .int .u64 g1]⟩]) := by
  have hn' := fun k => Nat.le_trans hn (Nat.le_add_right h.length k)
  have hl := hx.len
  have hco : ∀ k, OldC (h.length + k) cd := fun k r hr => Nat.lt_of_lt_of_le (hs.old r (crefs_sub hr)) (Nat.le_add_right _ _)
  have hol : ∀ k, Old (h.length + k) cd := fun k => hs.old.le (Nat.le_add_right _ _)
  have e1 := fun L => hs.vlen' (L := L)
  simp only [bys_length] at e1
  refine Exists.elim (for_upR (call := vcall F nro) (nro := nro) (live := [0, 3, 4]) (c := i_spec_l01From_B1) (h0 := h ++ [⟨0, [cd, .int .i64 0, .int .u64 g0]⟩]) (n := min xs.length 4096) (fun i (_ : Int) => [cd, .pointer (some ⟨h.length, 0, some 3⟩), .int .i64 i]) (fun _ g => h ++ [⟨0, [cd, .int .i64 0, .int .u64 g]⟩])
    (fun _ _ => True) (fun g => some (.exit 0, fl [(3, .pointer (some ⟨h.length, 0, some 3⟩))], h ++ [⟨0, [cd, .int .i64 0, .int .u64 g]⟩])) ?_ ?_ 0 g0 (Nat.zero_le _) trivial) ?_
  · intro i g hi hi2 _
    have hi3 : (i : Int) < xs.length := by omega
    have hi4 : (i : Int) < 4096 := by omega
    have e2 := fun L => hs.vidx' (L := L) (k := .i64) (j := (i : Int)) (by omega) (by rw [bys_length]; omega)
    have e3 := fun L => hs.vload' (L := L) (j := i) (by rw [bys_length]; omega)
    simp only [bys_get] at e3
    obtain ⟨y, hy⟩ : ∃ y, y = xs.getD i 0 := ⟨_, rfl⟩
    rw [← hy] at e3
    have w1 : IntKind.i64.wrap ((i : Int) + 1) = (i : Int) + 1 := wrap64 (by omega) (by omega)
    refine ⟨IntKind.u64.wrap (IntKind.u64.wrap (IntKind.u64.wrap (g * 1099511628211) + IntKind.u64.wrap y) + 157), trivial, ?_⟩
    rw [floop_at i_spec_l01From_B1.eq_1]
    simp (disch := first | assumption | omega | (simp [*] <;> omega) | fail) [hi3, hi4, e1, e2, e3, w1, hn', hn, hco, hol]
  · intro g _
    rw [floop_at i_spec_l01From_B1.eq_1]
    by_cases hc : xs.length < 4096
    · have hm : min xs.length 4096 = xs.length := by omega
      rw [hm]
      simp (disch := first | assumption | omega | (simp [*] <;> omega) | fail) [e1, hn', hn, hco, hol]
    · have hm : min xs.length 4096 = 4096 := by omega
      rw [hm]
      simp (disch := first | assumption | omega | (simp [*] <;> omega) | fail) [e1, hn', hn, hco, hol]
  · rintro g1 ⟨_, hg⟩
    exact ⟨g1, hg⟩

/-- The source of a code. -/
theorem c_spec_l01From (h : VH) (cd : Value) (xs : List Int) (hs : Sl h cd (bys xs)) (hx : Code' xs) (hn : nro ≤ h.length) :
    ∃ s, SOK xs s ∧ vcall F nro k_spec_l01From [cd] h = some (.pointer (some ⟨h.length, 0, some 3⟩), h ++ [srcO cd s]) := by
  have hn' := fun k => Nat.le_trans hn (Nat.le_add_right h.length k)
  have hl := hx.len
  have e0 := hs.vlen
  simp only [bys_length] at e0
  obtain ⟨g1, lp⟩ := l_spec_l01From (nro := nro) h cd xs hs hx hn (IntKind.u64.wrap (13311 + IntKind.u64.wrap xs.length))
  refine ⟨⟨0, g1⟩, Nat.zero_le _, ?_⟩
  refine v_spec_l01From (by simp [i_spec_l01From]) ?_
  rw [fbody_eq]
  have hol : Old h.length cd := hs.old
  have hco : OldC h.length cd := fun r hr => hs.old r (crefs_sub hr)
  have hvc := hs.cells
  have hj := hs.junk
  unfold isJunk at hj
  have hcl : kclean h [.pointer (some ⟨h.length, 0, some 3⟩)] (h ++ [⟨0, [cd, .int .i64 0, .int .u64 g1]⟩]) = ([.pointer (some ⟨h.length, 0, some 3⟩)], h ++ [⟨0, [cd, .int .i64 0, .int .u64 g1]⟩]) := by
    rw [cleanup_one (k := 0) (o := srcO cd ⟨0, g1⟩) (by simp [trefs, vrefs, crefs, arefs]) (by simp [srcO]) (flatO_src hs.old _)]
    simp [tren, vren, cren, aren, renOf_one0, srcO]
  unfold srcO
  simp (disch := first | assumption | omega | (simp [*] <;> omega) | fail) [i_spec_l01From, hcl, hvc, hj, splice, e0, lp, hn', hn, hol, hco]
end Go.Proofs.YtghondlbkjponaaDoor.Zv

/- Draws: picks in a heap, the numbers of a cage. -/
namespace Go.Proofs.YtghondlbkjponaaDoor.Zv
open Go
variable {nro : Nat}
section
variable {H : VH} {b : Nat} {cd : Value} {xs : List Int} {s : SS} (S : Srce nro H b cd xs s)
include S
theorem Srce.pickA {s' : SS} (h : SOK xs s') (L : VH) (k m : Nat) (ys : List Int) (hk : L[k]? = some ⟨1, ints ys⟩) (hm : ys.length = m) (h0 : 1 ≤ m) (h1 : m ≤ 100) :
    vcall F nro k_spec_l01Pick [.pointer (some ⟨b, 0, some 3⟩), .slice (some ⟨H.length + k, 0, none⟩) m m] (H.set b (srcO cd s') ++ L) = some (.int .i64 (ys.getD (srcN xs s' m).toNat 0), H.set b (srcO cd (srcS xs s' m)) ++ L) := by
  have hlt := S.lt
  have hq : ∀ o, Sli ((H.set b (srcO cd s') ++ L).set b o) (.slice (some ⟨H.length + k, 0, none⟩) m m) ys := fun o => by
    have e : ((H.set b (srcO cd s') ++ L).set b o)[H.length + k]? = some ⟨1, ints ys⟩ := by
      rw [List.set_append_left _ _ (by simpa using hlt), List.getElem?_append_right (by simp)]
      simpa using hk
    have := sli_at e
    rwa [hm] at this
  have := (S.set h L).pick _ ys hq (by omega) (by omega)
  rw [hm] at this
  rw [this, List.set_append_left _ _ (by simpa using hlt), List.set_set]
end
end Go.Proofs.YtghondlbkjponaaDoor.Zv

/- The search for regular graphs: both searches are one. -/
namespace Go.Proofs.YtghondlbkjponaaDoor.Zv
open Go
variable {nro : Nat}

theorem GV.put2 {n : Nat} {r : List Int} (g : GV n r) {v w : Nat} (hv : v < n) (hw : w < n) (hne : v ≠ w) : GV n (put2 r v w) := by
  have hlo := g.lo
  have R := g.rok
  have h := R.isAdj.put2 (a := (v : Int)) (b := (w : Int)) (by omega) (by omega) (by omega) (by omega) R.le
  simp only [Int.toNat_natCast] at h
  have R2 := R.put2 hv hw
  refine ⟨by omega, g.hi, by rw [h.1], fun x hx => ?_, fun x y hx hy => ?_⟩
  · rw [h.1] at hx
    obtain ⟨r1, r2⟩ := R2.row x hx
    refine ⟨r1, ?_, ?_⟩
    · have e : ((2 ^ n : Nat) : Int) = (2 : Int) ^ ((n : Int).toNat) := by simp
      rw [← e]; omega
    · have := (h.2 x hx).2.2 x
      cases hb : rbit (Zv.put2 r v w) x x
      · rfl
      · rcases this.mp hb with h1 | ⟨h1, h2⟩ | ⟨h1, h2⟩
        · exact absurd rfl (g.ne h1)
        · omega
        · omega
  · rw [h.1] at hx hy
    have a := (h.2 x hx).2.2 y
    have b := (h.2 y hy).2.2 x
    rw [Bool.eq_iff_iff, a, b]
    constructor
    · rintro (h1 | ⟨h1, h2⟩ | ⟨h1, h2⟩)
      · exact .inl (g.sym' h1)
      · exact .inr (.inr ⟨h2, h1⟩)
      · exact .inr (.inl ⟨h2, h1⟩)
    · rintro (h1 | ⟨h1, h2⟩ | ⟨h1, h2⟩)
      · exact .inl (g.sym' h1)
      · exact .inr (.inr ⟨h2, h1⟩)
      · exact .inr (.inl ⟨h2, h1⟩)
/-- What the search leaves behind. -/
def lefto (r : List Int) (o : Option (List Int)) : List Int := o.getD r
@[simp] theorem lefto_some (r r' : List Int) : lefto r (some r') = r' := rfl
@[simp] theorem lefto_none (r : List Int) : lefto r none = r := rfl

end Go.Proofs.YtghondlbkjponaaDoor.Zv

/- What the search finds is regular and has no short cycle. -/
namespace Go.Proofs.YtghondlbkjponaaDoor.Zv
open Go

section
variable {n : Nat} {r : List Int} (g : GV n r)
include g
omit g in
theorem Wk.mono {rows rows' : List Int} (h : ∀ x y, rbit rows x y = true → rbit rows' x y = true) : ∀ {k a b : Nat}, Wk rows k a b → Wk rows' k a b
  | 0, _, _, e => e
  | _ + 1, _, _, ⟨c, h1, h2⟩ => ⟨c, Wk.mono h h1, h _ _ h2⟩

end

end Go.Proofs.YtghondlbkjponaaDoor.Zv

/- The first cage graph: the program's and the reference's answers. -/
namespace Go.Proofs.YtghondlbkjponaaDoor.Zv
open Go
variable {nro : Nat}

theorem GV.zero {n : Nat} (h1 : 1 ≤ n) (h2 : n ≤ 62) : GV n (List.replicate n 0) := by
  have hr : ∀ v w, rbit (List.replicate n 0) v w = false := fun v w => by
    unfold rbit
    rw [List.getD_eq_getElem?_getD, List.getElem?_replicate]
    split <;> simp
  refine ⟨by omega, by omega, by simp, fun v hv => ⟨?_, ?_, hr v v⟩, fun v w _ _ => by rw [hr, hr]⟩
  · rw [List.getD_eq_getElem?_getD, List.getElem?_replicate]; split <;> simp
  · rw [List.getD_eq_getElem?_getD, List.getElem?_replicate]
    have : (0 : Int) < 2 ^ n := Int.pow_pos (by omega)
    split <;> simpa using this
/-- Why there is none: the reference's reasons, the program's. -/
def prS (n : Nat) (k c : Int) : Prop := (n * k) % 2 ≠ 0 ∨ n ≤ k ∨ (1 < k ∧ n < c)
def prI (n : Nat) (k c : Int) : Prop := (n * k) % 2 ≠ 0 ∨ n ≤ k ∨ (2 ≤ k ∧ n < gB k c.toNat)
instance (n : Nat) (k c : Int) : Decidable (prS n k c) := by unfold prS; infer_instance
instance (n : Nat) (k c : Int) : Decidable (prI n k c) := by unfold prI; infer_instance

end Go.Proofs.YtghondlbkjponaaDoor.Zv

/- Draws of graphs: graphs of so many vertices. -/
namespace Go.Proofs.YtghondlbkjponaaDoor.Zv
open Go
variable {nro : Nat}
theorem cleanup_one_upd {h h' L : VH} {v : Value} {k : Nat} {o : VO} (hu : Upd h h') (hv : trefs v = [h.length + k]) (hk : L[k]? = some o) (hf : flatO h.length o) :
    kclean h [v] (h' ++ L) = ([tren (renOf h.length [h.length + k]) v], h' ++ [o]) := by
  have e : keepL h.length [v] = [h.length + k] := by
    unfold keepL
    simp [hv, dedup]
  have hl : h'.length = h.length := hu.1
  have hg : (h' ++ L)[h.length + k]? = some o := by rw [← hl, hgetk]; exact hk
  have htake : (h' ++ L).take h.length = h' := by rw [← hl]; simp
  have hc : okT h.length h ((h' ++ L).take h.length) ∧ flatL h.length [h.length + k] (h' ++ L) := by
    refine ⟨by rw [htake]; exact hu.2, fun i hi => ⟨o, ?_, hf⟩⟩
    simp only [List.mem_singleton] at hi
    rw [hi]; exact hg
  unfold kclean cleanup
  rw [e, if_pos hc, htake]
  simp [hg]
theorem hgetS (H L : VH) (b : Nat) (o : VO) (k : Nat) : (H.set b o ++ L)[H.length + k]? = L[k]? := by
  rw [show H.length = (H.set b o).length by simp, hgetk]
theorem hsetS (H L : VH) (b : Nat) (o : VO) (k : Nat) (p : VO) : (H.set b o ++ L).set (H.length + k) p = H.set b o ++ L.set k p := by
  rw [show H.length = (H.set b o).length by simp, hsetk]
theorem hgetS0 (H L : VH) (b : Nat) (o : VO) : (H.set b o ++ L)[H.length]? = L[0]? := hgetS H L b o 0
theorem hsetS0 (H L : VH) (b : Nat) (o : VO) (p : VO) : (H.set b o ++ L).set H.length p = H.set b o ++ L.set 0 p := hsetS H L b o 0 p
section
variable {H : VH} {b : Nat} {cd : Value} {xs : List Int} {s : SS} (S : Srce nro H b cd xs s)
include S

/-- The heap while a graph is drawn. -/
def dgH (H : VH) (b : Nat) (cd : Value) (A B C : VO) (s : SS) (r : List Int) : VH := H.set b (srcO cd s) ++ [A, ⟨1, ints r⟩, B, C]
theorem dg_upd (A B C : VO) (s0 s1 : SS) (r0 r1 : List Int) : Upd (dgH H b cd A B C s0 r0) (dgH H b cd A B C s1 r1) := by
  have hlt := S.lt
  have hself : H.set b (srcO cd s) = H := hset_self S.at'
  have ho : Old H.length cd := by
    have := (S.sl (srcO cd s)).old
    rwa [hself] at this
  have h1 := ((Upd.rfl' (dgH H b cd A B C s0 r0)).set' (b := b) (o := srcO cd s1) (flatO_src (ho.le (by simp [dgH])) _)).set' (b := H.length + 1) (o := ⟨1, ints r1⟩) (flatO_ints _ _ _)
  have e : ((dgH H b cd A B C s0 r0).set b (srcO cd s1)).set (H.length + 1) ⟨1, ints r1⟩ = dgH H b cd A B C s1 r1 := by
    unfold dgH
    rw [List.set_append_left _ _ (by simpa using hlt), List.set_set, show H.length + 1 = (H.set b (srcO cd s1)).length + 1 by simp, hsetk]
    rfl
  rwa [e] at h1
theorem dg_clean {A B C : VO} {s0 s1 : SS} {r0 r1 : List Int} {vs : List Value} (hv : ∀ v ∈ vs, Old (H.length + 4) v) : kclean (dgH H b cd A B C s0 r0) vs (dgH H b cd A B C s1 r1) = (vs, dgH H b cd A B C s1 r1) := by
  have := cleanup_upd (L := []) (dg_upd S A B C s0 s1 r0 r1) (vs := vs) (fun v h => by simpa [dgH] using hv v h)
  rwa [List.append_nil] at this
theorem dg_next {A B C : VO} {s1 : SS} (h : SOK xs s1) (r : List Int) (n : Int) (h1 : n ≤ 9223372036854775807) : vcall F nro k_spec_l01Next [.pointer (some ⟨b, 0, some 3⟩), .int .i64 n] (dgH H b cd A B C s1 r) = some (.int .i64 (srcN xs s1 n), dgH H b cd A B C (srcS xs s1 n) r) := S.nextA h _ n h1
theorem dg_put {A B C : VO} {s1 : SS} {N : Nat} {r : List Int} (hl : r.length = N) (hN : N ≤ 62) (v w : Nat) (hv : v < N) (hw : w < N) :
    vcall F nro k_spec_l01Put [gv N (.slice (some ⟨H.length + 1, 0, none⟩) N N), .int .i64 v, .int .i64 w] (dgH H b cd A B C s1 r) = some (.tuple #[], dgH H b cd A B C s1 (put2 r v w)) := by
  have hn := S.nr
  have hlt := S.lt
  have hg : (dgH H b cd A B C s1 r)[H.length + 1]? = some ⟨1, ints r⟩ := by
    unfold dgH
    rw [show H.length + 1 = (H.set b (srcO cd s1)).length + 1 by simp, hgetk]; rfl
  rw [c_spec_l01Put (nro := nro) N (H.length + 1) N v w r _ hg hl (by omega) (by omega) (by omega) (by omega) (by omega) hN]
  unfold dgH
  rw [show H.length + 1 = (H.set b (srcO cd s1)).length + 1 by simp, hsetk]; rfl

theorem l_l01DrawOf_1 {A B : VO} (s0 : SS) (o0 : SOK xs s0) (N : Nat) (h62 : N ≤ 62) (r0 : List Int) (g0 : GV N r0) (few : Int) (v : Nat) (hv : v < N) :
    ∃ s1 r1, SOK xs s1 ∧ GV N r1 ∧ floop (vcall F nro) nro [0, 1, 4, 5, 6, 7, 8] i_spec_l01DrawOf_B1 (dgH H b cd A B ⟨0, [.int .i64 N, .slice (some ⟨H.length + 1, 0, none⟩) N N]⟩ s0 r0) [.pointer (some ⟨b, 0, some 3⟩), .int .i64 N, .pointer (some ⟨H.length, 0, some 2⟩), .pointer (some ⟨H.length + 3, 0, some 2⟩), .int .i64 few, .int .i64 v, .int .i64 0] (dgH H b cd A B ⟨0, [.int .i64 N, .slice (some ⟨H.length + 1, 0, none⟩) N N]⟩ s0 r0) =
      some (.exit 2, fl [(0, .pointer (some ⟨b, 0, some 3⟩)), (1, .int .i64 N), (4, .pointer (some ⟨H.length, 0, some 2⟩)), (5, .pointer (some ⟨H.length + 3, 0, some 2⟩)), (6, .int .i64 few), (7, .int .i64 v)], dgH H b cd A B ⟨0, [.int .i64 N, .slice (some ⟨H.length + 1, 0, none⟩) N N]⟩ s1 r1) := by
  have hlt := S.lt
  refine Exists.elim (for_upR (call := vcall F nro) (nro := nro) (live := [0, 1, 4, 5, 6, 7, 8]) (c := i_spec_l01DrawOf_B1) (h0 := dgH H b cd A B ⟨0, [.int .i64 N, .slice (some ⟨H.length + 1, 0, none⟩) N N]⟩ s0 r0) (n := v) (fun w (_ : SS × List Int) => [.pointer (some ⟨b, 0, some 3⟩), .int .i64 N, .pointer (some ⟨H.length, 0, some 2⟩), .pointer (some ⟨H.length + 3, 0, some 2⟩), .int .i64 few, .int .i64 v, .int .i64 w]) (fun _ p => dgH H b cd A B ⟨0, [.int .i64 N, .slice (some ⟨H.length + 1, 0, none⟩) N N]⟩ p.1 p.2)
    (fun _ p => SOK xs p.1 ∧ GV N p.2) (fun p => some (.exit 2, fl [(0, .pointer (some ⟨b, 0, some 3⟩)), (1, .int .i64 N), (4, .pointer (some ⟨H.length, 0, some 2⟩)), (5, .pointer (some ⟨H.length + 3, 0, some 2⟩)), (6, .int .i64 few), (7, .int .i64 v)], dgH H b cd A B ⟨0, [.int .i64 N, .slice (some ⟨H.length + 1, 0, none⟩) N N]⟩ p.1 p.2)) ?_ ?_ 0 (s0, r0) (Nat.zero_le _) ⟨o0, g0⟩) ?_
  · rintro w ⟨s1, r1⟩ hw hw2 ⟨o1, g1⟩
    dsimp only at o1 g1 ⊢
    have e1 := dg_next (nro := nro) S (A := A) (B := B) (C := ⟨0, [.int .i64 N, .slice (some ⟨H.length + 1, 0, none⟩) N N]⟩) o1 r1 N (by omega)
    have o2 := srcS_ok o1 (N : Int)
    obtain ⟨x, hx⟩ : ∃ x, x = srcN xs s1 N := ⟨_, rfl⟩
    obtain ⟨s2, hs2⟩ : ∃ q, q = srcS xs s1 N := ⟨_, rfl⟩
    rw [← hx, ← hs2] at e1
    rw [← hs2] at o2
    have w1 : IntKind.i64.wrap ((w : Int) + 1) = (w : Int) + 1 := wrap64 (by omega) (by omega)
    have hcl := fun (r : List Int) (vs : List Value) => dg_clean S (A := A) (B := B) (C := ⟨0, [.int .i64 N, .slice (some ⟨H.length + 1, 0, none⟩) N N]⟩) (s0 := s0) (s1 := s2) (r0 := r0) (r1 := r) (vs := vs)
    have hg5 : ∀ (s1 : SS) (r : List Int), (dgH H b cd A B ⟨0, [.int .i64 N, .slice (some ⟨H.length + 1, 0, none⟩) N N]⟩ s1 r)[H.length + 3]? = some ⟨0, [.int .i64 N, .slice (some ⟨H.length + 1, 0, none⟩) N N]⟩ := fun s1 r => by
      unfold dgH
      rw [show H.length + 3 = (H.set b (srcO cd s1)).length + 3 by simp, hgetk]; rfl
    have hlen : (dgH H b cd A B ⟨0, [.int .i64 N, .slice (some ⟨H.length + 1, 0, none⟩) N N]⟩ s0 r0).length = H.length + 4 := by simp [dgH]
    have hb4 : b < H.length + 4 := by omega
    by_cases c : x < few
    · have e2 := dg_put (nro := nro) S (A := A) (B := B) (C := ⟨0, [.int .i64 N, .slice (some ⟨H.length + 1, 0, none⟩) N N]⟩) (s1 := s2) g1.rok.len h62 v w hv (by omega)
      have g2 := g1.put2 hv (show w < N by omega) (by omega)
      refine ⟨(s2, put2 r1 v w), ⟨o2, g2⟩, ?_⟩
      obtain ⟨r2, hr2⟩ : ∃ r, r = put2 r1 v w := ⟨_, rfl⟩
      rw [← hr2] at e2 ⊢
      clear hx hs2 hr2 g1 g2 g0 S
      rw [floop_at i_spec_l01DrawOf_B1.eq_1]
      simp (disch := first | assumption | omega | (simp [*] <;> omega) | fail) [-getElem?_pos, List.getElem?_cons_zero, List.getElem?_cons_succ, hw, hw2, e1, e2, c, w1, hcl, hg5, hlen, hb4]
    · refine ⟨(s2, r1), ⟨o2, g1⟩, ?_⟩
      clear hx hs2 g1 g0 S
      rw [floop_at i_spec_l01DrawOf_B1.eq_1]
      simp (disch := first | assumption | omega | (simp [*] <;> omega) | fail) [-getElem?_pos, List.getElem?_cons_zero, List.getElem?_cons_succ, hw, hw2, e1, c, w1, hcl, hg5, hlen, hb4]
  · rintro ⟨s1, r1⟩ _
    have hlen : (dgH H b cd A B ⟨0, [.int .i64 N, .slice (some ⟨H.length + 1, 0, none⟩) N N]⟩ s0 r0).length = H.length + 4 := by simp [dgH]
    rw [floop_at i_spec_l01DrawOf_B1.eq_1]
    simp (disch := first | assumption | omega | (simp [*] <;> omega) | fail) [-getElem?_pos, List.getElem?_cons_zero, List.getElem?_cons_succ, hlen]
  · rintro ⟨s1, r1⟩ ⟨⟨o1, g1⟩, hf⟩
    exact ⟨s1, r1, o1, g1, hf⟩

theorem l_l01DrawOf_2 {A B : VO} (s0 : SS) (o0 : SOK xs s0) (N : Nat) (h62 : N ≤ 62) (r0 : List Int) (g0 : GV N r0) (few : Int) :
    ∃ s1 r1, SOK xs s1 ∧ GV N r1 ∧ floop (vcall F nro) nro [0, 1, 4, 5, 6, 7] i_spec_l01DrawOf_B2 (dgH H b cd A B ⟨0, [.int .i64 N, .slice (some ⟨H.length + 1, 0, none⟩) N N]⟩ s0 r0) [.pointer (some ⟨b, 0, some 3⟩), .int .i64 N, .pointer (some ⟨H.length, 0, some 2⟩), .pointer (some ⟨H.length + 3, 0, some 2⟩), .int .i64 few, .int .i64 0] (dgH H b cd A B ⟨0, [.int .i64 N, .slice (some ⟨H.length + 1, 0, none⟩) N N]⟩ s0 r0) =
      some (.exit 0, fl [(4, .pointer (some ⟨H.length, 0, some 2⟩)), (5, .pointer (some ⟨H.length + 3, 0, some 2⟩))], dgH H b cd A B ⟨0, [.int .i64 N, .slice (some ⟨H.length + 1, 0, none⟩) N N]⟩ s1 r1) := by
  have hlt := S.lt
  refine Exists.elim (for_upR (call := vcall F nro) (nro := nro) (live := [0, 1, 4, 5, 6, 7]) (c := i_spec_l01DrawOf_B2) (h0 := dgH H b cd A B ⟨0, [.int .i64 N, .slice (some ⟨H.length + 1, 0, none⟩) N N]⟩ s0 r0) (n := N) (fun v (_ : SS × List Int) => [.pointer (some ⟨b, 0, some 3⟩), .int .i64 N, .pointer (some ⟨H.length, 0, some 2⟩), .pointer (some ⟨H.length + 3, 0, some 2⟩), .int .i64 few, .int .i64 v]) (fun _ p => dgH H b cd A B ⟨0, [.int .i64 N, .slice (some ⟨H.length + 1, 0, none⟩) N N]⟩ p.1 p.2)
    (fun _ p => SOK xs p.1 ∧ GV N p.2) (fun p => some (.exit 0, fl [(4, .pointer (some ⟨H.length, 0, some 2⟩)), (5, .pointer (some ⟨H.length + 3, 0, some 2⟩))], dgH H b cd A B ⟨0, [.int .i64 N, .slice (some ⟨H.length + 1, 0, none⟩) N N]⟩ p.1 p.2)) ?_ ?_ 0 (s0, r0) (Nat.zero_le _) ⟨o0, g0⟩) ?_
  · rintro v ⟨s1, r1⟩ hv hv2 ⟨o1, g1⟩
    dsimp only at o1 g1 ⊢
    obtain ⟨s2, r2, o2, g2, lp⟩ := l_l01DrawOf_1 (nro := nro) S (A := A) (B := B) s1 o1 N h62 r1 g1 few v hv
    have w1 : IntKind.i64.wrap ((v : Int) + 1) = (v : Int) + 1 := wrap64 (by omega) (by omega)
    have hcl := fun (vs : List Value) => dg_clean S (A := A) (B := B) (C := ⟨0, [.int .i64 N, .slice (some ⟨H.length + 1, 0, none⟩) N N]⟩) (s0 := s0) (s1 := s2) (r0 := r0) (r1 := r2) (vs := vs)
    have hlen : ∀ s r, (dgH H b cd A B ⟨0, [.int .i64 N, .slice (some ⟨H.length + 1, 0, none⟩) N N]⟩ s r).length = H.length + 4 := fun s r => by simp [dgH]
    have hb4 : b < H.length + 4 := by omega
    refine ⟨(s2, r2), ⟨o2, g2⟩, ?_⟩
    clear g1 g2 g0 S
    rw [floop_at i_spec_l01DrawOf_B2.eq_1]
    simp (disch := first | assumption | omega | (simp [*] <;> omega) | fail) [-getElem?_pos, List.getElem?_cons_zero, List.getElem?_cons_succ, hv, hv2, lp, w1, hcl, hlen, hb4]
  · rintro ⟨s1, r1⟩ _
    have hlen : (dgH H b cd A B ⟨0, [.int .i64 N, .slice (some ⟨H.length + 1, 0, none⟩) N N]⟩ s0 r0).length = H.length + 4 := by simp [dgH]
    rw [floop_at i_spec_l01DrawOf_B2.eq_1]
    simp (disch := first | assumption | omega | (simp [*] <;> omega) | fail) [-getElem?_pos, List.getElem?_cons_zero, List.getElem?_cons_succ, hlen]
  · rintro ⟨s1, r1⟩ ⟨⟨o1, g1⟩, hf⟩
    exact ⟨s1, r1, o1, g1, hf⟩

/-- A drawn graph of n vertices. -/
theorem c_spec_l01DrawOf (N : Nat) (h1 : 1 ≤ N) (h62 : N ≤ 62) : ∃ rows s', SOK xs s' ∧ GV N rows ∧
    vcall F nro k_spec_l01DrawOf [.pointer (some ⟨b, 0, some 3⟩), .int .i64 N] H = some (gv N (.slice (some ⟨H.length, 0, none⟩) N N), H.set b (srcO cd s') ++ [⟨1, ints rows⟩]) := by
  have hlt := S.lt
  have hnb := S.nr
  have hn : nro ≤ H.length := by omega
  have hn' := fun k => Nat.le_trans hn (Nat.le_add_right H.length k)
  have hself : H.set b (srcO cd s) = H := hset_self S.at'
  have he := c_spec_l01Empty (nro := nro) N (H ++ [⟨0, [.int .i64 0, .slice none 0 0]⟩]) (by omega) (by omega) (by simp; omega)
  rw [Int.toNat_natCast] at he
  have o1 := srcS_ok S.ok ((5 : Nat) : Int)
  have e2 := S.pickA S.ok [⟨0, [.int .i64 0, .slice none 0 0]⟩, ⟨1, ints (List.replicate N 0)⟩, ⟨1, ints [1, 2, 3, 4, (N : Int)]⟩] 2 5 [1, 2, 3, 4, (N : Int)] rfl rfl (by omega) (by omega)
  obtain ⟨few, hfew⟩ : ∃ x, x = [1, 2, 3, 4, (N : Int)].getD (srcN xs s ((5 : Nat) : Int)).toNat 0 := ⟨_, rfl⟩
  obtain ⟨s1, hs1⟩ : ∃ q, q = srcS xs s ((5 : Nat) : Int) := ⟨_, rfl⟩
  rw [← hfew, ← hs1, hself] at e2
  rw [← hs1] at o1
  obtain ⟨s2, r2, o2, g2, lp⟩ := l_l01DrawOf_2 (nro := nro) S (A := ⟨0, [.int .i64 0, .slice none 0 0]⟩) (B := ⟨1, ints [1, 2, 3, 4, (N : Int)]⟩) s1 o1 N h62 (List.replicate N 0) (GV.zero h1 h62) few
  refine ⟨r2, s2, o2, g2, ?_⟩
  have hl2 := g2.rok.len
  have ho : Old H.length cd := by
    have := (S.sl (srcO cd s)).old
    rwa [hself] at this
  have hcl : ∀ (L : VH), L[1]? = some ⟨1, ints r2⟩ → kclean H [.agg #[.int .i64 N, .slice (some ⟨H.length + 1, 0, none⟩) N N]] (H.set b (srcO cd s2) ++ L) = ([.agg #[.int .i64 N, .slice (some ⟨H.length, 0, none⟩) N N]], H.set b (srcO cd s2) ++ [⟨1, ints r2⟩]) := fun L hL => by
    rw [cleanup_one_upd (k := 1) (o := ⟨1, ints r2⟩) ((Upd.rfl' H).set' (b := b) (flatO_src ho s2)) (by simp [trefs, vrefs, crefs, arefs]) hL (flatO_ints _ _ _)]
    simp [tren, vren, cren, aren, renOf_one]
  refine v_spec_l01DrawOf (by simp [i_spec_l01DrawOf]) ?_
  rw [fbody_eq]
  unfold dgH at lp
  have hi5 : ints [1, 2, 3, 4, (N : Int)] = [.int .i64 1, .int .i64 2, .int .i64 3, .int .i64 4, .int .i64 N] := rfl
  rw [hi5] at e2 lp
  simp [-List.reduceReplicate] at he lp
  clear hfew hs1 g2 hi5 hself o1 o2 hl2 hnb
  simp (disch := first | assumption | omega | (simp [*] <;> omega) | fail) [-getElem?_pos, List.getElem?_cons_zero, List.getElem?_cons_succ, i_spec_l01DrawOf, fresults, fresL, fres1, he, e2, lp, hgetS, hsetS, hgetS0, hsetS0, hcl, hn, hn']
end
end Go.Proofs.YtghondlbkjponaaDoor.Zv

/- Graphs made edge by edge: jump graphs, renumbered graphs. -/
namespace Go.Proofs.YtghondlbkjponaaDoor.Zv
open Go
variable {nro : Nat}

/-- An edge put in a graph in the making. -/
theorem mk_put {P C : VH} {N : Nat} {r : List Int} (hn : nro ≤ P.length) (hl : r.length = N) (hN : N ≤ 62) (v w : Nat) (hv : v < N) (hw : w < N) :
    vcall F nro k_spec_l01Put [gv N (.slice (some ⟨P.length, 0, none⟩) N N), .int .i64 v, .int .i64 w] (P ++ ⟨1, ints r⟩ :: C) = some (.tuple #[], P ++ ⟨1, ints (put2 r v w)⟩ :: C) := by
  rw [c_spec_l01Put (nro := nro) N P.length N v w r _ (by rw [hget0]; rfl) hl hn (by omega) (by omega) (by omega) (by omega) hN, hset0]
  rfl
theorem mk_upd (P C : VH) (r0 r1 : List Int) : Upd (P ++ ⟨1, ints r0⟩ :: C) (P ++ ⟨1, ints r1⟩ :: C) := by
  have h1 := (Upd.rfl' (P ++ ⟨1, ints r0⟩ :: C)).set' (b := P.length) (o := ⟨1, ints r1⟩) (flatO_ints _ _ _)
  rwa [hset0] at h1
theorem mk_clean {P C : VH} {r0 r1 : List Int} {vs : List Value} (hv : ∀ v ∈ vs, Old (P ++ ⟨1, ints r0⟩ :: C).length v) : kclean (P ++ ⟨1, ints r0⟩ :: C) vs (P ++ ⟨1, ints r1⟩ :: C) = (vs, P ++ ⟨1, ints r1⟩ :: C) := by
  have := cleanup_upd (L := []) (mk_upd P C r0 r1) (vs := vs) hv
  rwa [List.append_nil] at this

theorem l_l01Jumps (h : VH) (t : Value) (js : List Int) (ht : Sli h t js) (hn : nro ≤ h.length) (N : Nat) (h3 : 3 ≤ N) (h62 : N ≤ 62) (hj : ∀ x ∈ js, 1 ≤ x ∧ x < N) (hjl : js.length ≤ 100) (r0 : List Int) (g0 : GV N r0) :
    ∃ r1, GV N r1 ∧ floop (vcall F nro) nro [0, 1, 4, 5, 6] i_spec_l01Jumps_B1 (h ++ [⟨0, [.int .i64 0, .slice none 0 0]⟩, ⟨1, ints r0⟩, ⟨0, [.int .i64 N, .slice (some ⟨h.length + 1, 0, none⟩) N N]⟩]) [.int .i64 N, t, .pointer (some ⟨h.length, 0, some 2⟩), .pointer (some ⟨h.length + 2, 0, some 2⟩), .int .i64 0] (h ++ [⟨0, [.int .i64 0, .slice none 0 0]⟩, ⟨1, ints r0⟩, ⟨0, [.int .i64 N, .slice (some ⟨h.length + 1, 0, none⟩) N N]⟩]) =
      some (.exit 0, fl [(4, .pointer (some ⟨h.length, 0, some 2⟩)), (5, .pointer (some ⟨h.length + 2, 0, some 2⟩))], h ++ [⟨0, [.int .i64 0, .slice none 0 0]⟩, ⟨1, ints r1⟩, ⟨0, [.int .i64 N, .slice (some ⟨h.length + 1, 0, none⟩) N N]⟩]) := by
  have hto : ∀ k, Old (h.length + k) t := fun k => ht.oldk (k := k)
  have e0 := fun L => ht.vlen' (L := L)
  refine Exists.elim (for_upR (call := vcall F nro) (nro := nro) (live := [0, 1, 4, 5, 6]) (c := i_spec_l01Jumps_B1) (h0 := h ++ [⟨0, [.int .i64 0, .slice none 0 0]⟩, ⟨1, ints r0⟩, ⟨0, [.int .i64 N, .slice (some ⟨h.length + 1, 0, none⟩) N N]⟩]) (n := N) (fun i (_ : List Int) => [.int .i64 N, t, .pointer (some ⟨h.length, 0, some 2⟩), .pointer (some ⟨h.length + 2, 0, some 2⟩), .int .i64 i]) (fun _ r => h ++ [⟨0, [.int .i64 0, .slice none 0 0]⟩, ⟨1, ints r⟩, ⟨0, [.int .i64 N, .slice (some ⟨h.length + 1, 0, none⟩) N N]⟩])
    (fun _ r => GV N r) (fun r => some (.exit 0, fl [(4, .pointer (some ⟨h.length, 0, some 2⟩)), (5, .pointer (some ⟨h.length + 2, 0, some 2⟩))], h ++ [⟨0, [.int .i64 0, .slice none 0 0]⟩, ⟨1, ints r⟩, ⟨0, [.int .i64 N, .slice (some ⟨h.length + 1, 0, none⟩) N N]⟩])) ?_ ?_ 0 r0 (Nat.zero_le _) g0) ?_
  · intro i r1 hi hi2 g1
    have w1 : IntKind.i64.wrap ((i : Int) + 1) = (i : Int) + 1 := wrap64 (by omega) (by omega)
    obtain ⟨k, hk⟩ : ∃ k : Nat, k = (i + 1) % N := ⟨_, rfl⟩
    have hkN : k < N := by rw [hk]; exact Nat.mod_lt _ (by omega)
    have hki : i ≠ k := by
      rw [hk]
      by_cases c : i + 1 = N
      · rw [c, Nat.mod_self]; omega
      · rw [Nat.mod_eq_of_lt (by omega)]; omega
    have q1 : IntKind.i64.wrap (((i : Int) + 1) % N) = k := by
      have : ((i : Int) + 1) % N = k := by rw [hk]; simp
      rw [this]; exact wrap64 (by omega) (by omega)
    have t1 : ((i : Int) + 1).tmod N = k := by rw [Int.tmod_eq_emod_of_nonneg (by omega), hk]; simp
    have e1 := mk_put (nro := nro) (P := h ++ [⟨0, [.int .i64 0, .slice none 0 0]⟩]) (C := [⟨0, [.int .i64 N, .slice (some ⟨h.length + 1, 0, none⟩) N N]⟩]) (by simp; omega) g1.rok.len h62 i k hi hkN
    have g2 := g1.put2 hi hkN hki
    obtain ⟨r2, hr2⟩ : ∃ r, r = put2 r1 i k := ⟨_, rfl⟩
    rw [← hr2] at e1 g2
    simp at e1
    have hN0 : ¬ (N : Int) = 0 := by omega
    have hcl := fun (r : List Int) (vs : List Value) => mk_clean (P := h ++ [⟨0, [.int .i64 0, .slice none 0 0]⟩]) (C := [⟨0, [.int .i64 N, .slice (some ⟨h.length + 1, 0, none⟩) N N]⟩]) (r0 := r0) (r1 := r) (vs := vs)
    simp only [List.append_assoc, List.cons_append, List.nil_append, List.length_append, List.length_cons, List.length_nil] at hcl
    by_cases c : js.length = 0
    · have c' : ¬ 0 < js.length := by omega
      refine ⟨r2, g2, ?_⟩
      clear hk hr2 g1 g2 g0
      rw [floop_at i_spec_l01Jumps_B1.eq_1]
      simp (disch := first | assumption | omega | (simp [*] <;> omega) | fail) [hi, hi2, e0, e1, c', w1, q1, t1, hN0, hcl, hto]
    · have c' : 0 < js.length := by omega
      obtain ⟨m, hm⟩ : ∃ m : Nat, m = i % js.length := ⟨_, rfl⟩
      have hml : m < js.length := by rw [hm]; exact Nat.mod_lt _ (by omega)
      have q2 : IntKind.i64.wrap ((i : Int) % js.length) = m := by
        have : ((i : Int)) % js.length = m := by rw [hm]; simp
        rw [this]; exact wrap64 (by omega) (by omega)
      have t2 : (i : Int).tmod js.length = m := by rw [Int.tmod_eq_emod_of_nonneg (by omega), hm]; simp
      have w4 : IntKind.i64.wrap (m : Int) = m := wrap64 (by omega) (by omega)
      have e2 := fun L => ht.vidx' (L := L) (k := .i64) (j := (m : Int)) (by omega) (by omega)
      have e3 := fun L => ht.vload' (L := L) (j := m) hml
      obtain ⟨y1, y2⟩ := hj js[m] (List.getElem_mem hml)
      obtain ⟨y, hy⟩ : ∃ y : Nat, js[m] = y := ⟨js[m].toNat, by omega⟩
      rw [hy] at y1 y2
      simp only [hy] at e3
      obtain ⟨z, hz⟩ : ∃ z : Nat, z = (i + y) % N := ⟨_, rfl⟩
      have hzN : z < N := by rw [hz]; exact Nat.mod_lt _ (by omega)
      have hzi : i ≠ z := by
        rw [hz]
        by_cases c : i + y < N
        · rw [Nat.mod_eq_of_lt c]; omega
        · rw [Nat.mod_eq_sub_mod (by omega), Nat.mod_eq_of_lt (by omega)]; omega
      have w2 : IntKind.i64.wrap ((i : Int) + y) = (i : Int) + y := wrap64 (by omega) (by omega)
      have q3 : IntKind.i64.wrap (((i : Int) + y) % N) = z := by
        have : ((i : Int) + y) % N = z := by rw [hz]; simp
        rw [this]; exact wrap64 (by omega) (by omega)
      have t3 : ((i : Int) + y).tmod N = z := by rw [Int.tmod_eq_emod_of_nonneg (by omega), hz]; simp
      have e4 := mk_put (nro := nro) (P := h ++ [⟨0, [.int .i64 0, .slice none 0 0]⟩]) (C := [⟨0, [.int .i64 N, .slice (some ⟨h.length + 1, 0, none⟩) N N]⟩]) (by simp; omega) g2.rok.len h62 i z hi hzN
      have g3 := g2.put2 hi hzN hzi
      obtain ⟨r3, hr3⟩ : ∃ r, r = put2 r2 i z := ⟨_, rfl⟩
      rw [← hr3] at e4 g3
      simp at e4
      have hj0 : ¬ (js.length : Int) = 0 := by omega
      refine ⟨r3, g3, ?_⟩
      clear hk hr2 hr3 g1 g2 g3 g0 hm hz hj hy
      rw [floop_at i_spec_l01Jumps_B1.eq_1]
      simp (disch := first | assumption | omega | (simp [*] <;> omega) | fail) [hi, hi2, e0, e1, e2, e3, e4, c', w1, w2, q1, q2, q3, t1, t2, t3, w4, hN0, hj0, hcl, hto]
  · intro r1 _
    rw [floop_at i_spec_l01Jumps_B1.eq_1]
    simp (disch := first | assumption | omega | (simp [*] <;> omega) | fail) [hto]
  · rintro r1 ⟨g1, hf⟩
    exact ⟨r1, g1, hf⟩

/-- A jump graph. -/
theorem c_spec_l01Jumps (h : VH) (t : Value) (js : List Int) (ht : Sli h t js) (hn : nro ≤ h.length) (N : Nat) (h3 : 3 ≤ N) (h62 : N ≤ 62) (hj : ∀ x ∈ js, 1 ≤ x ∧ x < N) (hjl : js.length ≤ 100) :
    ∃ rows, GV N rows ∧ vcall F nro k_spec_l01Jumps [.int .i64 N, t] h = some (gv N (.slice (some ⟨h.length, 0, none⟩) N N), h ++ [⟨1, ints rows⟩]) := by
  have hn' := fun k => Nat.le_trans hn (Nat.le_add_right h.length k)
  have he := c_spec_l01Empty (nro := nro) N (h ++ [⟨0, [.int .i64 0, .slice none 0 0]⟩]) (by omega) (by omega) (by simp; omega)
  rw [Int.toNat_natCast] at he
  obtain ⟨r1, g1, lp⟩ := l_l01Jumps (nro := nro) h t js ht hn N h3 h62 hj hjl (List.replicate N 0) (GV.zero (by omega) h62)
  have hl := g1.rok.len
  refine ⟨r1, g1, ?_⟩
  refine v_spec_l01Jumps (by simp [i_spec_l01Jumps]) ?_
  rw [fbody_eq]
  simp [-List.reduceReplicate] at he
  clear g1
  simp (disch := first | assumption | omega | (simp [*] <;> omega) | fail) [i_spec_l01Jumps, he, lp, hl, fresults, fresL, fres1, hn', hn]
end Go.Proofs.YtghondlbkjponaaDoor.Zv

/- Complements of graphs. -/
namespace Go.Proofs.YtghondlbkjponaaDoor.Zv
open Go
variable {nro : Nat}

/-- A row of the complement. -/
def cmpR (N : Nat) (x v : Nat) : Nat := 2 ^ N - 1 - x - 2 ^ v
theorem cmpR_bit {N x v : Nat} (hx : x < 2 ^ N) (hv : v < N) (hb : x.testBit v = false) (w : Nat) : (cmpR N x v).testBit w = (decide (w < N) && !x.testBit w && decide (w ≠ v)) := by
  have e : 2 ^ N - 1 - x = 2 ^ N - (x + 1) := by omega
  have h1 : ∀ w, (2 ^ N - 1 - x).testBit w = (decide (w < N) && !x.testBit w) := fun w => by rw [e, Nat.testBit_two_pow_sub_succ hx]
  have h2 : (2 ^ N - 1 - x).testBit v = true := by rw [h1, hb]; simp [hv]
  unfold cmpR
  rw [(sub_bit h2).2, h1]
theorem cmpR_le {N x v : Nat} (hx : x < 2 ^ N) (hv : v < N) (hb : x.testBit v = false) : 2 ^ v ≤ 2 ^ N - 1 - x ∧ cmpR N x v < 2 ^ N := by
  have e : 2 ^ N - 1 - x = 2 ^ N - (x + 1) := by omega
  have h2 : (2 ^ N - 1 - x).testBit v = true := by rw [e, Nat.testBit_two_pow_sub_succ hx, hb]; simp [hv]
  refine ⟨(sub_bit h2).1, ?_⟩
  unfold cmpR
  have h3 := Nat.two_pow_pos N
  refine Nat.lt_of_le_of_lt (Nat.sub_le _ _) ?_
  obtain ⟨q, hq⟩ : ∃ q, q = 2 ^ N := ⟨_, rfl⟩
  rw [← hq] at h3 ⊢
  omega
def cmpG (rows : List Int) (N v : Nat) : Int := cmpR N (rows.getD v 0).toNat v
theorem GV.compl {N : Nat} {rows : List Int} (g : GV N rows) : GV N (tbl N (cmpG rows N)) := by
  have R := g.rok
  have hlo := g.lo
  have hl := g.len
  have nob : ∀ v, v < N → (rows.getD v 0).toNat.testBit v = false := fun v hv => (g.row v (by omega)).2.2
  have bit : ∀ v w, v < N → rbit (tbl N (cmpG rows N)) v w = (decide (w < N) && !rbit rows v w && decide (w ≠ v)) := fun v w hv => by
    unfold rbit
    rw [tbl_getD hv]
    unfold cmpG
    rw [Int.toNat_natCast]
    exact cmpR_bit (R.row v hv).2 hv (nob v hv) w
  refine ⟨by omega, g.hi, by simp, fun v hv => ?_, fun v w hv hw => ?_⟩
  · rw [tbl_length] at hv
    refine ⟨?_, ?_, ?_⟩
    · rw [tbl_getD hv]; unfold cmpG; omega
    · rw [tbl_getD hv]
      unfold cmpG
      have := (cmpR_le (R.row v hv).2 hv (nob v hv)).2
      have e : ((2 ^ N : Nat) : Int) = (2 : Int) ^ ((N : Int).toNat) := by simp
      rw [← e]; omega
    · rw [bit v v hv]; simp
  · rw [tbl_length] at hv hw
    rw [bit v w hv, bit w v hw, g.sym v w (by omega) (by omega)]
    simp [hv, hw, eq_comm]

/-- The heap while a complement is made. -/
def cpH (h : VH) (N : Nat) (s : Value) (f : Nat → Int) : VH := (h ++ [⟨0, [.int .i64 N, s]⟩, ⟨0, [.int .i64 0, .slice none 0 0]⟩]) ++ [⟨1, ints (tbl N f)⟩, ⟨0, [.int .i64 N, .slice (some ⟨h.length + 2, 0, none⟩) N N]⟩]

theorem l_l01Complement (h : VH) (N : Nat) (s : Value) (rows : List Int) (hs : Sli h s rows) (g : GV N rows) (hn : nro ≤ h.length) :
    floop (vcall F nro) nro [1, 2, 3, 4] i_spec_l01Complement_B1 (cpH h N s (fun _ => 0)) [.pointer (some ⟨h.length, 0, some 2⟩), .pointer (some ⟨h.length + 1, 0, some 2⟩), .pointer (some ⟨h.length + 3, 0, some 2⟩), .int .i64 0] (cpH h N s (fun _ => 0)) =
      some (.exit 0, fl [(2, .pointer (some ⟨h.length + 1, 0, some 2⟩)), (3, .pointer (some ⟨h.length + 3, 0, some 2⟩))], cpH h N s (cmpG rows N)) := by
  have hle := g.rok.le
  have R := g.rok
  have hlen := R.len
  have hgl := g.len
  have hso := fun k => hs.oldCk (k := k)
  have hn' := fun k => Nat.le_trans hn (Nat.le_add_right h.length k)
  refine Exists.elim (for_upR (call := vcall F nro) (nro := nro) (live := [1, 2, 3, 4]) (c := i_spec_l01Complement_B1) (h0 := cpH h N s (fun _ => 0)) (n := N) (fun v (_ : Nat → Int) => [.pointer (some ⟨h.length, 0, some 2⟩), .pointer (some ⟨h.length + 1, 0, some 2⟩), .pointer (some ⟨h.length + 3, 0, some 2⟩), .int .i64 v]) (fun _ f => cpH h N s f)
    (fun v f => ∀ w, w < v → f w = cmpG rows N w) (fun f => some (.exit 0, fl [(2, .pointer (some ⟨h.length + 1, 0, some 2⟩)), (3, .pointer (some ⟨h.length + 3, 0, some 2⟩))], cpH h N s f)) ?_ ?_ 0 (fun _ => 0) (Nat.zero_le _) (fun w hw => by omega)) ?_
  · intro v f hv hv2 hf
    have hb : (rows.getD v 0).toNat.testBit v = false := (g.row v (by omega)).2.2
    obtain ⟨r1, r2⟩ := R.row v hv
    obtain ⟨c1, c2⟩ := cmpR_le r2 hv hb
    have w1 : IntKind.i64.wrap ((v : Int) + 1) = (v : Int) + 1 := wrap64 (by omega) (by omega)
    have e1 := fun L => hs.vidx' (L := L) (k := .i64) (j := (v : Int)) (by omega) (by omega)
    have e2 := fun L => hs.vload' (L := L) (j := v) (by omega)
    have ex : rows[v]'(by omega) = rows.getD v 0 := (getD_at rows (by omega)).symm
    simp only [ex] at e2
    obtain ⟨x, hx⟩ : ∃ x : Nat, rows.getD v 0 = x := ⟨(rows.getD v 0).toNat, by omega⟩
    have hg : cmpG rows N v = cmpR N x v := by unfold cmpG; rw [hx, Int.toNat_natCast]
    rw [hx] at e2 r2 hb
    rw [hx, Int.toNat_natCast] at c1 c2
    rw [Int.toNat_natCast] at r2
    have p62 : 2 ^ N ≤ 4611686018427387904 := by
      have := Nat.pow_le_pow_right (show 0 < 2 by omega) hle
      exact Nat.le_trans this (by decide)
    have s1 : ishl .i64 1 (N : Int) = ((2 ^ N : Nat) : Int) := by rw [ishl_one' (by omega) (by omega), Int.toNat_natCast]; simp
    have s2 : ishl .i64 1 (v : Int) = ((2 ^ v : Nat) : Int) := by rw [ishl_one' (by omega) (by omega), Int.toNat_natCast]; simp
    have u1 : IntKind.u64.wrap (N : Int) = N := wrapu64 (by omega) (by omega)
    have u2 : IntKind.u64.wrap (v : Int) = v := wrapu64 (by omega) (by omega)
    unfold cmpR at hg c2
    obtain ⟨A, hA⟩ : ∃ A, A = 2 ^ N := ⟨_, rfl⟩
    obtain ⟨B, hB⟩ : ∃ B, B = 2 ^ v := ⟨_, rfl⟩
    rw [← hA] at s1 r2 c1 c2 p62 hg
    rw [← hB] at s2 c1 c2 hg
    have t1 : IntKind.i64.wrap ((A : Int) - 1) = (A : Int) - 1 := wrap64 (by omega) (by omega)
    have t2 : IntKind.i64.wrap ((A : Int) - 1 - x) = (A : Int) - 1 - x := wrap64 (by omega) (by omega)
    have t3 : IntKind.i64.wrap ((A : Int) - 1 - x - B) = cmpG rows N v := by rw [hg, wrap64 (by omega) (by omega)]; omega
    obtain ⟨y, hy⟩ : ∃ y, y = cmpG rows N v := ⟨_, rfl⟩
    rw [← hy] at t3
    have hsp : splice v [.int .i64 y] (ints (tbl N f)) = ints (tbl N (upd f v y)) := tbl_splice hv
    have hcl := fun (r : List Int) (vs : List Value) => mk_clean (P := h ++ [⟨0, [.int .i64 N, s]⟩, ⟨0, [.int .i64 0, .slice none 0 0]⟩]) (C := [⟨0, [.int .i64 N, .slice (some ⟨h.length + 2, 0, none⟩) N N]⟩]) (r0 := tbl N fun _ => 0) (r1 := r) (vs := vs)
    refine ⟨upd f v y, fun w hw => ?_, ?_⟩
    · by_cases e : w = v
      · rw [e, upd_same, hy]
      · rw [upd_ne e]; exact hf w (by omega)
    · unfold cpH
      simp only [List.append_assoc, List.cons_append, List.nil_append, List.length_append, List.length_cons, List.length_nil] at hcl ⊢
      clear hg hA hB hy hx g R hf hb r1 r2 c1 c2 p62 ex hlen hgl
      rw [floop_at i_spec_l01Complement_B1.eq_1]
      simp (disch := first | assumption | omega | (simp [*] <;> omega) | fail) [hv, hv2, e1, e2, s1, s2, u1, u2, t1, t2, t3, w1, hsp, hcl, hso, hn', hn]
  · intro f _
    unfold cpH
    rw [floop_at i_spec_l01Complement_B1.eq_1]
    simp (disch := first | assumption | omega | (simp [*] <;> omega) | fail) [hso]
  · rintro f ⟨hf, e⟩
    refine Eq.trans e ?_
    have : tbl N f = tbl N (cmpG rows N) := tbl_congr hf
    unfold cpH
    rw [this]

/-- The complement. -/
theorem c_spec_l01Complement (h : VH) (N : Nat) (s : Value) (rows : List Int) (hs : Sli h s rows) (g : GV N rows) (hn : nro ≤ h.length) :
    vcall F nro k_spec_l01Complement [gv N s] h = some (gv N (.slice (some ⟨h.length, 0, none⟩) N N), h ++ [⟨1, ints (tbl N (cmpG rows N))⟩]) := by
  have hn' := fun k => Nat.le_trans hn (Nat.le_add_right h.length k)
  have hle := g.rok.le
  have hlo := g.lo
  have hso := fun k => hs.oldCk (k := k)
  have he := c_spec_l01Empty (nro := nro) N (h ++ [⟨0, [.int .i64 N, s]⟩, ⟨0, [.int .i64 0, .slice none 0 0]⟩]) (by omega) (by omega) (by simp; omega)
  rw [Int.toNat_natCast, ← tbl_const] at he
  have lp := l_l01Complement (nro := nro) h N s rows hs g hn
  refine v_spec_l01Complement (by simp [i_spec_l01Complement]) ?_
  rw [fbody_eq]
  simp only [List.append_assoc, List.cons_append, List.nil_append, List.length_append, List.length_cons, List.length_nil] at he
  unfold cpH at lp
  simp only [List.append_assoc, List.cons_append, List.nil_append] at lp
  clear g
  simp (disch := first | assumption | omega | (simp [*] <;> omega) | fail) [i_spec_l01Complement, he, lp, hso, fresults, fresL, fres1, hn', hn]
end Go.Proofs.YtghondlbkjponaaDoor.Zv

/- Two graphs beside each other. -/
namespace Go.Proofs.YtghondlbkjponaaDoor.Zv
open Go
variable {nro : Nat}

/-- The rows of two graphs beside each other, the first v of the second one. -/
def bsR (r1 r2 : List Int) (n : Nat) (v : Nat) : List Int := r1 ++ tbl v (fun w => ((r2.getD w 0).toNat * 2 ^ n : Nat))
theorem bsR_len (r1 r2 : List Int) (n v : Nat) : (bsR r1 r2 n v).length = r1.length + v := by simp [bsR]
theorem bsR_next (r1 r2 : List Int) (n v : Nat) : ints (bsR r1 r2 n v) ++ [.int .i64 (((r2.getD v 0).toNat * 2 ^ n : Nat) : Int)] = ints (bsR r1 r2 n (v + 1)) := by
  unfold bsR
  rw [← tbl_snoc, ← List.append_assoc]
  simp [ints]
theorem GV.beside {n m : Nat} {r1 r2 : List Int} (g1 : GV n r1) (g2 : GV m r2) (h : n + m ≤ 62) : GV (n + m : Nat) (bsR r1 r2 n m) := by
  have R1 := g1.rok
  have R2 := g2.rok
  have l1 := R1.len
  have l2 := R2.len
  have lo := g1.lo
  have at1 : ∀ v, v < n → (bsR r1 r2 n m).getD v 0 = r1.getD v 0 := fun v hv => by
    unfold bsR
    rw [List.getD_eq_getElem?_getD, List.getElem?_append_left (by omega), List.getD_eq_getElem?_getD]
  have at2 : ∀ v, v < m → (bsR r1 r2 n m).getD (n + v) 0 = (((r2.getD v 0).toNat * 2 ^ n : Nat) : Int) := fun v hv => by
    unfold bsR
    rw [List.getD_eq_getElem?_getD, List.getElem?_append_right (by omega), l1, Nat.add_sub_cancel_left, ← List.getD_eq_getElem?_getD, tbl_getD hv]
  have b1 : ∀ v w, v < n → rbit (bsR r1 r2 n m) v w = rbit r1 v w := fun v w hv => by unfold rbit; rw [at1 v hv]
  have b2 : ∀ v w, v < m → rbit (bsR r1 r2 n m) (n + v) w = (decide (n ≤ w) && rbit r2 v (w - n)) := fun v w hv => by
    unfold rbit
    rw [at2 v hv, Int.toNat_natCast, Nat.testBit_mul_two_pow]
  have z1 : ∀ v w, n ≤ w → rbit r1 v w = false := fun v w hw => by
    cases hb : rbit r1 v w
    · rfl
    · have := (rbit_lt R1 hb).2; omega
  have p : ∀ k : Nat, ((2 ^ k : Nat) : Int) = (2 : Int) ^ ((k : Int).toNat) := fun k => by simp
  refine ⟨by omega, by omega, by rw [bsR_len, l1], fun v hv => ?_, fun v w hv hw => ?_⟩
  · rw [bsR_len, l1] at hv
    by_cases c : v < n
    · obtain ⟨a1, a2, a3⟩ := g1.row v (by omega)
      refine ⟨by rw [at1 v c]; exact a1, ?_, by rw [b1 v v c]; exact a3⟩
      rw [at1 v c]
      have := (R1.row v c).2
      have h3 := Nat.pow_le_pow_right (show 0 < 2 by omega) (show n ≤ n + m by omega)
      rw [← p]; omega
    · obtain ⟨u, rfl⟩ : ∃ u, v = n + u := ⟨v - n, by omega⟩
      have hu : u < m := by omega
      refine ⟨by rw [at2 u hu]; omega, ?_, ?_⟩
      · rw [at2 u hu, ← p]
        have := (R2.row u hu).2
        have h3 : (r2.getD u 0).toNat * 2 ^ n < 2 ^ m * 2 ^ n := Nat.mul_lt_mul_of_pos_right this (Nat.two_pow_pos n)
        rw [← Nat.pow_add, Nat.add_comm m n] at h3
        omega
      · rw [b2 u _ hu, Nat.add_sub_cancel_left, (g2.row u (by omega)).2.2, Bool.and_false]
  · rw [bsR_len, l1] at hv hw
    by_cases c : v < n <;> by_cases e : w < n
    · rw [b1 v w c, b1 w v e, g1.sym v w (by omega) (by omega)]
    · obtain ⟨u, rfl⟩ : ∃ u, w = n + u := ⟨w - n, by omega⟩
      rw [b1 v _ c, b2 u v (by omega), z1 v _ (by omega)]
      simp; omega
    · obtain ⟨u, rfl⟩ : ∃ u, v = n + u := ⟨v - n, by omega⟩
      rw [b1 w _ e, b2 u w (by omega), z1 w _ (by omega)]
      simp; omega
    · obtain ⟨u, rfl⟩ : ∃ u, v = n + u := ⟨v - n, by omega⟩
      obtain ⟨u', rfl⟩ : ∃ u, w = n + u := ⟨w - n, by omega⟩
      rw [b2 u _ (by omega), b2 u' _ (by omega), Nat.add_sub_cancel_left, Nat.add_sub_cancel_left, g2.sym u u' (by omega) (by omega)]
      simp

/-- The heap while two graphs are put together. -/
def bsH (h : VH) (n m : Nat) (s1 s2 : Value) (r1 r2 : List Int) (v : Nat) : VH := h ++ [⟨0, [.int .i64 n, s1]⟩, ⟨0, [.int .i64 m, s2]⟩, ⟨0, [.int .i64 0, .slice none 0 0]⟩, ⟨1, ints (bsR r1 r2 n v)⟩, ⟨0, [.int .i64 ((n : Int) + m), .slice (some ⟨h.length + 3, 0, none⟩) (n + v) (n + v)]⟩]
theorem bs_upd (h : VH) (n m : Nat) (s1 s2 : Value) (r1 r2 : List Int) (v w : Nat) : Upd (bsH h n m s1 s2 r1 r2 v) (bsH h n m s1 s2 r1 r2 w) := by
  have h1 := ((Upd.rfl' (bsH h n m s1 s2 r1 r2 v)).set' (b := h.length + 3) (o := ⟨1, ints (bsR r1 r2 n w)⟩) (flatO_ints _ _ _)).set' (b := h.length + 4) (o := ⟨0, [.int .i64 ((n : Int) + m), .slice (some ⟨h.length + 3, 0, none⟩) (n + w) (n + w)]⟩) (by
    intro r hr
    simp [orefs, crefs, arefs] at hr
    simp [bsH]; omega)
  unfold bsH at *
  rw [hsetk, hsetk] at h1
  exact h1

theorem l_l01Beside (h : VH) (n m : Nat) (s1 s2 : Value) (r1 r2 : List Int) (hs1 : Sli h s1 r1) (hs2 : Sli h s2 r2) (g1 : GV n r1) (g2 : GV m r2) (h62 : n + m ≤ 62) (hn : nro ≤ h.length) :
    floop (vcall F nro) nro [2, 3, 4, 5, 6] i_spec_l01Beside_B1 (bsH h n m s1 s2 r1 r2 0) [.pointer (some ⟨h.length, 0, some 2⟩), .pointer (some ⟨h.length + 1, 0, some 2⟩), .pointer (some ⟨h.length + 2, 0, some 2⟩), .pointer (some ⟨h.length + 4, 0, some 2⟩), .int .i64 0] (bsH h n m s1 s2 r1 r2 0) =
      some (.exit 0, fl [(4, .pointer (some ⟨h.length + 2, 0, some 2⟩)), (5, .pointer (some ⟨h.length + 4, 0, some 2⟩))], bsH h n m s1 s2 r1 r2 m) := by
  have R1 := g1.rok
  have R2 := g2.rok
  have l1 := R1.len
  have l2 := R2.len
  have hso1 := fun k => hs1.oldCk (k := k)
  have hso2 := fun k => hs2.oldCk (k := k)
  have hn' := fun k => Nat.le_trans hn (Nat.le_add_right h.length k)
  refine (for_up (call := vcall F nro) (nro := nro) (live := [2, 3, 4, 5, 6]) (c := i_spec_l01Beside_B1) (h0 := bsH h n m s1 s2 r1 r2 0) (n := m) (fun v (_ : Unit) => [.pointer (some ⟨h.length, 0, some 2⟩), .pointer (some ⟨h.length + 1, 0, some 2⟩), .pointer (some ⟨h.length + 2, 0, some 2⟩), .pointer (some ⟨h.length + 4, 0, some 2⟩), .int .i64 v]) (fun v _ => bsH h n m s1 s2 r1 r2 v) (fun _ u => u)
    (fun _ _ => True) (fun _ => some (.exit 0, fl [(4, .pointer (some ⟨h.length + 2, 0, some 2⟩)), (5, .pointer (some ⟨h.length + 4, 0, some 2⟩))], bsH h n m s1 s2 r1 r2 m)) ?_ ?_ 0 () (Nat.zero_le _) trivial).1
  · intro v _ hv hv2 _
    refine ⟨trivial, ?_⟩
    have w1 : IntKind.i64.wrap ((v : Int) + 1) = (v : Int) + 1 := wrap64 (by omega) (by omega)
    have e1 := fun L => hs2.vidx' (L := L) (k := .i64) (j := (v : Int)) (by omega) (by omega)
    have e2 := fun L => hs2.vload' (L := L) (j := v) (by omega)
    have ex : r2[v]'(by omega) = r2.getD v 0 := (getD_at r2 (by omega)).symm
    simp only [ex] at e2
    obtain ⟨q1, q2⟩ := R2.row v hv
    obtain ⟨x, hx⟩ : ∃ x : Nat, r2.getD v 0 = x := ⟨(r2.getD v 0).toNat, by omega⟩
    have hnx := bsR_next r1 r2 n v
    rw [hx, Int.toNat_natCast] at hnx q2
    rw [hx] at e2
    have hlt : x * 2 ^ n < 4611686018427387904 := by
      have h3 : x * 2 ^ n < 2 ^ m * 2 ^ n := Nat.mul_lt_mul_of_pos_right q2 (Nat.two_pow_pos n)
      rw [← Nat.pow_add] at h3
      have h4 := Nat.pow_le_pow_right (show 0 < 2 by omega) (show m + n ≤ 62 by omega)
      exact Nat.lt_of_lt_of_le h3 (Nat.le_trans h4 (by decide))
    have sh : ishl .i64 (x : Int) (n : Int) = ((x * 2 ^ n : Nat) : Int) := by
      rw [ishl_eq]
      have e : min ((n : Int).toNat) IntKind.i64.bits = n := by
        have : IntKind.i64.bits = 64 := rfl
        rw [this]; omega
      rw [e]
      have e2 : (x : Int) * 2 ^ n = ((x * 2 ^ n : Nat) : Int) := by simp
      rw [e2]
      exact wrap64 (by omega) (by omega)
    have u1 : IntKind.u64.wrap (n : Int) = n := wrapu64 (by omega) (by omega)
    have hbl := bsR_len r1 r2 n v
    have hbl2 := bsR_len r1 r2 n (v + 1)
    rw [l1] at hbl hbl2
    obtain ⟨y, hy⟩ : ∃ y, y = x * 2 ^ n := ⟨_, rfl⟩
    rw [← hy] at sh hnx
    have hcl := fun (L : VH) (vs : List Value) => cleanup_upd (bs_upd h n m s1 s2 r1 r2 0 (v + 1)) (L := L) (vs := vs)
    have ea : n + (v + 1) = n + v + 1 := rfl
    have c1 : ((n + v + 1) * 8 ≤ 1099511627776) = True := by simp; omega
    have c2 : (n + v < 1099511627776) = True := by simp; omega
    unfold bsH at hcl ⊢
    obtain ⟨Q, hQ⟩ : ∃ Q, Q = bsR r1 r2 n v := ⟨_, rfl⟩
    obtain ⟨Q2, hQ2⟩ : ∃ Q, Q = bsR r1 r2 n (v + 1) := ⟨_, rfl⟩
    rw [← hQ] at hnx hbl ⊢
    rw [← hQ2] at hnx hcl hbl2 ⊢
    clear hQ hQ2 hx hy hlt ex R1 R2 g1 g2 q1 q2 l1 l2
    rw [floop_at i_spec_l01Beside_B1.eq_1]
    simp (disch := first | assumption | omega | (simp [*] <;> omega) | fail) [hv, hv2, e1, e2, sh, u1, w1, hnx, hbl, hbl2, hcl, c1, c2, hso1, hso2, hn', hn, ea]
  · intro _ _
    unfold bsH
    rw [floop_at i_spec_l01Beside_B1.eq_1]
    simp (disch := first | assumption | omega | (simp [*] <;> omega) | fail) [hso1, hso2]

/-- Two graphs beside each other. -/
theorem c_spec_l01Beside (h : VH) (n m : Nat) (s1 s2 : Value) (r1 r2 : List Int) (hs1 : Sli h s1 r1) (hs2 : Sli h s2 r2) (g1 : GV n r1) (g2 : GV m r2) (h62 : n + m ≤ 62) (hn : nro ≤ h.length) :
    vcall F nro k_spec_l01Beside [gv n s1, gv m s2] h = some (gv ((n : Int) + m) (.slice (some ⟨h.length, 0, none⟩) (n + m) (n + m)), h ++ [⟨1, ints (bsR r1 r2 n m)⟩]) := by
  have hn' := fun k => Nat.le_trans hn (Nat.le_add_right h.length k)
  have l1 := g1.rok.len
  have hso1 := fun k => hs1.oldCk (k := k)
  have hso2 := fun k => hs2.oldCk (k := k)
  have he := c_spec_l01Own (nro := nro) s1 r1 (h ++ [⟨0, [.int .i64 n, s1]⟩, ⟨0, [.int .i64 m, s2]⟩, ⟨0, [.int .i64 0, .slice none 0 0]⟩]) (hs1.app _) (by omega) (by simp; omega)
  have lp := l_l01Beside (nro := nro) h n m s1 s2 r1 r2 hs1 hs2 g1 g2 h62 hn
  have e0 : bsR r1 r2 n 0 = r1 := by simp [bsR, tbl]
  have hl := bsR_len r1 r2 n m
  have w1 : IntKind.i64.wrap ((n : Int) + m) = (n : Int) + m := wrap64 (by omega) (by omega)
  refine v_spec_l01Beside (by simp [i_spec_l01Beside]) ?_
  rw [fbody_eq]
  rw [l1] at he hl
  simp only [List.append_assoc, List.cons_append, List.nil_append, List.length_append, List.length_cons, List.length_nil] at he
  unfold bsH at lp
  rw [e0] at lp
  simp only [Nat.add_zero] at lp
  obtain ⟨Q, hQ⟩ : ∃ Q, Q = bsR r1 r2 n m := ⟨_, rfl⟩
  rw [← hQ] at lp hl ⊢
  clear hQ g1 g2 e0 l1
  simp (disch := first | assumption | omega | (simp [*] <;> omega) | fail) [i_spec_l01Beside, he, lp, hl, w1, hso1, hso2, fresults, fresL, fres1, hn', hn]
end Go.Proofs.YtghondlbkjponaaDoor.Zv

/- Graphs with names: each of the fifteen is a graph. -/
namespace Go.Proofs.YtghondlbkjponaaDoor.Zv
open Go
variable {nro : Nat}

theorem GV.put2I {n : Int} {r : List Int} (g : GV n r) {a b : Int} (ha : 0 ≤ a) (ha2 : a < n) (hb : 0 ≤ b) (hb2 : b < n) (hne : a ≠ b) : GV n (Zv.put2 r a b) := by
  obtain ⟨v, rfl⟩ : ∃ v : Nat, a = v := ⟨a.toNat, by omega⟩
  obtain ⟨w, rfl⟩ : ∃ w : Nat, b = w := ⟨b.toNat, by omega⟩
  obtain ⟨N, rfl⟩ : ∃ N : Nat, n = N := ⟨n.toNat, by omega⟩
  exact g.put2 (by omega) (by omega) (by omega)

/-- A graph in the making among the places of l01Named. -/
def nmH (h : VH) (N : Nat) (r : List Int) : VH := h ++ [⟨0, [.int .i64 0, .slice none 0 0]⟩, ⟨1, ints r⟩, ⟨0, [.int .i64 N, .slice (some ⟨h.length + 1, 0, none⟩) N N]⟩]
theorem nm_put {h : VH} {N : Nat} {r : List Int} (hn : nro ≤ h.length) (hN : N ≤ 62) (v w : Int) (hl : r.length = N) (hv0 : 0 ≤ v) (hv : v < N) (hw0 : 0 ≤ w) (hw : w < N) :
    vcall F nro k_spec_l01Put [gv N (.slice (some ⟨h.length + 1, 0, none⟩) N N), .int .i64 v, .int .i64 w] (nmH h N r) = some (.tuple #[], nmH h N (put2 r v w)) := by
  obtain ⟨a, rfl⟩ : ∃ a : Nat, v = a := ⟨v.toNat, by omega⟩
  obtain ⟨b, rfl⟩ : ∃ b : Nat, w = b := ⟨w.toNat, by omega⟩
  have e := mk_put (nro := nro) (P := h ++ [⟨0, [.int .i64 0, .slice none 0 0]⟩]) (C := [⟨0, [.int .i64 N, .slice (some ⟨h.length + 1, 0, none⟩) N N]⟩]) (by simp; omega) hl hN a b (by omega) (by omega)
  unfold nmH
  simpa using e
theorem nm_clean {h : VH} {N : Nat} {r0 r1 : List Int} {vs : List Value} (hv : ∀ v ∈ vs, Old (h.length + 3) v) : kclean (nmH h N r0) vs (nmH h N r1) = (vs, nmH h N r1) := by
  have e := mk_clean (P := h ++ [⟨0, [.int .i64 0, .slice none 0 0]⟩]) (C := [⟨0, [.int .i64 N, .slice (some ⟨h.length + 1, 0, none⟩) N N]⟩]) (r0 := r0) (r1 := r1) (vs := vs) (by simpa using hv)
  unfold nmH
  simpa using e
theorem nm_get0 (h : VH) (N : Nat) (r : List Int) : (nmH h N r)[h.length]? = some ⟨0, [.int .i64 0, .slice none 0 0]⟩ := by simp [nmH]
theorem nm_get2 (h : VH) (N : Nat) (r : List Int) : (nmH h N r)[h.length + 2]? = some ⟨0, [.int .i64 N, .slice (some ⟨h.length + 1, 0, none⟩) N N]⟩ := by simp [nmH]
theorem nm_len (h : VH) (N : Nat) (r : List Int) : (nmH h N r).length = h.length + 3 := by simp [nmH]

noncomputable def f3 (i : Nat) (r : List Int) : List Int := put2 (put2 (put2 r i ((i + 1) % 5 : Nat)) i (i + 5 : Nat)) (i + 5 : Nat) ((i + 2) % 5 + 5 : Nat)
theorem l_l01Named_3 (h : VH) (hn : nro ≤ h.length) (r0 : List Int) (g0 : GV 10 r0) :
    ∃ r1, GV 10 r1 ∧ floop (vcall F nro) nro [2, 8, 9] i_spec_l01Named_B3 (nmH h 10 r0) [.pointer (some ⟨h.length, 0, some 2⟩), .pointer (some ⟨h.length + 2, 0, some 2⟩), .int .i64 0] (nmH h 10 r0) =
      some (.exit 5, fl [(2, .pointer (some ⟨h.length, 0, some 2⟩)), (8, .pointer (some ⟨h.length + 2, 0, some 2⟩))], nmH h 10 r1) := by
  have hp := fun r v w => nm_put (nro := nro) (h := h) (N := 10) (r := r) hn (by omega) v w
  simp only [gv, Int.cast_ofNat_Int] at hp
  refine Exists.elim (for_upR (call := vcall F nro) (nro := nro) (live := [2, 8, 9]) (c := i_spec_l01Named_B3) (h0 := nmH h 10 r0) (n := 5) (fun i (_ : List Int) => [.pointer (some ⟨h.length, 0, some 2⟩), .pointer (some ⟨h.length + 2, 0, some 2⟩), .int .i64 i]) (fun _ r => nmH h 10 r)
    (fun _ r => GV 10 r) (fun r => some (.exit 5, fl [(2, .pointer (some ⟨h.length, 0, some 2⟩)), (8, .pointer (some ⟨h.length + 2, 0, some 2⟩))], nmH h 10 r)) ?_ ?_ 0 r0 (Nat.zero_le _) g0) ?_
  · intro i r1 hi hi2 g1
    have hl := g1.rok.len
    clear hi2 g0
    have g2 : GV 10 (f3 i r1) := by
      unfold f3
      have : i = 0 ∨ i = 1 ∨ i = 2 ∨ i = 3 ∨ i = 4 := by omega
      rcases this with rfl | rfl | rfl | rfl | rfl <;> exact ((g1.put2I (by decide) (by decide) (by decide) (by decide) (by decide)).put2I (by decide) (by decide) (by decide) (by decide) (by decide)).put2I (by decide) (by decide) (by decide) (by decide) (by decide)
    refine ⟨f3 i r1, g2, ?_⟩
    clear g1 g2
    unfold f3
    have : i = 0 ∨ i = 1 ∨ i = 2 ∨ i = 3 ∨ i = 4 := by omega
    clear hi
    rw [floop_at i_spec_l01Named_B3.eq_1]
    rcases this with rfl | rfl | rfl | rfl | rfl <;> simp (disch := first | assumption | omega | (simp [*] <;> omega) | fail) [-getElem?_pos, List.getElem?_cons_zero, List.getElem?_cons_succ, hp, hl, nm_get0, nm_get2, nm_clean, nm_len, wrap64]
  · intro r1 _
    rw [floop_at i_spec_l01Named_B3.eq_1]
    simp (disch := first | assumption | omega | (simp [*] <;> omega) | fail) [-getElem?_pos, List.getElem?_cons_zero, List.getElem?_cons_succ, nm_clean, nm_len]
  · rintro r1 ⟨g1, hf⟩
    exact ⟨r1, g1, hf⟩

noncomputable def f4 (i : Nat) (r : List Int) : List Int :=
  put2 (put2 (put2 (put2 (put2 (put2 r 0 (1 + i : Nat)) 11 (6 + i : Nat)) (1 + i : Nat) (1 + (i + 1) % 5 : Nat)) (6 + i : Nat) (6 + (i + 1) % 5 : Nat)) (1 + i : Nat) (6 + i : Nat)) (1 + i : Nat) (6 + (i + 1) % 5 : Nat)
theorem l_l01Named_4 (h : VH) (hn : nro ≤ h.length) (r0 : List Int) (g0 : GV 12 r0) :
    ∃ r1, GV 12 r1 ∧ floop (vcall F nro) nro [2, 10, 11] i_spec_l01Named_B4 (nmH h 12 r0) [.pointer (some ⟨h.length, 0, some 2⟩), .pointer (some ⟨h.length + 2, 0, some 2⟩), .int .i64 0] (nmH h 12 r0) =
      some (.exit 7, fl [(2, .pointer (some ⟨h.length, 0, some 2⟩)), (10, .pointer (some ⟨h.length + 2, 0, some 2⟩))], nmH h 12 r1) := by
  have hp := fun r v w => nm_put (nro := nro) (h := h) (N := 12) (r := r) hn (by omega) v w
  simp only [gv, Int.cast_ofNat_Int] at hp
  refine Exists.elim (for_upR (call := vcall F nro) (nro := nro) (live := [2, 10, 11]) (c := i_spec_l01Named_B4) (h0 := nmH h 12 r0) (n := 5) (fun i (_ : List Int) => [.pointer (some ⟨h.length, 0, some 2⟩), .pointer (some ⟨h.length + 2, 0, some 2⟩), .int .i64 i]) (fun _ r => nmH h 12 r)
    (fun _ r => GV 12 r) (fun r => some (.exit 7, fl [(2, .pointer (some ⟨h.length, 0, some 2⟩)), (10, .pointer (some ⟨h.length + 2, 0, some 2⟩))], nmH h 12 r)) ?_ ?_ 0 r0 (Nat.zero_le _) g0) ?_
  · intro i r1 hi hi2 g1
    have hl := g1.rok.len
    clear hi2 g0
    have g2 : GV 12 (f4 i r1) := by
      unfold f4
      have : i = 0 ∨ i = 1 ∨ i = 2 ∨ i = 3 ∨ i = 4 := by omega
      rcases this with rfl | rfl | rfl | rfl | rfl <;> exact (((((g1.put2I (by decide) (by decide) (by decide) (by decide) (by decide)).put2I (by decide) (by decide) (by decide) (by decide) (by decide)).put2I (by decide) (by decide) (by decide) (by decide) (by decide)).put2I (by decide) (by decide) (by decide) (by decide) (by decide)).put2I (by decide) (by decide) (by decide) (by decide) (by decide)).put2I (by decide) (by decide) (by decide) (by decide) (by decide)
    refine ⟨f4 i r1, g2, ?_⟩
    clear g1 g2
    unfold f4
    have : i = 0 ∨ i = 1 ∨ i = 2 ∨ i = 3 ∨ i = 4 := by omega
    clear hi
    rw [floop_at i_spec_l01Named_B4.eq_1]
    rcases this with rfl | rfl | rfl | rfl | rfl <;> simp (disch := first | assumption | omega | (simp [*] <;> omega) | fail) [-getElem?_pos, List.getElem?_cons_zero, List.getElem?_cons_succ, hp, hl, nm_get0, nm_get2, nm_clean, nm_len, wrap64]
  · intro r1 _
    rw [floop_at i_spec_l01Named_B4.eq_1]
    simp (disch := first | assumption | omega | (simp [*] <;> omega) | fail) [-getElem?_pos, List.getElem?_cons_zero, List.getElem?_cons_succ, nm_clean, nm_len]
  · rintro r1 ⟨g1, hf⟩
    exact ⟨r1, g1, hf⟩

/-! ### cube and Clebsch -/
theorem l_l01Named_1 (h : VH) (hn : nro ≤ h.length) (n : Nat) (hn2 : n = 8 ∨ n = 16) (v : Nat) (hv : v < n) (r0 : List Int) (g0 : GV n r0) :
    ∃ r1, GV n r1 ∧ floop (vcall F nro) nro [2, 4, 5, 6, 7] i_spec_l01Named_B1 (nmH h n r0) [.pointer (some ⟨h.length, 0, some 2⟩), .int .i64 n, .pointer (some ⟨h.length + 2, 0, some 2⟩), .int .i64 v, .int .i64 1] (nmH h n r0) =
      some (.exit 3, fl [(2, .pointer (some ⟨h.length, 0, some 2⟩)), (4, .int .i64 n), (5, .pointer (some ⟨h.length + 2, 0, some 2⟩)), (6, .int .i64 v)], nmH h n r1) := by
  have hp := fun r v w => nm_put (nro := nro) (h := h) (N := n) (r := r) hn (by omega) v w
  have step : ∀ (k : Nat) (r : List Int), 1 ≤ k → k < n → GV n r → ∃ r1, GV n r1 ∧ floop (vcall F nro) nro [2, 4, 5, 6, 7] i_spec_l01Named_B1 (nmH h n r0) [.pointer (some ⟨h.length, 0, some 2⟩), .int .i64 n, .pointer (some ⟨h.length + 2, 0, some 2⟩), .int .i64 v, .int .i64 k] (nmH h n r) =
      floop (vcall F nro) nro [2, 4, 5, 6, 7] i_spec_l01Named_B1 (nmH h n r0) [.pointer (some ⟨h.length, 0, some 2⟩), .int .i64 n, .pointer (some ⟨h.length + 2, 0, some 2⟩), .int .i64 v, .int .i64 (2 * k : Nat)] (nmH h n r1) := by
    intro k r hk1 hk g
    have hx : v ^^^ k < n := by
      rcases hn2 with rfl | rfl
      · exact Nat.xor_lt_two_pow (n := 3) hv hk
      · exact Nat.xor_lt_two_pow (n := 4) hv hk
    have hne : v ≠ v ^^^ k := by
      intro e
      have : v ^^^ (v ^^^ k) = 0 := by rw [← e, Nat.xor_self]
      rw [← Nat.xor_assoc, Nat.xor_self, Nat.zero_xor] at this
      omega
    have e1 := ixor_nat (a := v) (b := k) (by omega) (by omega)
    have hl := g.rok.len
    have g2 := g.put2 hv hx hne
    obtain ⟨x, hx2⟩ : ∃ x, x = v ^^^ k := ⟨_, rfl⟩
    rw [← hx2] at e1 hx g2
    refine ⟨put2 r v x, g2, ?_⟩
    have w1 : IntKind.i64.wrap (2 * (k : Int)) = 2 * (k : Int) := wrap64 (by omega) (by omega)
    clear g g2 hne hx2 g0
    rw [floop_at i_spec_l01Named_B1.eq_1]
    simp (disch := first | assumption | omega | (simp [*] <;> omega) | fail) [-getElem?_pos, List.getElem?_cons_zero, List.getElem?_cons_succ, hp, hl, hk, nm_get0, nm_get2, nm_clean, nm_len, e1, w1]
  have stop : ∀ r, floop (vcall F nro) nro [2, 4, 5, 6, 7] i_spec_l01Named_B1 (nmH h n r0) [.pointer (some ⟨h.length, 0, some 2⟩), .int .i64 n, .pointer (some ⟨h.length + 2, 0, some 2⟩), .int .i64 v, .int .i64 n] (nmH h n r) =
      some (.exit 3, fl [(2, .pointer (some ⟨h.length, 0, some 2⟩)), (4, .int .i64 n), (5, .pointer (some ⟨h.length + 2, 0, some 2⟩)), (6, .int .i64 v)], nmH h n r) := by
    intro r
    rw [floop_at i_spec_l01Named_B1.eq_1]
    simp (disch := first | assumption | omega | (simp [*] <;> omega) | fail) [-getElem?_pos, List.getElem?_cons_zero, List.getElem?_cons_succ, nm_clean, nm_len]
  obtain ⟨r1, g1, e1⟩ := step 1 r0 (by omega) (by omega) g0
  obtain ⟨r2, g2, e2⟩ := step 2 r1 (by omega) (by omega) g1
  obtain ⟨r3, g3, e3⟩ := step 4 r2 (by omega) (by omega) g2
  have f1 : floop (vcall F nro) nro [2, 4, 5, 6, 7] i_spec_l01Named_B1 (nmH h n r0) [.pointer (some ⟨h.length, 0, some 2⟩), .int .i64 n, .pointer (some ⟨h.length + 2, 0, some 2⟩), .int .i64 v, .int .i64 1] (nmH h n r0) = floop (vcall F nro) nro [2, 4, 5, 6, 7] i_spec_l01Named_B1 (nmH h n r0) [.pointer (some ⟨h.length, 0, some 2⟩), .int .i64 n, .pointer (some ⟨h.length + 2, 0, some 2⟩), .int .i64 v, .int .i64 (8 : Nat)] (nmH h n r3) := e1.trans (e2.trans e3)
  by_cases c : n = 8
  · subst c
    exact ⟨r3, g3, f1.trans (stop r3)⟩
  · have c2 : n = 16 := by omega
    subst c2
    obtain ⟨r4, g4, e4⟩ := step 8 r3 (by omega) (by omega) g3
    exact ⟨r4, g4, f1.trans (e4.trans (stop r4))⟩

theorem l_l01Named_2 (h : VH) (hn : nro ≤ h.length) (n : Nat) (hn2 : n = 8 ∨ n = 16) (r0 : List Int) (g0 : GV n r0) :
    ∃ r1, GV n r1 ∧ floop (vcall F nro) nro [2, 4, 5, 6] i_spec_l01Named_B2 (nmH h n r0) [.pointer (some ⟨h.length, 0, some 2⟩), .int .i64 n, .pointer (some ⟨h.length + 2, 0, some 2⟩), .int .i64 0] (nmH h n r0) =
      some (.exit 1, fl [(2, .pointer (some ⟨h.length, 0, some 2⟩)), (5, .pointer (some ⟨h.length + 2, 0, some 2⟩))], nmH h n r1) := by
  have hp := fun r v w => nm_put (nro := nro) (h := h) (N := n) (r := r) hn (by omega) v w
  refine Exists.elim (for_upR (call := vcall F nro) (nro := nro) (live := [2, 4, 5, 6]) (c := i_spec_l01Named_B2) (h0 := nmH h n r0) (n := n) (fun i (_ : List Int) => [.pointer (some ⟨h.length, 0, some 2⟩), .int .i64 n, .pointer (some ⟨h.length + 2, 0, some 2⟩), .int .i64 i]) (fun _ r => nmH h n r)
    (fun _ r => GV n r) (fun r => some (.exit 1, fl [(2, .pointer (some ⟨h.length, 0, some 2⟩)), (5, .pointer (some ⟨h.length + 2, 0, some 2⟩))], nmH h n r)) ?_ ?_ 0 r0 (Nat.zero_le _) g0) ?_
  · intro v r1 hv hv2 g1
    obtain ⟨r2, g2, e2⟩ := l_l01Named_1 (nro := nro) h hn n hn2 v hv r1 g1
    have hl := g2.rok.len
    have w1 : IntKind.i64.wrap ((v : Int) + 1) = (v : Int) + 1 := wrap64 (by omega) (by omega)
    by_cases c : n = 16
    · subst c
      have g3 := g2.put2I (a := v) (b := 15 - (v : Int)) (by omega) (by omega) (by omega) (by omega) (by omega)
      refine ⟨put2 r2 v (15 - (v : Int)), g3, ?_⟩
      have hv3 : (v : Int) < 16 := by omega
      have w2 : IntKind.i64.wrap (15 - (v : Int)) = 15 - (v : Int) := wrap64 (by omega) (by omega)
      have k1 : 0 ≤ 15 - (v : Int) := by omega
      have k2 : 15 - (v : Int) < 16 := by omega
      simp only [gv, Int.cast_ofNat_Int] at hp e2
      clear g1 g2 g3 g0 hn2
      rw [floop_at i_spec_l01Named_B2.eq_1]
      simp (disch := first | assumption | omega | (simp [*] <;> omega) | fail) [-getElem?_pos, List.getElem?_cons_zero, List.getElem?_cons_succ, hp, hl, hv, hv3, nm_get0, nm_get2, nm_clean, nm_len, e2, w1, w2, k1, k2]
    · have c2 : ¬ (n : Int) = 16 := by omega
      refine ⟨r2, g2, ?_⟩
      clear g1 g2 g0 hn2
      rw [floop_at i_spec_l01Named_B2.eq_1]
      simp (disch := first | assumption | omega | (simp [*] <;> omega) | fail) [-getElem?_pos, List.getElem?_cons_zero, List.getElem?_cons_succ, hl, hv, nm_get0, nm_get2, nm_clean, nm_len, e2, w1, c2, c]
  · intro r1 _
    rw [floop_at i_spec_l01Named_B2.eq_1]
    simp (disch := first | assumption | omega | (simp [*] <;> omega) | fail) [-getElem?_pos, List.getElem?_cons_zero, List.getElem?_cons_succ, nm_clean, nm_len]
  · rintro r1 ⟨g1, hf⟩
    exact ⟨r1, g1, hf⟩

/-! ### Hoffman and Singleton -/
theorem l_l01Named_5 (h : VH) (hn : nro ≤ h.length) (u j : Nat) (hu : u < 5) (hj : j < 5) (r0 : List Int) (g0 : GV 50 r0) :
    ∃ r1, GV 50 r1 ∧ floop (vcall F nro) nro [2, 13, 14, 15, 16] i_spec_l01Named_B5 (nmH h 50 r0) [.pointer (some ⟨h.length, 0, some 2⟩), .pointer (some ⟨h.length + 2, 0, some 2⟩), .int .i64 u, .int .i64 j, .int .i64 0] (nmH h 50 r0) =
      some (.exit 13, fl [(2, .pointer (some ⟨h.length, 0, some 2⟩)), (13, .pointer (some ⟨h.length + 2, 0, some 2⟩)), (14, .int .i64 u), (15, .int .i64 j)], nmH h 50 r1) := by
  have hp := fun r v w => nm_put (nro := nro) (h := h) (N := 50) (r := r) hn (by omega) v w
  simp only [gv, Int.cast_ofNat_Int] at hp
  refine Exists.elim (for_upR (call := vcall F nro) (nro := nro) (live := [2, 13, 14, 15, 16]) (c := i_spec_l01Named_B5) (h0 := nmH h 50 r0) (n := 5) (fun i (_ : List Int) => [.pointer (some ⟨h.length, 0, some 2⟩), .pointer (some ⟨h.length + 2, 0, some 2⟩), .int .i64 u, .int .i64 j, .int .i64 i]) (fun _ r => nmH h 50 r)
    (fun _ r => GV 50 r) (fun r => some (.exit 13, fl [(2, .pointer (some ⟨h.length, 0, some 2⟩)), (13, .pointer (some ⟨h.length + 2, 0, some 2⟩)), (14, .int .i64 u), (15, .int .i64 j)], nmH h 50 r)) ?_ ?_ 0 r0 (Nat.zero_le _) g0) ?_
  · intro i r1 hi hi2 g1
    have hl := g1.rok.len
    have hm : u * i ≤ 16 := Nat.le_trans (Nat.mul_le_mul (show u ≤ 4 by omega) (show i ≤ 4 by omega)) (by omega)
    obtain ⟨m, hm2⟩ : ∃ m, m = u * i := ⟨_, rfl⟩
    have e0 : (u : Int) * (i : Int) = m := by rw [hm2, Int.natCast_mul]
    have k1 : m ≤ 16 := by omega
    have w1 : IntKind.i64.wrap (5 * (u : Int)) = 5 * (u : Int) := wrap64 (by omega) (by omega)
    have w2 : IntKind.i64.wrap (5 * (u : Int) + j) = 5 * (u : Int) + j := wrap64 (by omega) (by omega)
    have w3 : IntKind.i64.wrap (5 * (i : Int)) = 5 * (i : Int) := wrap64 (by omega) (by omega)
    have w4 : IntKind.i64.wrap (25 + 5 * (i : Int)) = 25 + 5 * (i : Int) := wrap64 (by omega) (by omega)
    have w5 : IntKind.i64.wrap (m : Int) = m := wrap64 (by omega) (by omega)
    have w6 : IntKind.i64.wrap ((m : Int) + j) = (m : Int) + j := wrap64 (by omega) (by omega)
    obtain ⟨q, hq⟩ : ∃ q : Nat, q = (m + j) % 5 := ⟨_, rfl⟩
    have hq5 : q < 5 := by rw [hq]; omega
    have t1 : ((m : Int) + j).tmod 5 = q := by
      clear e0 hm2
      rw [Int.tmod_eq_emod_of_nonneg (by omega), hq]; omega
    have w7 : IntKind.i64.wrap (q : Int) = q := wrap64 (by omega) (by omega)
    have w8 : IntKind.i64.wrap (25 + 5 * (i : Int) + q) = 25 + 5 * (i : Int) + q := wrap64 (by omega) (by omega)
    have w9 : IntKind.i64.wrap ((i : Int) + 1) = (i : Int) + 1 := wrap64 (by omega) (by omega)
    have g2 := g1.put2I (a := 5 * (u : Int) + j) (b := 25 + 5 * (i : Int) + q) (by omega) (by omega) (by omega) (by omega) (by omega)
    have a1 : 0 ≤ 5 * (u : Int) + j := by omega
    have a2 : 5 * (u : Int) + j < 50 := by omega
    have a3 : 0 ≤ 25 + 5 * (i : Int) + q := by omega
    have a4 : 25 + 5 * (i : Int) + q < 50 := by omega
    refine ⟨put2 r1 (5 * (u : Int) + j) (25 + 5 * (i : Int) + q), g2, ?_⟩
    clear g1 g2 g0 hq hm2 hm
    have hi3 : (i : Int) < 5 := by omega
    rw [floop_at i_spec_l01Named_B5.eq_1]
    simp (disch := first | assumption | omega | (simp [*] <;> omega) | fail) [-getElem?_pos, List.getElem?_cons_zero, List.getElem?_cons_succ, hp, hl, hi3, nm_get0, nm_get2, nm_clean, nm_len, e0, w1, w2, w3, w4, w5, w6, w7, w8, w9, t1, a1, a2, a3, a4]
  · intro r1 _
    rw [floop_at i_spec_l01Named_B5.eq_1]
    simp (disch := first | assumption | omega | (simp [*] <;> omega) | fail) [-getElem?_pos, List.getElem?_cons_zero, List.getElem?_cons_succ, nm_clean, nm_len]
  · rintro r1 ⟨g1, hf⟩
    exact ⟨r1, g1, hf⟩

set_option maxHeartbeats 4000000 in
theorem l_l01Named_6 (h : VH) (hn : nro ≤ h.length) (u : Nat) (hu : u < 5) (r0 : List Int) (g0 : GV 50 r0) :
    ∃ r1, GV 50 r1 ∧ floop (vcall F nro) nro [2, 13, 14, 15] i_spec_l01Named_B6 (nmH h 50 r0) [.pointer (some ⟨h.length, 0, some 2⟩), .pointer (some ⟨h.length + 2, 0, some 2⟩), .int .i64 u, .int .i64 0] (nmH h 50 r0) =
      some (.exit 11, fl [(2, .pointer (some ⟨h.length, 0, some 2⟩)), (13, .pointer (some ⟨h.length + 2, 0, some 2⟩)), (14, .int .i64 u)], nmH h 50 r1) := by
  have hp := fun r v w => nm_put (nro := nro) (h := h) (N := 50) (r := r) hn (by omega) v w
  simp only [gv, Int.cast_ofNat_Int] at hp
  refine Exists.elim (for_upR (call := vcall F nro) (nro := nro) (live := [2, 13, 14, 15]) (c := i_spec_l01Named_B6) (h0 := nmH h 50 r0) (n := 5) (fun i (_ : List Int) => [.pointer (some ⟨h.length, 0, some 2⟩), .pointer (some ⟨h.length + 2, 0, some 2⟩), .int .i64 u, .int .i64 i]) (fun _ r => nmH h 50 r)
    (fun _ r => GV 50 r) (fun r => some (.exit 11, fl [(2, .pointer (some ⟨h.length, 0, some 2⟩)), (13, .pointer (some ⟨h.length + 2, 0, some 2⟩)), (14, .int .i64 u)], nmH h 50 r)) ?_ ?_ 0 r0 (Nat.zero_le _) g0) ?_
  · intro j r1 hj hj2 g1
    have hl := g1.rok.len
    have w1 : IntKind.i64.wrap (5 * (u : Int)) = 5 * (u : Int) := wrap64 (by omega) (by omega)
    have w2 : IntKind.i64.wrap (5 * (u : Int) + j) = 5 * (u : Int) + j := wrap64 (by omega) (by omega)
    have w3 : IntKind.i64.wrap ((j : Int) + 1) = (j : Int) + 1 := wrap64 (by omega) (by omega)
    have w4 : IntKind.i64.wrap ((j : Int) + 2) = (j : Int) + 2 := wrap64 (by omega) (by omega)
    have w5 : IntKind.i64.wrap (25 + 5 * (u : Int)) = 25 + 5 * (u : Int) := wrap64 (by omega) (by omega)
    have w6 : IntKind.i64.wrap (25 + 5 * (u : Int) + j) = 25 + 5 * (u : Int) + j := wrap64 (by omega) (by omega)
    obtain ⟨p, hp1⟩ : ∃ p : Nat, p = (j + 1) % 5 := ⟨_, rfl⟩
    obtain ⟨q, hq1⟩ : ∃ q : Nat, q = (j + 2) % 5 := ⟨_, rfl⟩
    have hp5 : p < 5 ∧ p ≠ j := by omega
    have hq5 : q < 5 ∧ q ≠ j := by omega
    have t1 : ((j : Int) + 1).tmod 5 = p := by rw [Int.tmod_eq_emod_of_nonneg (by omega)]; omega
    have t2 : ((j : Int) + 2).tmod 5 = q := by rw [Int.tmod_eq_emod_of_nonneg (by omega)]; omega
    have w7 : IntKind.i64.wrap (p : Int) = p := wrap64 (by omega) (by omega)
    have w8 : IntKind.i64.wrap (q : Int) = q := wrap64 (by omega) (by omega)
    have w9 : IntKind.i64.wrap (5 * (u : Int) + p) = 5 * (u : Int) + p := wrap64 (by omega) (by omega)
    have w10 : IntKind.i64.wrap (25 + 5 * (u : Int) + q) = 25 + 5 * (u : Int) + q := wrap64 (by omega) (by omega)
    have a1 : 0 ≤ 5 * (u : Int) + j := by omega
    have a2 : 5 * (u : Int) + j < 50 := by omega
    have a3 : 0 ≤ 5 * (u : Int) + p := by omega
    have a4 : 5 * (u : Int) + p < 50 := by omega
    have a5 : 0 ≤ 25 + 5 * (u : Int) + j := by omega
    have a6 : 25 + 5 * (u : Int) + j < 50 := by omega
    have a7 : 0 ≤ 25 + 5 * (u : Int) + q := by omega
    have a8 : 25 + 5 * (u : Int) + q < 50 := by omega
    have g2 := (g1.put2I (a := 5 * (u : Int) + j) (b := 5 * (u : Int) + p) (by omega) (by omega) (by omega) (by omega) (by omega)).put2I (a := 25 + 5 * (u : Int) + j) (b := 25 + 5 * (u : Int) + q) (by omega) (by omega) (by omega) (by omega) (by omega)
    obtain ⟨r3, g3, e3⟩ := l_l01Named_5 (nro := nro) h hn u j hu hj _ g2
    refine ⟨r3, g3, ?_⟩
    clear g1 g2 g3 g0 hp1 hq1 hp5 hq5
    have hj3 : (j : Int) < 5 := by omega
    rw [floop_at i_spec_l01Named_B6.eq_1]
    simp (disch := first | assumption | omega | (simp [*] <;> omega) | fail) [-getElem?_pos, List.getElem?_cons_zero, List.getElem?_cons_succ, hp, hl, hj3, nm_get0, nm_get2, nm_clean, nm_len, w1, w2, w3, w4, w5, w6, w7, w8, w9, w10, t1, t2, a1, a2, a3, a4, a5, a6, a7, a8, e3]
  · intro r1 _
    rw [floop_at i_spec_l01Named_B6.eq_1]
    simp (disch := first | assumption | omega | (simp [*] <;> omega) | fail) [-getElem?_pos, List.getElem?_cons_zero, List.getElem?_cons_succ, nm_clean, nm_len]
  · rintro r1 ⟨g1, hf⟩
    exact ⟨r1, g1, hf⟩

theorem l_l01Named_7 (h : VH) (hn : nro ≤ h.length) (r0 : List Int) (g0 : GV 50 r0) :
    ∃ r1, GV 50 r1 ∧ floop (vcall F nro) nro [2, 13, 14] i_spec_l01Named_B7 (nmH h 50 r0) [.pointer (some ⟨h.length, 0, some 2⟩), .pointer (some ⟨h.length + 2, 0, some 2⟩), .int .i64 0] (nmH h 50 r0) =
      some (.exit 9, fl [(2, .pointer (some ⟨h.length, 0, some 2⟩)), (13, .pointer (some ⟨h.length + 2, 0, some 2⟩))], nmH h 50 r1) := by
  refine Exists.elim (for_upR (call := vcall F nro) (nro := nro) (live := [2, 13, 14]) (c := i_spec_l01Named_B7) (h0 := nmH h 50 r0) (n := 5) (fun i (_ : List Int) => [.pointer (some ⟨h.length, 0, some 2⟩), .pointer (some ⟨h.length + 2, 0, some 2⟩), .int .i64 i]) (fun _ r => nmH h 50 r)
    (fun _ r => GV 50 r) (fun r => some (.exit 9, fl [(2, .pointer (some ⟨h.length, 0, some 2⟩)), (13, .pointer (some ⟨h.length + 2, 0, some 2⟩))], nmH h 50 r)) ?_ ?_ 0 r0 (Nat.zero_le _) g0) ?_
  · intro u r1 hu hu2 g1
    obtain ⟨r3, g3, e3⟩ := l_l01Named_6 (nro := nro) h hn u hu _ g1
    have w3 : IntKind.i64.wrap ((u : Int) + 1) = (u : Int) + 1 := wrap64 (by omega) (by omega)
    refine ⟨r3, g3, ?_⟩
    clear g1 g3 g0
    have hu3 : (u : Int) < 5 := by omega
    rw [floop_at i_spec_l01Named_B7.eq_1]
    simp (disch := first | assumption | omega | (simp [*] <;> omega) | fail) [-getElem?_pos, List.getElem?_cons_zero, List.getElem?_cons_succ, hu3, nm_get0, nm_get2, nm_clean, nm_len, w3, e3]
  · intro r1 _
    rw [floop_at i_spec_l01Named_B7.eq_1]
    simp (disch := first | assumption | omega | (simp [*] <;> omega) | fail) [-getElem?_pos, List.getElem?_cons_zero, List.getElem?_cons_succ, nm_clean, nm_len]
  · rintro r1 ⟨g1, hf⟩
    exact ⟨r1, g1, hf⟩
end Go.Proofs.YtghondlbkjponaaDoor.Zv

