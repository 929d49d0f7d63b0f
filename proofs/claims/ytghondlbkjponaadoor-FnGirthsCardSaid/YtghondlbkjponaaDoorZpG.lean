/- Part G of the proof: ZwNamed2, ZwDraw6, ZwDraw7, ZwDraw8, ZwDraw9, ZwDraw10, ZwDraw3, ZwNb, ZwDraw11, ZwLawGirths. Conditions: none. -/
import Derived.Test.YtghondlbkjponaaDoorZpD
import Derived.Test.YtghondlbkjponaaDoorZpF
set_option linter.unusedSimpArgs false
set_option linter.unusedVariables false
/- Graphs with names, by their names. -/
namespace Go.Proofs.YtghondlbkjponaaDoor.Zv
open Go
variable {nro : Nat}

theorem vbin_streq (a b : Array UInt8) : vbin .eql (.string ⟨a⟩) (.string ⟨b⟩) = some (.bool (decide (a = b))) := by
  have e : ((ByteArray.mk a).toList == (ByteArray.mk b).toList) = decide (a = b) := by
    rw [ByteArray.toList_eq, ByteArray.toList_eq]
    by_cases c : a = b
    · subst c; simp
    · simp [c]
  show some (Value.bool ((ByteArray.mk a).toList == (ByteArray.mk b).toList)) = _
  rw [e]
/-- A call of l01Named that answers a graph. -/
def NmOK (nro : Nat) (nm : Value) : Prop := ∀ h : VH, nro ≤ h.length → ∃ (N : Nat) (rows : List Int), GV N rows ∧ vcall F nro k_spec_l01Named [nm] h = some (.tuple #[gv N (.slice (some ⟨h.length, 0, none⟩) N N), .bool true], h ++ [⟨1, ints rows⟩])

theorem nm_jumps (h : VH) (hn : nro ≤ h.length) (N : Nat) (js : List Int) (h3 : 3 ≤ N) (h62 : N ≤ 62) (hj : ∀ x ∈ js, 1 ≤ x ∧ x < N) (hjl : js.length ≤ 100) :
    ∃ rows, GV N rows ∧ vcall F nro k_spec_l01Jumps [.int .i64 N, .slice (some ⟨h.length + 1, 0, none⟩) js.length js.length] (h ++ [⟨0, [.int .i64 0, .slice none 0 0]⟩, ⟨1, ints js⟩]) = some (gv N (.slice (some ⟨h.length + 2, 0, none⟩) N N), h ++ [⟨0, [.int .i64 0, .slice none 0 0]⟩, ⟨1, ints js⟩, ⟨1, ints rows⟩]) := by
  obtain ⟨rows, g, e⟩ := c_spec_l01Jumps (nro := nro) (h ++ [⟨0, [.int .i64 0, .slice none 0 0]⟩, ⟨1, ints js⟩]) (.slice (some ⟨h.length + 1, 0, none⟩) js.length js.length) js (sli_at (h := h ++ [⟨0, [.int .i64 0, .slice none 0 0]⟩, ⟨1, ints js⟩]) (b := h.length + 1) (xs := js) (by simp)) (by simp; omega) N h3 h62 hj hjl
  refine ⟨rows, g, ?_⟩
  simpa using e

theorem nm_heawood : NmOK nro (.string ⟨#[104, 101, 97, 119, 111, 111, 100]⟩) := by
  intro h hn
  obtain ⟨rows, g, e⟩ := nm_jumps (nro := nro) h hn 14 [5, 9] (by omega) (by omega) (by decide) (by decide)
  refine ⟨14, rows, g, ?_⟩
  have hl := g.rok.len
  simp at e
  refine v_spec_l01Named (by simp [i_spec_l01Named]) ?_
  rw [fbody_eq]
  clear g
  simp (disch := first | assumption | omega | (simp [*] <;> omega) | fail) [i_spec_l01Named, vbin_streq, e, hl, fresults, fresL, fres1, hn]
theorem nm_moebiuskantor : NmOK nro (.string ⟨#[109, 111, 101, 98, 105, 117, 115, 107, 97, 110, 116, 111, 114]⟩) := by
  intro h hn
  obtain ⟨rows, g, e⟩ := nm_jumps (nro := nro) h hn 16 [5, 11] (by omega) (by omega) (by decide) (by decide)
  refine ⟨16, rows, g, ?_⟩
  have hl := g.rok.len
  simp at e
  refine v_spec_l01Named (by simp [i_spec_l01Named]) ?_
  rw [fbody_eq]
  clear g
  simp (disch := first | assumption | omega | (simp [*] <;> omega) | fail) [i_spec_l01Named, vbin_streq, e, hl, fresults, fresL, fres1, hn]
theorem nm_pappus : NmOK nro (.string ⟨#[112, 97, 112, 112, 117, 115]⟩) := by
  intro h hn
  obtain ⟨rows, g, e⟩ := nm_jumps (nro := nro) h hn 18 [5, 7, 11, 7, 11, 13] (by omega) (by omega) (by decide) (by decide)
  refine ⟨18, rows, g, ?_⟩
  have hl := g.rok.len
  simp at e
  refine v_spec_l01Named (by simp [i_spec_l01Named]) ?_
  rw [fbody_eq]
  clear g
  simp (disch := first | assumption | omega | (simp [*] <;> omega) | fail) [i_spec_l01Named, vbin_streq, e, hl, fresults, fresL, fres1, hn]
theorem nm_desargues : NmOK nro (.string ⟨#[100, 101, 115, 97, 114, 103, 117, 101, 115]⟩) := by
  intro h hn
  obtain ⟨rows, g, e⟩ := nm_jumps (nro := nro) h hn 20 [5, 15, 9, 11] (by omega) (by omega) (by decide) (by decide)
  refine ⟨20, rows, g, ?_⟩
  have hl := g.rok.len
  simp at e
  refine v_spec_l01Named (by simp [i_spec_l01Named]) ?_
  rw [fbody_eq]
  clear g
  simp (disch := first | assumption | omega | (simp [*] <;> omega) | fail) [i_spec_l01Named, vbin_streq, e, hl, fresults, fresL, fres1, hn]
theorem nm_dodecahedron : NmOK nro (.string ⟨#[100, 111, 100, 101, 99, 97, 104, 101, 100, 114, 111, 110]⟩) := by
  intro h hn
  obtain ⟨rows, g, e⟩ := nm_jumps (nro := nro) h hn 20 [10, 7, 4, 16, 13, 10, 16, 7, 13, 4] (by omega) (by omega) (by decide) (by decide)
  refine ⟨20, rows, g, ?_⟩
  have hl := g.rok.len
  simp at e
  refine v_spec_l01Named (by simp [i_spec_l01Named]) ?_
  rw [fbody_eq]
  clear g
  simp (disch := first | assumption | omega | (simp [*] <;> omega) | fail) [i_spec_l01Named, vbin_streq, e, hl, fresults, fresL, fres1, hn]
theorem nm_mcgee : NmOK nro (.string ⟨#[109, 99, 103, 101, 101]⟩) := by
  intro h hn
  obtain ⟨rows, g, e⟩ := nm_jumps (nro := nro) h hn 24 [12, 7, 17] (by omega) (by omega) (by decide) (by decide)
  refine ⟨24, rows, g, ?_⟩
  have hl := g.rok.len
  simp at e
  refine v_spec_l01Named (by simp [i_spec_l01Named]) ?_
  rw [fbody_eq]
  clear g
  simp (disch := first | assumption | omega | (simp [*] <;> omega) | fail) [i_spec_l01Named, vbin_streq, e, hl, fresults, fresL, fres1, hn]
theorem nm_tuttecoxeter : NmOK nro (.string ⟨#[116, 117, 116, 116, 101, 99, 111, 120, 101, 116, 101, 114]⟩) := by
  intro h hn
  obtain ⟨rows, g, e⟩ := nm_jumps (nro := nro) h hn 30 [17, 21, 7, 23, 9, 13] (by omega) (by omega) (by decide) (by decide)
  refine ⟨30, rows, g, ?_⟩
  have hl := g.rok.len
  simp at e
  refine v_spec_l01Named (by simp [i_spec_l01Named]) ?_
  rw [fbody_eq]
  clear g
  simp (disch := first | assumption | omega | (simp [*] <;> omega) | fail) [i_spec_l01Named, vbin_streq, e, hl, fresults, fresL, fres1, hn]

/-- Complements of graphs without edges. -/
theorem nm_full (h L : VH) (hn : nro ≤ h.length) (N : Nat) (h1 : 1 ≤ N) (h62 : N ≤ 62) : ∃ z rows, GV N rows ∧ vcall F nro k_spec_l01Empty [.int .i64 N] (h ++ L) = some (gv N (.slice (some ⟨(h ++ L).length, 0, none⟩) N N), (h ++ L) ++ [⟨1, ints z⟩]) ∧
    vcall F nro k_spec_l01Complement [gv N (.slice (some ⟨(h ++ L).length, 0, none⟩) N N)] ((h ++ L) ++ [⟨1, ints z⟩]) = some (gv N (.slice (some ⟨(h ++ L).length + 1, 0, none⟩) N N), (h ++ L) ++ [⟨1, ints z⟩, ⟨1, ints rows⟩]) := by
  have g0 := GV.zero h1 h62
  refine ⟨List.replicate N 0, _, g0.compl, ?_, ?_⟩
  · have := c_spec_l01Empty (nro := nro) N (h ++ L) (by omega) (by omega) (by simp; omega)
    rwa [Int.toNat_natCast] at this
  · have hs := sli_at (h := (h ++ L) ++ [⟨1, ints (List.replicate N 0)⟩]) (b := (h ++ L).length) (xs := List.replicate N 0) (by simp)
    rw [List.length_replicate] at hs
    have := c_spec_l01Complement (nro := nro) ((h ++ L) ++ [⟨1, ints (List.replicate N 0)⟩]) N _ _ hs g0 (by simp; omega)
    have e : ((h ++ L) ++ [(⟨1, ints (List.replicate N 0)⟩ : VO)]).length = (h ++ L).length + 1 := by simp; omega
    rw [e] at this
    rw [this]
    simp
theorem nm_k4 : NmOK nro (.string ⟨#[107, 52]⟩) := by
  intro h hn
  have hn' := fun k => Nat.le_trans hn (Nat.le_add_right h.length k)
  obtain ⟨z, rows, g, e1, e2⟩ := nm_full (nro := nro) h [⟨0, [.int .i64 0, .slice none 0 0]⟩] hn 4 (by omega) (by omega)
  refine ⟨4, rows, g, ?_⟩
  have hl := g.rok.len
  simp [-List.reduceReplicate, Nat.add_assoc] at e1 e2
  refine v_spec_l01Named (by simp [i_spec_l01Named]) ?_
  rw [fbody_eq]
  clear g
  simp (disch := first | assumption | omega | (simp [*] <;> omega) | fail) [i_spec_l01Named, vbin_streq, e1, e2, hl, fresults, fresL, fres1, hn, hn']
theorem nm_k5 : NmOK nro (.string ⟨#[107, 53]⟩) := by
  intro h hn
  have hn' := fun k => Nat.le_trans hn (Nat.le_add_right h.length k)
  obtain ⟨z, rows, g, e1, e2⟩ := nm_full (nro := nro) h [⟨0, [.int .i64 0, .slice none 0 0]⟩] hn 5 (by omega) (by omega)
  refine ⟨5, rows, g, ?_⟩
  have hl := g.rok.len
  simp [-List.reduceReplicate, Nat.add_assoc] at e1 e2
  refine v_spec_l01Named (by simp [i_spec_l01Named]) ?_
  rw [fbody_eq]
  clear g
  simp (disch := first | assumption | omega | (simp [*] <;> omega) | fail) [i_spec_l01Named, vbin_streq, e1, e2, hl, fresults, fresL, fres1, hn, hn']
theorem nm_k33 : NmOK nro (.string ⟨#[107, 51, 51]⟩) := by
  intro h hn
  obtain ⟨z1, r1, g1, a1, a2⟩ := nm_full (nro := nro) h [⟨0, [.int .i64 0, .slice none 0 0]⟩] hn 3 (by omega) (by omega)
  obtain ⟨z2, r2, g2, b1, b2⟩ := nm_full (nro := nro) h [⟨0, [.int .i64 0, .slice none 0 0]⟩, ⟨1, ints z1⟩, ⟨1, ints r1⟩] hn 3 (by omega) (by omega)
  have l1 := g1.rok.len
  have l2 := g2.rok.len
  have s1 := sli_at (h := h ++ [⟨0, [.int .i64 0, .slice none 0 0]⟩, ⟨1, ints z1⟩, ⟨1, ints r1⟩, ⟨1, ints z2⟩, ⟨1, ints r2⟩]) (b := h.length + 2) (xs := r1) (by simp)
  have s2 := sli_at (h := h ++ [⟨0, [.int .i64 0, .slice none 0 0]⟩, ⟨1, ints z1⟩, ⟨1, ints r1⟩, ⟨1, ints z2⟩, ⟨1, ints r2⟩]) (b := h.length + 4) (xs := r2) (by simp)
  rw [l1] at s1
  rw [l2] at s2
  have c1 := c_spec_l01Beside (nro := nro) _ 3 3 _ _ _ _ s1 s2 g1 g2 (by omega) (by simp; omega)
  have g3 := g1.beside g2 (by omega)
  obtain ⟨r3, hr3⟩ : ∃ r, r = bsR r1 r2 3 3 := ⟨_, rfl⟩
  rw [← hr3] at c1 g3
  have l3 := g3.rok.len
  have s3 := sli_at (h := h ++ [⟨0, [.int .i64 0, .slice none 0 0]⟩, ⟨1, ints z1⟩, ⟨1, ints r1⟩, ⟨1, ints z2⟩, ⟨1, ints r2⟩, ⟨1, ints r3⟩]) (b := h.length + 5) (xs := r3) (by simp)
  rw [l3] at s3
  have d1 := c_spec_l01Complement (nro := nro) _ 6 _ _ s3 g3 (by simp; omega)
  have g4 := g3.compl
  obtain ⟨r4, hr4⟩ : ∃ r, r = tbl (3 + 3) (cmpG r3 (3 + 3)) := ⟨_, rfl⟩
  have hr4' : tbl 6 (cmpG r3 6) = r4 := hr4.symm
  rw [hr4'] at d1
  rw [← hr4] at g4
  refine ⟨6, r4, g4, ?_⟩
  have l4 := g4.rok.len
  simp [-List.reduceReplicate, Nat.add_assoc] at a1 a2 b1 b2 c1 d1
  refine v_spec_l01Named (by simp [i_spec_l01Named]) ?_
  rw [fbody_eq]
  clear g1 g2 g3 g4 hr3 hr4 hr4' s1 s2 s3
  simp (disch := first | assumption | omega | (simp [*] <;> omega) | fail) [i_spec_l01Named, vbin_streq, a1, a2, b1, b2, c1, d1, l4, fresults, fresL, fres1, hn]
theorem nm_cube : NmOK nro (.string ⟨#[99, 117, 98, 101]⟩) := by
  intro h hn
  have hn' := fun k => Nat.le_trans hn (Nat.le_add_right h.length k)
  have e1 := c_spec_l01Empty (nro := nro) 8 (h ++ [⟨0, [.int .i64 0, .slice none 0 0]⟩]) (by omega) (by omega) (by simp; omega)
  obtain ⟨z, hz⟩ : ∃ z : List Int, z = List.replicate 8 0 := ⟨_, rfl⟩
  have gz : GV 8 z := by rw [hz]; exact GV.zero (n := 8) (by omega) (by omega)
  rw [show Int.toNat 8 = 8 from rfl, ← hz] at e1
  obtain ⟨r1, g1, e2⟩ := l_l01Named_2 (nro := nro) h hn 8 (.inl rfl) z gz
  refine ⟨8, r1, g1, ?_⟩
  have hl := g1.rok.len
  unfold nmH at e2
  simp [-List.reduceReplicate, Nat.add_assoc] at e1 e2
  refine v_spec_l01Named (by simp [i_spec_l01Named]) ?_
  rw [fbody_eq]
  clear g1 gz hz
  simp (disch := first | assumption | omega | (simp [*] <;> omega) | fail) [i_spec_l01Named, vbin_streq, e1, e2, hl, fresults, fresL, fres1, hn, hn']
theorem nm_clebsch : NmOK nro (.string ⟨#[99, 108, 101, 98, 115, 99, 104]⟩) := by
  intro h hn
  have hn' := fun k => Nat.le_trans hn (Nat.le_add_right h.length k)
  have e1 := c_spec_l01Empty (nro := nro) 16 (h ++ [⟨0, [.int .i64 0, .slice none 0 0]⟩]) (by omega) (by omega) (by simp; omega)
  obtain ⟨z, hz⟩ : ∃ z : List Int, z = List.replicate 16 0 := ⟨_, rfl⟩
  have gz : GV 16 z := by rw [hz]; exact GV.zero (n := 16) (by omega) (by omega)
  rw [show Int.toNat 16 = 16 from rfl, ← hz] at e1
  obtain ⟨r1, g1, e2⟩ := l_l01Named_2 (nro := nro) h hn 16 (.inr rfl) z gz
  refine ⟨16, r1, g1, ?_⟩
  have hl := g1.rok.len
  unfold nmH at e2
  simp [-List.reduceReplicate, Nat.add_assoc] at e1 e2
  refine v_spec_l01Named (by simp [i_spec_l01Named]) ?_
  rw [fbody_eq]
  clear g1 gz hz
  simp (disch := first | assumption | omega | (simp [*] <;> omega) | fail) [i_spec_l01Named, vbin_streq, e1, e2, hl, fresults, fresL, fres1, hn, hn']
theorem nm_petersen : NmOK nro (.string ⟨#[112, 101, 116, 101, 114, 115, 101, 110]⟩) := by
  intro h hn
  have hn' := fun k => Nat.le_trans hn (Nat.le_add_right h.length k)
  have e1 := c_spec_l01Empty (nro := nro) 10 (h ++ [⟨0, [.int .i64 0, .slice none 0 0]⟩]) (by omega) (by omega) (by simp; omega)
  obtain ⟨z, hz⟩ : ∃ z : List Int, z = List.replicate 10 0 := ⟨_, rfl⟩
  have gz : GV 10 z := by rw [hz]; exact GV.zero (n := 10) (by omega) (by omega)
  rw [show Int.toNat 10 = 10 from rfl, ← hz] at e1
  obtain ⟨r1, g1, e2⟩ := l_l01Named_3 (nro := nro) h hn z gz
  refine ⟨10, r1, g1, ?_⟩
  have hl := g1.rok.len
  unfold nmH at e2
  simp [-List.reduceReplicate, Nat.add_assoc] at e1 e2
  refine v_spec_l01Named (by simp [i_spec_l01Named]) ?_
  rw [fbody_eq]
  clear g1 gz hz
  simp (disch := first | assumption | omega | (simp [*] <;> omega) | fail) [i_spec_l01Named, vbin_streq, e1, e2, hl, fresults, fresL, fres1, hn, hn']
theorem nm_icosahedron : NmOK nro (.string ⟨#[105, 99, 111, 115, 97, 104, 101, 100, 114, 111, 110]⟩) := by
  intro h hn
  have hn' := fun k => Nat.le_trans hn (Nat.le_add_right h.length k)
  have e1 := c_spec_l01Empty (nro := nro) 12 (h ++ [⟨0, [.int .i64 0, .slice none 0 0]⟩]) (by omega) (by omega) (by simp; omega)
  obtain ⟨z, hz⟩ : ∃ z : List Int, z = List.replicate 12 0 := ⟨_, rfl⟩
  have gz : GV 12 z := by rw [hz]; exact GV.zero (n := 12) (by omega) (by omega)
  rw [show Int.toNat 12 = 12 from rfl, ← hz] at e1
  obtain ⟨r1, g1, e2⟩ := l_l01Named_4 (nro := nro) h hn z gz
  refine ⟨12, r1, g1, ?_⟩
  have hl := g1.rok.len
  unfold nmH at e2
  simp [-List.reduceReplicate, Nat.add_assoc] at e1 e2
  refine v_spec_l01Named (by simp [i_spec_l01Named]) ?_
  rw [fbody_eq]
  clear g1 gz hz
  simp (disch := first | assumption | omega | (simp [*] <;> omega) | fail) [i_spec_l01Named, vbin_streq, e1, e2, hl, fresults, fresL, fres1, hn, hn']
theorem nm_hoffmansingleton : NmOK nro (.string ⟨#[104, 111, 102, 102, 109, 97, 110, 115, 105, 110, 103, 108, 101, 116, 111, 110]⟩) := by
  intro h hn
  have hn' := fun k => Nat.le_trans hn (Nat.le_add_right h.length k)
  have e1 := c_spec_l01Empty (nro := nro) 50 (h ++ [⟨0, [.int .i64 0, .slice none 0 0]⟩]) (by omega) (by omega) (by simp; omega)
  obtain ⟨z, hz⟩ : ∃ z : List Int, z = List.replicate 50 0 := ⟨_, rfl⟩
  have gz : GV 50 z := by rw [hz]; exact GV.zero (n := 50) (by omega) (by omega)
  rw [show Int.toNat 50 = 50 from rfl, ← hz] at e1
  obtain ⟨r1, g1, e2⟩ := l_l01Named_7 (nro := nro) h hn z gz
  refine ⟨50, r1, g1, ?_⟩
  have hl := g1.rok.len
  unfold nmH at e2
  simp [-List.reduceReplicate, Nat.add_assoc] at e1 e2
  refine v_spec_l01Named (by simp [i_spec_l01Named]) ?_
  rw [fbody_eq]
  clear g1 gz hz
  simp (disch := first | assumption | omega | (simp [*] <;> omega) | fail) [i_spec_l01Named, vbin_streq, e1, e2, hl, fresults, fresL, fres1, hn, hn']

/-- The names. -/
def nmV : List Value := [.string ⟨#[107, 52]⟩, .string ⟨#[107, 53]⟩, .string ⟨#[107, 51, 51]⟩, .string ⟨#[99, 117, 98, 101]⟩, .string ⟨#[112, 101, 116, 101, 114, 115, 101, 110]⟩, .string ⟨#[104, 101, 97, 119, 111, 111, 100]⟩, .string ⟨#[105, 99, 111, 115, 97, 104, 101, 100, 114, 111, 110]⟩, .string ⟨#[99, 108, 101, 98, 115, 99, 104]⟩, .string ⟨#[109, 111, 101, 98, 105, 117, 115, 107, 97, 110, 116, 111, 114]⟩, .string ⟨#[112, 97, 112, 112, 117, 115]⟩, .string ⟨#[100, 101, 115, 97, 114, 103, 117, 101, 115]⟩, .string ⟨#[100, 111, 100, 101, 99, 97, 104, 101, 100, 114, 111, 110]⟩, .string ⟨#[109, 99, 103, 101, 101]⟩, .string ⟨#[116, 117, 116, 116, 101, 99, 111, 120, 101, 116, 101, 114]⟩, .string ⟨#[104, 111, 102, 102, 109, 97, 110, 115, 105, 110, 103, 108, 101, 116, 111, 110]⟩]
theorem nm_all : ∀ v ∈ nmV, NmOK nro v := by
  intro v hv
  simp only [nmV, List.mem_cons, List.not_mem_nil, or_false] at hv
  rcases hv with rfl | rfl | rfl | rfl | rfl | rfl | rfl | rfl | rfl | rfl | rfl | rfl | rfl | rfl | rfl
  · exact nm_k4
  · exact nm_k5
  · exact nm_k33
  · exact nm_cube
  · exact nm_petersen
  · exact nm_heawood
  · exact nm_icosahedron
  · exact nm_clebsch
  · exact nm_moebiuskantor
  · exact nm_pappus
  · exact nm_desargues
  · exact nm_dodecahedron
  · exact nm_mcgee
  · exact nm_tuttecoxeter
  · exact nm_hoffmansingleton
end Go.Proofs.YtghondlbkjponaaDoor.Zv

/- Renumbered graphs. -/
namespace Go.Proofs.YtghondlbkjponaaDoor.Zv
open Go
variable {nro : Nat}

/-- The heap while a graph is renumbered. -/
def rnH (h : VH) (N : Nat) (s : Value) (r : List Int) : VH := (h ++ [⟨0, [.int .i64 N, s]⟩, ⟨0, [.int .i64 0, .slice none 0 0]⟩]) ++ [⟨1, ints r⟩, ⟨0, [.int .i64 N, .slice (some ⟨h.length + 2, 0, none⟩) N N]⟩]
/-- New numbers for vertices. -/
structure NewNo (N : Nat) (ps : List Int) : Prop where
  len : ps.length = N
  lo : ∀ x ∈ ps, 0 ≤ x ∧ x < N
  nd : ps.Nodup

theorem l_l01Renamed_1 (h : VH) (N : Nat) (s t : Value) (rows ps : List Int) (hs : Sli h s rows) (ht : Sli h t ps) (g : GV N rows) (hp : NewNo N ps) (hn : nro ≤ h.length) (r0 : List Int) (g0 : GV N r0) (v : Nat) (hv : v < N) :
    ∃ r1, GV N r1 ∧ floop (vcall F nro) nro [1, 2, 4, 5, 6, 7] i_spec_l01Renamed_B1 (rnH h N s r0) [t, .pointer (some ⟨h.length, 0, some 2⟩), .pointer (some ⟨h.length + 1, 0, some 2⟩), .pointer (some ⟨h.length + 3, 0, some 2⟩), .int .i64 v, .int .i64 0] (rnH h N s r0) =
      some (.exit 2, fl [(1, t), (2, .pointer (some ⟨h.length, 0, some 2⟩)), (4, .pointer (some ⟨h.length + 1, 0, some 2⟩)), (5, .pointer (some ⟨h.length + 3, 0, some 2⟩)), (6, .int .i64 v)], rnH h N s r1) := by
  have hle := g.rok.le
  have hto : ∀ k, Old (h.length + k) t := fun k => ht.oldk (k := k)
  have hso := fun k => hs.oldCk (k := k)
  refine Exists.elim (for_upR (call := vcall F nro) (nro := nro) (live := [1, 2, 4, 5, 6, 7]) (c := i_spec_l01Renamed_B1) (h0 := rnH h N s r0) (n := v) (fun w (_ : List Int) => [t, .pointer (some ⟨h.length, 0, some 2⟩), .pointer (some ⟨h.length + 1, 0, some 2⟩), .pointer (some ⟨h.length + 3, 0, some 2⟩), .int .i64 v, .int .i64 w]) (fun _ r => rnH h N s r)
    (fun _ r => GV N r) (fun r => some (.exit 2, fl [(1, t), (2, .pointer (some ⟨h.length, 0, some 2⟩)), (4, .pointer (some ⟨h.length + 1, 0, some 2⟩)), (5, .pointer (some ⟨h.length + 3, 0, some 2⟩)), (6, .int .i64 v)], rnH h N s r)) ?_ ?_ 0 r0 (Nat.zero_le _) g0) ?_
  · intro w r1 hw hw2 g1
    have hwN : w < N := by omega
    have hlp := hp.len
    have w1 : IntKind.i64.wrap ((w : Int) + 1) = (w : Int) + 1 := wrap64 (by omega) (by omega)
    have hh := has_spec (nro := nro) N v w s rows (rnH h N s r1) ((hs.app _).app _) g.rok hv hwN
    have e1 := fun L => ht.vidx' (L := L) (k := .i64) (j := (v : Int)) (by omega) (by omega)
    have e2 := fun L => ht.vidx' (L := L) (k := .i64) (j := (w : Int)) (by omega) (by omega)
    have e3 := fun L => ht.vload' (L := L) (j := v) (by omega)
    have e4 := fun L => ht.vload' (L := L) (j := w) (by omega)
    obtain ⟨a1, a2⟩ := hp.lo ps[v] (List.getElem_mem _)
    obtain ⟨b1, b2⟩ := hp.lo ps[w] (List.getElem_mem _)
    obtain ⟨a, ha⟩ : ∃ a : Nat, ps[v] = a := ⟨ps[v].toNat, by omega⟩
    obtain ⟨c, hc⟩ : ∃ a : Nat, ps[w] = a := ⟨ps[w].toNat, by omega⟩
    have hne : a ≠ c := by
      intro e
      have h1 : ps[v] = ps[w] := by rw [ha, hc, e]
      have := (List.nodup_iff_pairwise_ne.mp hp.nd)
      rw [List.pairwise_iff_getElem] at this
      exact this w v (by omega) (by omega) hw h1.symm
    rw [ha] at a1 a2
    rw [hc] at b1 b2
    simp only [ha] at e3
    simp only [hc] at e4
    have e5 := mk_put (nro := nro) (P := h ++ [⟨0, [.int .i64 N, s]⟩, ⟨0, [.int .i64 0, .slice none 0 0]⟩]) (C := [⟨0, [.int .i64 N, .slice (some ⟨h.length + 2, 0, none⟩) N N]⟩]) (by simp; omega) g1.rok.len hle a c (by omega) (by omega)
    have g2 := g1.put2 (show a < N by omega) (show c < N by omega) hne
    obtain ⟨r2, hr2⟩ : ∃ r, r = put2 r1 a c := ⟨_, rfl⟩
    rw [← hr2] at e5 g2
    have hcl := fun (r : List Int) (vs : List Value) => mk_clean (P := h ++ [⟨0, [.int .i64 N, s]⟩, ⟨0, [.int .i64 0, .slice none 0 0]⟩]) (C := [⟨0, [.int .i64 N, .slice (some ⟨h.length + 2, 0, none⟩) N N]⟩]) (r0 := r0) (r1 := r) (vs := vs)
    unfold rnH at hh ⊢
    simp only [List.append_assoc, List.cons_append, List.nil_append, List.length_append, List.length_cons, List.length_nil] at hcl hh e5 ⊢
    by_cases hb : rbit rows v w = true
    · rw [hb] at hh
      refine ⟨r2, g2, ?_⟩
      clear hr2 g1 g2 g0 g hp ha hc a1 a2 b1 b2
      rw [floop_at i_spec_l01Renamed_B1.eq_1]
      simp (disch := first | assumption | omega | (simp [*] <;> omega) | fail) [hw, hw2, hh, e1, e2, e3, e4, e5, w1, hcl, hto, hso]
    · rw [rbit_of_not hb] at hh
      refine ⟨r1, g1, ?_⟩
      clear hr2 g1 g2 g0 g hp ha hc a1 a2 b1 b2 e5
      rw [floop_at i_spec_l01Renamed_B1.eq_1]
      simp (disch := first | assumption | omega | (simp [*] <;> omega) | fail) [hw, hw2, hh, w1, hcl, hto, hso]
  · intro r1 _
    unfold rnH
    rw [floop_at i_spec_l01Renamed_B1.eq_1]
    simp (disch := first | assumption | omega | (simp [*] <;> omega) | fail) [hto, hso]
  · rintro r1 ⟨g1, hf⟩
    exact ⟨r1, g1, hf⟩

theorem l_l01Renamed_2 (h : VH) (N : Nat) (s t : Value) (rows ps : List Int) (hs : Sli h s rows) (ht : Sli h t ps) (g : GV N rows) (hp : NewNo N ps) (hn : nro ≤ h.length) (r0 : List Int) (g0 : GV N r0) :
    ∃ r1, GV N r1 ∧ floop (vcall F nro) nro [1, 2, 4, 5, 6] i_spec_l01Renamed_B2 (rnH h N s r0) [t, .pointer (some ⟨h.length, 0, some 2⟩), .pointer (some ⟨h.length + 1, 0, some 2⟩), .pointer (some ⟨h.length + 3, 0, some 2⟩), .int .i64 0] (rnH h N s r0) =
      some (.exit 0, fl [(4, .pointer (some ⟨h.length + 1, 0, some 2⟩)), (5, .pointer (some ⟨h.length + 3, 0, some 2⟩))], rnH h N s r1) := by
  have hle := g.rok.le
  have hto : ∀ k, Old (h.length + k) t := fun k => ht.oldk (k := k)
  have hso := fun k => hs.oldCk (k := k)
  refine Exists.elim (for_upR (call := vcall F nro) (nro := nro) (live := [1, 2, 4, 5, 6]) (c := i_spec_l01Renamed_B2) (h0 := rnH h N s r0) (n := N) (fun v (_ : List Int) => [t, .pointer (some ⟨h.length, 0, some 2⟩), .pointer (some ⟨h.length + 1, 0, some 2⟩), .pointer (some ⟨h.length + 3, 0, some 2⟩), .int .i64 v]) (fun _ r => rnH h N s r)
    (fun _ r => GV N r) (fun r => some (.exit 0, fl [(4, .pointer (some ⟨h.length + 1, 0, some 2⟩)), (5, .pointer (some ⟨h.length + 3, 0, some 2⟩))], rnH h N s r)) ?_ ?_ 0 r0 (Nat.zero_le _) g0) ?_
  · intro v r1 hv hv2 g1
    have w1 : IntKind.i64.wrap ((v : Int) + 1) = (v : Int) + 1 := wrap64 (by omega) (by omega)
    obtain ⟨r2, g2, lp⟩ := l_l01Renamed_1 (nro := nro) h N s t rows ps hs ht g hp hn r1 g1 v hv
    have hcl := fun (r : List Int) (vs : List Value) => mk_clean (P := h ++ [⟨0, [.int .i64 N, s]⟩, ⟨0, [.int .i64 0, .slice none 0 0]⟩]) (C := [⟨0, [.int .i64 N, .slice (some ⟨h.length + 2, 0, none⟩) N N]⟩]) (r0 := r0) (r1 := r) (vs := vs)
    unfold rnH at lp ⊢
    simp only [List.append_assoc, List.cons_append, List.nil_append, List.length_append, List.length_cons, List.length_nil] at hcl lp ⊢
    refine ⟨r2, g2, ?_⟩
    clear g1 g2 g0 g hp
    rw [floop_at i_spec_l01Renamed_B2.eq_1]
    simp (disch := first | assumption | omega | (simp [*] <;> omega) | fail) [hv, hv2, lp, w1, hcl, hto, hso]
  · intro r1 _
    unfold rnH
    rw [floop_at i_spec_l01Renamed_B2.eq_1]
    simp (disch := first | assumption | omega | (simp [*] <;> omega) | fail) [hto, hso]
  · rintro r1 ⟨g1, hf⟩
    exact ⟨r1, g1, hf⟩

/-- A renumbered graph. -/
theorem c_spec_l01Renamed (h : VH) (N : Nat) (s t : Value) (rows ps : List Int) (hs : Sli h s rows) (ht : Sli h t ps) (g : GV N rows) (hp : NewNo N ps) (hn : nro ≤ h.length) :
    ∃ rows', GV N rows' ∧ vcall F nro k_spec_l01Renamed [gv N s, t] h = some (gv N (.slice (some ⟨h.length, 0, none⟩) N N), h ++ [⟨1, ints rows'⟩]) := by
  have hn' := fun k => Nat.le_trans hn (Nat.le_add_right h.length k)
  have hle := g.rok.le
  have hlo := g.lo
  have hso := fun k => hs.oldCk (k := k)
  have he := c_spec_l01Empty (nro := nro) N (h ++ [⟨0, [.int .i64 N, s]⟩, ⟨0, [.int .i64 0, .slice none 0 0]⟩]) (by omega) (by omega) (by simp; omega)
  rw [Int.toNat_natCast] at he
  obtain ⟨r1, g1, lp⟩ := l_l01Renamed_2 (nro := nro) h N s t rows ps hs ht g hp hn (List.replicate N 0) (GV.zero (by omega) hle)
  have hl := g1.rok.len
  refine ⟨r1, g1, ?_⟩
  refine v_spec_l01Renamed (by simp [i_spec_l01Renamed]) ?_
  rw [fbody_eq]
  simp [-List.reduceReplicate] at he
  unfold rnH at lp
  simp only [List.append_assoc, List.cons_append, List.nil_append] at lp
  clear g1 g hp
  simp (disch := first | assumption | omega | (simp [*] <;> omega) | fail) [i_spec_l01Renamed, he, lp, hl, hso, fresults, fresL, fres1, hn', hn]
end Go.Proofs.YtghondlbkjponaaDoor.Zv

/- Orders that are drawn. -/
namespace Go.Proofs.YtghondlbkjponaaDoor.Zv
open Go
variable {nro : Nat}

theorem clean_mid_upd {h h' L : VH} {A B : List Value} {k off n t : Nat} {o : VO} (hu : Upd h h') (hA : ∀ v ∈ A, Old h.length v) (hB : ∀ v ∈ B, Old h.length v) (hk : L[k]? = some o) (hf : flatO h.length o) :
    kclean h (A ++ .slice (some ⟨h.length + k, off, none⟩) n t :: B) (h' ++ L) = (A ++ .slice (some ⟨h.length, off, none⟩) n t :: B, h' ++ [o]) := by
  have fil : ∀ (C : List Value), (∀ v ∈ C, Old h.length v) → (C.flatMap trefs).filter (fun i => decide (h.length ≤ i)) = [] := fun C hC => by
    rw [List.filter_eq_nil_iff]
    intro r hr
    have := (old_all h.length C).mpr hC r hr
    simp; omega
  have e : keepL h.length (A ++ .slice (some ⟨h.length + k, off, none⟩) n t :: B) = [h.length + k] := by
    unfold keepL
    rw [List.flatMap_append, List.filter_append, fil A hA, List.nil_append, List.flatMap_cons, List.filter_append, fil B hB]
    simp [trefs, vrefs, crefs, arefs, dedup]
  have hl : h'.length = h.length := hu.1
  have hg : (h' ++ L)[h.length + k]? = some o := by rw [← hl, hgetk]; exact hk
  have htake : (h' ++ L).take h.length = h' := by rw [← hl]; simp
  have hc : okT h.length h ((h' ++ L).take h.length) ∧ flatL h.length [h.length + k] (h' ++ L) := by
    refine ⟨by rw [htake]; exact hu.2, fun i hi => ⟨o, ?_, hf⟩⟩
    simp only [List.mem_singleton] at hi
    rw [hi]; exact hg
  unfold kclean cleanup
  rw [e, if_pos hc, htake]
  have keep : ∀ (C : List Value), (∀ v ∈ C, Old h.length v) → C.map (tren (renOf h.length [h.length + k])) = C := fun C hC => by
    have : ∀ v ∈ C, tren (renOf h.length [h.length + k]) v = v := fun v hv => tren_old (hC v hv) fun i hi => by simp only [renOf, if_pos hi]
    exact (List.map_congr_left this).trans (by simp)
  rw [List.map_append, List.map_cons, keep A hA, keep B hB]
  simp [hg, tren, vren, cren, aren, renOf_one]

/-- A number put into an order. -/
theorem ord_put {i : Nat} {ys : List Int} (h : NewNo i ys) {m : Nat} : NewNo (i + 1) (ys.take m ++ (i : Int) :: ys.drop m) := by
  have hp : List.Perm (ys.take m ++ (i : Int) :: ys.drop m) ((i : Int) :: ys) := by
    have := List.perm_middle (a := (i : Int)) (l₁ := ys.take m) (l₂ := ys.drop m)
    rwa [List.take_append_drop] at this
  refine ⟨by rw [hp.length_eq, List.length_cons, h.len], fun x hx => ?_, ?_⟩
  · rcases List.mem_cons.mp (hp.mem_iff.mp hx) with rfl | hx
    · omega
    · have := h.lo x hx; omega
  · rw [hp.nodup_iff, List.nodup_cons]
    exact ⟨fun e => by have := h.lo _ e; omega, h.nd⟩

section
variable {H : VH} {b : Nat} {cd : Value} {xs : List Int} {s : SS} (S : Srce nro H b cd xs s)
include S
/-- One number more. -/
theorem l_l01DrawOrder_step (h0 : VH) (n i ob : Nat) (hin : i < n) (hn62 : n ≤ 62) (ys : List Int) (hy : NewNo i ys) (L X : VH) (s1 : SS) (o1 : SOK xs s1) (hu : ∀ s2, Upd h0 (H.set b (srcO cd s2) ++ L)) (hob : ∀ s2, (H.set b (srcO cd s2) ++ L ++ X)[ob]? = some ⟨1, ints ys⟩) (hLl : H.length + L.length = h0.length) :
    ∃ s2 ys', SOK xs s2 ∧ NewNo (i + 1) ys' ∧ floop (vcall F nro) nro [0, 1, 5, 6] i_spec_l01DrawOrder_B1 h0 [.pointer (some ⟨b, 0, some 3⟩), .int .i64 n, .slice (some ⟨ob, 0, none⟩) i i, .int .i64 i] (H.set b (srcO cd s1) ++ L ++ X) =
      floop (vcall F nro) nro [0, 1, 5, 6] i_spec_l01DrawOrder_B1 h0 [.pointer (some ⟨b, 0, some 3⟩), .int .i64 n, .slice (some ⟨h0.length, 0, none⟩) (i + 1) (i + 1), .int .i64 ((i : Int) + 1)] (H.set b (srcO cd s2) ++ L ++ [⟨1, ints ys'⟩]) := by
  have hlt := S.lt
  have hnb := S.nr
  have e1 := S.nextA (nro := nro) o1 (L ++ X) ((i : Int) + 1) (by omega)
  rw [← List.append_assoc, ← List.append_assoc] at e1
  obtain ⟨a1, a2, _⟩ := srcN_ok S.code s1 ((i : Int) + 1)
  have a3 := a2 (by omega)
  have o2 := srcS_ok o1 ((i : Int) + 1)
  obtain ⟨m, hm⟩ : ∃ m : Nat, srcN xs s1 ((i : Int) + 1) = m := ⟨(srcN xs s1 ((i : Int) + 1)).toNat, by omega⟩
  obtain ⟨s2, hs2⟩ : ∃ q, q = srcS xs s1 ((i : Int) + 1) := ⟨_, rfl⟩
  rw [hm] at e1 a3
  rw [← hs2] at e1 o2
  have hmi : m ≤ i := by omega
  have hyl := hy.len
  obtain ⟨G1, hG1⟩ : ∃ G, G = H.set b (srcO cd s1) ++ L ++ X := ⟨_, rfl⟩
  obtain ⟨G, hG⟩ : ∃ G, G = H.set b (srcO cd s2) ++ L ++ X := ⟨_, rfl⟩
  have hgo := hob s2
  rw [← hG] at hgo e1
  rw [← hG1] at e1
  have hGn : nro ≤ G.length := by rw [hG]; simp; omega
  have hGn' := fun k => Nat.le_trans hGn (Nat.le_add_right G.length k)
  have hgo' := fun K => hget_old hgo K
  have hS : Sli G (.slice (some ⟨ob, 0, none⟩) m i) (ys.take m) := by
    have : (ints ys).take m = ints (ys.take m) := by simp [ints]
    simp [Sli, Sl, hgo, hyl, hmi, this]
  have e2 := c_spec_l01Own (nro := nro) _ (ys.take m) G hS (by simp; omega) hGn
  have htl : (ys.take m).length = m := by simp; omega
  rw [htl] at e2
  have w1 : IntKind.i64.wrap ((i : Int) + 1) = (i : Int) + 1 := wrap64 (by omega) (by omega)
  obtain ⟨T, hT⟩ : ∃ T, T = ys.take m := ⟨_, rfl⟩
  obtain ⟨D, hD⟩ : ∃ D, D = ys.drop m := ⟨_, rfl⟩
  have f1 : ∀ (K : VH), K[ob]? = some ⟨1, ints ys⟩ → vslice 1 K (.slice (some ⟨ob, 0, none⟩) i i) none (some (.int .i64 m)) = some (.slice (some ⟨ob, 0, none⟩) m i) := fun K hK => by simp [vslice, hK, hyl]; omega
  have f2 : ∀ (K : VH), K[ob]? = some ⟨1, ints ys⟩ → vslice 1 K (.slice (some ⟨ob, 0, none⟩) i i) (some (.int .i64 m)) none = some (.slice (some ⟨ob, m, none⟩) (i - m) i) := fun K hK => by simp [vslice, hK, hyl]; omega
  have f3 : ∀ (K : VH), K[ob]? = some ⟨1, ints ys⟩ → vsrc 1 K (.slice (some ⟨ob, m, none⟩) (i - m) i) = some (ints D, i - m) := fun K hK => by
    have e : ((ints ys).drop m).take (i - m) = ints D := by
      rw [hD, List.take_of_length_le (by simp; omega)]
      simp [ints]
    simp [vsrc, hK, hyl, e]; omega
  have hfin : ints T ++ [.int .i64 (i : Int)] ++ ints D = ints (T ++ (i : Int) :: D) := by simp [ints]
  rw [← hT] at e2 htl
  have hDl : D.length = i - m := by rw [hD]; simp; omega
  have hTD := ord_put hy (m := m)
  rw [← hT, ← hD] at hTD
  refine ⟨s2, T ++ (i : Int) :: D, o2, hTD, ?_⟩
  have hcl : ∀ L2, kclean h0 [.pointer (some ⟨b, 0, some 3⟩), .int .i64 n, .slice (some ⟨G.length, 0, none⟩) (i + 1) (i + 1), .int .i64 ((i : Int) + 1)] (G ++ ⟨1, ints (T ++ (i : Int) :: D)⟩ :: L2) = ([.pointer (some ⟨b, 0, some 3⟩), .int .i64 n, .slice (some ⟨h0.length, 0, none⟩) (i + 1) (i + 1), .int .i64 ((i : Int) + 1)], H.set b (srcO cd s2) ++ L ++ [⟨1, ints (T ++ (i : Int) :: D)⟩]) := fun L2 => by
    have := clean_mid_upd (hu s2) (A := [.pointer (some ⟨b, 0, some 3⟩), .int .i64 n]) (B := [.int .i64 ((i : Int) + 1)]) (L := X ++ ⟨1, ints (T ++ (i : Int) :: D)⟩ :: L2) (k := X.length) (off := 0) (n := i + 1) (t := i + 1) (o := ⟨1, ints (T ++ (i : Int) :: D)⟩)
      (by intro v hv; simp at hv; rcases hv with rfl | rfl <;> simp; omega) (by simp) (by rw [hget0]; rfl) (flatO_ints _ _ _)
    rw [hG]
    have hl : (H.set b (srcO cd s2) ++ L ++ X).length = h0.length + X.length := by simp; omega
    rw [hl]
    simpa using this
  have hin2 : (i : Int) < n := by omega
  rw [← hG1]
  have c1 : ((m + 1) * 8 ≤ 1099511627776) = True := by simp; omega
  have c2 : (m < 1099511627776) = True := by simp; omega
  have c3 : (i = ys.length) = True := by simp [hyl]
  have c4 : (m ≤ i) = True := by simp [hmi]
  have c6 : m + 1 + (i - m) = i + 1 := by omega
  have c7 : ((i + 1) * 8 ≤ 1099511627776) = True := by simp; omega
  have c8 : (i < 1099511627776) = True := by simp; omega
  clear hTD hS hG hG1 hs2 hT hD hy hob hu S a1 a2 a3 hm o1 o2 hn62 hmi hnb hlt hLl hyl
  rw [floop_at i_spec_l01DrawOrder_B1.eq_1]
  simp (disch := first | assumption | omega | (simp [*] <;> omega) | fail) [-getElem?_pos, List.getElem?_cons_zero, List.getElem?_cons_succ, hin, hin2, e1, e2, w1, f1, f2, f3, hgo, hgo', hGn, hGn', htl, hfin, hcl, c1, c2, c3, c4, c6, c7, c8, hDl]
  intro x hx hj
  obtain ⟨z, _, rfl⟩ := List.mem_map.mp hx
  cases hj

theorem l_l01DrawOrder (n : Nat) (hn62 : n ≤ 62) : ∀ (k i : Nat), n = i + k → 1 ≤ i → ∀ (ys : List Int) (s1 : SS), NewNo i ys → SOK xs s1 → ∃ s2 ys', SOK xs s2 ∧ NewNo n ys' ∧
    floop (vcall F nro) nro [0, 1, 5, 6] i_spec_l01DrawOrder_B1 (H ++ [⟨1, []⟩]) [.pointer (some ⟨b, 0, some 3⟩), .int .i64 n, .slice (some ⟨H.length + 1, 0, none⟩) i i, .int .i64 i] (H.set b (srcO cd s1) ++ [⟨1, []⟩] ++ [⟨1, ints ys⟩]) =
      some (.exit 0, fl [(5, .slice (some ⟨H.length + 1, 0, none⟩) n n)], H.set b (srcO cd s2) ++ [⟨1, []⟩] ++ [⟨1, ints ys'⟩]) := by
  have hself : H.set b (srcO cd s) = H := hset_self S.at'
  have ho : Old H.length cd := by
    have := (S.sl (srcO cd s)).old
    rwa [hself] at this
  have hlt := S.lt
  have hu : ∀ s2, Upd (H ++ [⟨1, []⟩]) (H.set b (srcO cd s2) ++ [⟨1, []⟩]) := fun s2 => by
    have := (Upd.rfl' (H ++ [⟨1, []⟩])).set' (b := b) (o := srcO cd s2) (flatO_src (ho.le (by simp)) _)
    rwa [List.set_append_left _ _ hlt] at this
  intro k
  induction k with
  | zero =>
    intro i hi h1 ys s1 hy o1
    have : i = n := by omega
    subst this
    refine ⟨s1, ys, o1, hy, ?_⟩
    rw [floop_at i_spec_l01DrawOrder_B1.eq_1]
    simp (disch := first | assumption | omega | (simp [*] <;> omega) | fail) [-getElem?_pos, List.getElem?_cons_zero, List.getElem?_cons_succ, ]
  | succ k ih =>
    intro i hi h1 ys s1 hy o1
    obtain ⟨s2, ys', o2, hy', e⟩ := l_l01DrawOrder_step (nro := nro) S (H ++ [⟨1, []⟩]) n i (H.length + 1) (by omega) hn62 ys hy [⟨1, []⟩] [⟨1, ints ys⟩] s1 o1 hu (fun s2 => by rw [List.append_assoc, hgetS]; rfl) (by simp)
    obtain ⟨s3, ys'', o3, hy'', e2⟩ := ih (i + 1) (by omega) (by omega) ys' s2 hy' o2
    refine ⟨s3, ys'', o3, hy'', ?_⟩
    rw [e]
    rw [show (H ++ [(⟨1, []⟩ : VO)]).length = H.length + 1 by simp]
    rw [show ((i + 1 : Nat) : Int) = (i : Int) + 1 by omega] at e2
    exact e2

/-- A drawn order. -/
theorem c_spec_l01DrawOrder (n : Nat) (h1 : 1 ≤ n) (hn62 : n ≤ 62) : ∃ s' ys, SOK xs s' ∧ NewNo n ys ∧
    vcall F nro k_spec_l01DrawOrder [.pointer (some ⟨b, 0, some 3⟩), .int .i64 n] H = some (.slice (some ⟨H.length, 0, none⟩) n n, H.set b (srcO cd s') ++ [⟨1, ints ys⟩]) := by
  have hself : H.set b (srcO cd s) = H := hset_self S.at'
  have ho : Old H.length cd := by
    have := (S.sl (srcO cd s)).old
    rwa [hself] at this
  have hlt := S.lt
  have hnb := S.nr
  have hn : nro ≤ H.length := by omega
  have hn' := fun k => Nat.le_trans hn (Nat.le_add_right H.length k)
  have hu : ∀ s2, Upd (H ++ [⟨1, []⟩]) (H.set b (srcO cd s2) ++ [⟨1, []⟩]) := fun s2 => by
    have := (Upd.rfl' (H ++ [⟨1, []⟩])).set' (b := b) (o := srcO cd s2) (flatO_src (ho.le (by simp)) _)
    rwa [List.set_append_left _ _ hlt] at this
  obtain ⟨s2, ys', o2, hy', e⟩ := l_l01DrawOrder_step (nro := nro) S (H ++ [⟨1, []⟩]) n 0 H.length (by omega) hn62 [] ⟨rfl, by simp, by simp⟩ [⟨1, []⟩] [] s S.ok hu (fun s2 => by rw [List.append_nil, hgetS0]; rfl) (by simp)
  obtain ⟨s3, ys, o3, hy, e2⟩ := l_l01DrawOrder (nro := nro) S n hn62 (n - 1) 1 (by omega) (Nat.le_refl _) ys' s2 hy' o2
  rw [hself, List.append_nil] at e
  rw [show (H ++ [(⟨1, []⟩ : VO)]).length = H.length + 1 by simp] at e
  simp only [Nat.zero_add, Int.natCast_zero, Int.zero_add, Int.natCast_one] at e e2
  rw [e2] at e
  refine ⟨s3, ys, o3, hy, ?_⟩
  have hcl : kclean H [.slice (some ⟨H.length + 1, 0, none⟩) n n] (H.set b (srcO cd s3) ++ [⟨1, []⟩] ++ [⟨1, ints ys⟩]) = ([.slice (some ⟨H.length, 0, none⟩) n n], H.set b (srcO cd s3) ++ [⟨1, ints ys⟩]) := by
    rw [List.append_assoc, cleanup_one_upd (k := 1) (o := ⟨1, ints ys⟩) ((Upd.rfl' H).set' (b := b) (flatO_src ho s3)) (by simp [trefs, vrefs, crefs, arefs]) rfl (flatO_ints _ _ _)]
    simp [tren, vren, cren, aren, renOf_one]
  clear e2 hy hy' hu S
  refine v_spec_l01DrawOrder (by simp [i_spec_l01DrawOrder]) ?_
  rw [fbody_eq]
  simp only [List.append_assoc, List.cons_append, List.nil_append] at e hcl
  simp (disch := first | assumption | omega | (simp [*] <;> omega) | fail) [-getElem?_pos, List.getElem?_cons_zero, List.getElem?_cons_succ, i_spec_l01DrawOrder, e, hcl, hn, hn']
end
end Go.Proofs.YtghondlbkjponaaDoor.Zv

/- Draws of regular graphs. -/
namespace Go.Proofs.YtghondlbkjponaaDoor.Zv
open Go
variable {nro : Nat}

theorem c_spec_l01Names (h : VH) (hn : nro ≤ h.length) : vcall F nro k_spec_l01Names [] h = some (.slice (some ⟨h.length, 0, none⟩) 15 15, h ++ [⟨1, nmV⟩]) := by
  refine v_spec_l01Names (by simp [i_spec_l01Names]) ?_
  rw [fbody_eq]
  simp (disch := first | assumption | omega | (simp [*] <;> omega) | fail) [i_spec_l01Names, nmV, hn]

section
variable {H : VH} {b : Nat} {cd : Value} {xs : List Int} {s : SS} (S : Srce nro H b cd xs s)
include S
theorem Srce.nextE {s' : SS} (h : SOK xs s') (L : VH) (n : Int) (h1 : n ≤ 9223372036854775807) : ∃ x s2, SOK xs s2 ∧ 0 ≤ x ∧ (1 ≤ n → x < n) ∧ (n < 1 → x = 0) ∧
    vcall F nro k_spec_l01Next [.pointer (some ⟨b, 0, some 3⟩), .int .i64 n] (H.set b (srcO cd s') ++ L) = some (.int .i64 x, H.set b (srcO cd s2) ++ L) := by
  obtain ⟨a1, a2, a3⟩ := srcN_ok S.code s' n
  exact ⟨_, _, srcS_ok h n, a1, a2, a3, S.nextA h L n h1⟩
theorem Srce.pickE {s' : SS} (h : SOK xs s') (L : VH) (k m : Nat) (ys : List Int) (hk : L[k]? = some ⟨1, ints ys⟩) (hm : ys.length = m) (h0 : 1 ≤ m) (h1 : m ≤ 100) : ∃ x s2, SOK xs s2 ∧ x ∈ ys ∧
    vcall F nro k_spec_l01Pick [.pointer (some ⟨b, 0, some 3⟩), .slice (some ⟨H.length + k, 0, none⟩) m m] (H.set b (srcO cd s') ++ L) = some (.int .i64 x, H.set b (srcO cd s2) ++ L) := by
  obtain ⟨a1, a2, _⟩ := srcN_ok S.code s' m
  refine ⟨_, _, srcS_ok h m, ?_, S.pickA h L k m ys hk hm h0 h1⟩
  have := a2 (by omega)
  rw [List.getD_eq_getElem?_getD, List.getElem?_eq_getElem (by omega)]
  exact List.getElem_mem _
theorem Srce.setL (L : VH) (s' s2 : SS) : (H.set b (srcO cd s') ++ L).set b (srcO cd s2) = H.set b (srcO cd s2) ++ L := by
  rw [List.set_append_left _ _ (by simpa using S.lt), List.set_set]
theorem Srce.drawOfE {s' : SS} (h : SOK xs s') (L : VH) (N : Nat) (h1 : 1 ≤ N) (h62 : N ≤ 62) : ∃ rows s2, SOK xs s2 ∧ GV N rows ∧
    vcall F nro k_spec_l01DrawOf [.pointer (some ⟨b, 0, some 3⟩), .int .i64 N] (H.set b (srcO cd s') ++ L) = some (gv N (.slice (some ⟨H.length + L.length, 0, none⟩) N N), H.set b (srcO cd s2) ++ (L ++ [⟨1, ints rows⟩])) := by
  obtain ⟨rows, s2, o2, g, e⟩ := c_spec_l01DrawOf (nro := nro) (S.set h L) N h1 h62
  refine ⟨rows, s2, o2, g, ?_⟩
  rw [e, S.setL, List.append_assoc]
  simp
theorem Srce.orderE {s' : SS} (h : SOK xs s') (L : VH) (N : Nat) (h1 : 1 ≤ N) (h62 : N ≤ 62) : ∃ ys s2, SOK xs s2 ∧ NewNo N ys ∧
    vcall F nro k_spec_l01DrawOrder [.pointer (some ⟨b, 0, some 3⟩), .int .i64 N] (H.set b (srcO cd s') ++ L) = some (.slice (some ⟨H.length + L.length, 0, none⟩) N N, H.set b (srcO cd s2) ++ (L ++ [⟨1, ints ys⟩])) := by
  obtain ⟨s2, ys, o2, g, e⟩ := c_spec_l01DrawOrder (nro := nro) (S.set h L) N h1 h62
  refine ⟨ys, s2, o2, g, ?_⟩
  rw [e, S.setL, List.append_assoc]
  simp
theorem Srce.cleanG {s' : SS} (L : VH) (k N : Nat) (w : Int) (rows : List Int) (hk : L[k]? = some ⟨1, ints rows⟩) : kclean H [.agg #[.int .i64 w, .slice (some ⟨H.length + k, 0, none⟩) N N]] (H.set b (srcO cd s') ++ L) = ([.agg #[.int .i64 w, .slice (some ⟨H.length, 0, none⟩) N N]], H.set b (srcO cd s') ++ [⟨1, ints rows⟩]) := by
  have hself : H.set b (srcO cd s) = H := hset_self S.at'
  have ho : Old H.length cd := by
    have := (S.sl (srcO cd s)).old
    rwa [hself] at this
  rw [cleanup_one_upd (k := k) (o := ⟨1, ints rows⟩) ((Upd.rfl' H).set' (b := b) (flatO_src ho s')) (by simp [trefs, vrefs, crefs, arefs]) hk (flatO_ints _ _ _)]
  simp [tren, vren, cren, aren, renOf_one]
theorem Srce.namedE {s' : SS} (L : VH) (v : Value) (hv : v ∈ nmV) : ∃ (N : Nat) (rows : List Int), GV N rows ∧ vcall F nro k_spec_l01Named [v] (H.set b (srcO cd s') ++ L) = some (.tuple #[gv N (.slice (some ⟨H.length + L.length, 0, none⟩) N N), .bool true], H.set b (srcO cd s') ++ (L ++ [⟨1, ints rows⟩])) := by
  have hlt := S.lt
  have hnb := S.nr
  obtain ⟨N, rows, g, e⟩ := nm_all (nro := nro) v hv (H.set b (srcO cd s') ++ L) (by simp; omega)
  refine ⟨N, rows, g, ?_⟩
  rw [e, List.append_assoc]
  simp
theorem Srce.jumpsE {s' : SS} (L : VH) (t : Value) (js : List Int) (ht : Sli (H.set b (srcO cd s') ++ L) t js) (N : Nat) (h3 : 3 ≤ N) (h62 : N ≤ 62) (hj : ∀ x ∈ js, 1 ≤ x ∧ x < N) (hjl : js.length ≤ 100) :
    ∃ rows, GV N rows ∧ vcall F nro k_spec_l01Jumps [.int .i64 N, t] (H.set b (srcO cd s') ++ L) = some (gv N (.slice (some ⟨H.length + L.length, 0, none⟩) N N), H.set b (srcO cd s') ++ (L ++ [⟨1, ints rows⟩])) := by
  have hlt := S.lt
  have hnb := S.nr
  obtain ⟨rows, g, e⟩ := c_spec_l01Jumps (nro := nro) (H.set b (srcO cd s') ++ L) t js ht (by simp; omega) N h3 h62 hj hjl
  refine ⟨rows, g, ?_⟩
  rw [e, List.append_assoc]
  simp
theorem Srce.renamedE {s' : SS} (L : VH) (k j N : Nat) (rows ps : List Int) (hk : L[k]? = some ⟨1, ints rows⟩) (hj : L[j]? = some ⟨1, ints ps⟩) (g : GV N rows) (hp : NewNo N ps) :
    ∃ rows', GV N rows' ∧ vcall F nro k_spec_l01Renamed [gv N (.slice (some ⟨H.length + k, 0, none⟩) N N), .slice (some ⟨H.length + j, 0, none⟩) N N] (H.set b (srcO cd s') ++ L) = some (gv N (.slice (some ⟨H.length + L.length, 0, none⟩) N N), H.set b (srcO cd s') ++ (L ++ [⟨1, ints rows'⟩])) := by
  have hlt := S.lt
  have hnb := S.nr
  have l1 := g.rok.len
  have l2 := hp.1
  have s1 := sli_at (h := H.set b (srcO cd s') ++ L) (b := H.length + k) (xs := rows) (by rw [hgetS]; exact hk)
  have s2 := sli_at (h := H.set b (srcO cd s') ++ L) (b := H.length + j) (xs := ps) (by rw [hgetS]; exact hj)
  rw [l1] at s1
  rw [l2] at s2
  obtain ⟨rows', g', e⟩ := c_spec_l01Renamed (nro := nro) (H.set b (srcO cd s') ++ L) N _ _ rows ps s1 s2 g hp (by simp; omega)
  refine ⟨rows', g', ?_⟩
  rw [e, List.append_assoc]
  simp
end
end Go.Proofs.YtghondlbkjponaaDoor.Zv

/- Draws of regular graphs, of graphs, of what may be none. -/
namespace Go.Proofs.YtghondlbkjponaaDoor.Zv
open Go
variable {nro : Nat}
section
variable {H : VH} {b : Nat} {cd : Value} {xs : List Int} {s : SS} (S : Srce nro H b cd xs s)
include S

set_option maxHeartbeats 4000000 in
theorem c_spec_l01DrawRegular : ∃ (N : Nat) (rows : List Int) (s' : SS), SOK xs s' ∧ GV N rows ∧
    vcall F nro k_spec_l01DrawRegular [.pointer (some ⟨b, 0, some 3⟩)] H = some (gv N (.slice (some ⟨H.length, 0, none⟩) N N), H.set b (srcO cd s') ++ [⟨1, ints rows⟩]) := by
  have hlt := S.lt
  have hnb := S.nr
  have hn : nro ≤ H.length := by omega
  have hn' := fun k => Nat.le_trans hn (Nat.le_add_right H.length k)
  have hself : H.set b (srcO cd s) = H := hset_self S.at'
  have e0 := c_spec_l01Names (nro := nro) (H ++ [⟨0, [.int .i64 0, .slice none 0 0]⟩]) (by simp; omega)
  obtain ⟨x1, s1, o1, m1, e1⟩ := S.pickE S.ok [⟨0, [.int .i64 0, .slice none 0 0]⟩, ⟨1, nmV⟩, ⟨1, ints [6, 13, 15]⟩] 2 3 [6, 13, 15] rfl rfl (by omega) (by omega)
  rw [hself] at e1
  have hx1 : 1 ≤ x1 ∧ x1 ≤ 15 := by
    simp only [List.mem_cons, List.not_mem_nil, or_false] at m1
    omega
  obtain ⟨x2, s2, o2, a2, b2, _, e2⟩ := S.nextE o1 [⟨0, [.int .i64 0, .slice none 0 0]⟩, ⟨1, nmV⟩, ⟨1, ints [6, 13, 15]⟩] x1 (by omega)
  have c2 := b2 hx1.1
  have c3 : x2 < 15 := by omega
  have hln : nmV.length = 15 := rfl
  obtain ⟨nm, hnm⟩ : ∃ v, v = nmV[x2.toNat]'(by omega) := ⟨_, rfl⟩
  have i2 : List.take 1 (List.drop x2.toNat nmV) = [nm] := by
    have hq : x2.toNat < nmV.length := by omega
    rw [List.drop_eq_getElem_cons hq, hnm]
    rfl
  have hmem : nm ∈ nmV := by rw [hnm]; exact List.getElem_mem _
  obtain ⟨N1, r1, g1, e3⟩ := S.namedE (s' := s2) [⟨0, [.int .i64 0, .slice none 0 0]⟩, ⟨1, nmV⟩, ⟨1, ints [6, 13, 15]⟩] nm hmem
  have l1 := g1.rok.len
  have k1 := g1.rok.le
  have k2 := g1.lo
  obtain ⟨nv, hnv⟩ : ∃ v, v = nmV := ⟨_, rfl⟩
  rw [← hnv] at e0 e1 e2 e3 i2 hln
  obtain ⟨x4, s4, o4, a4, b4, _, e4⟩ := S.nextE o2 [⟨0, [.int .i64 0, .slice none 0 0]⟩, ⟨1, nv⟩, ⟨1, ints [6, 13, 15]⟩, ⟨1, ints r1⟩, ⟨0, [.int .i64 N1, .slice (some ⟨H.length + 3, 0, none⟩) N1 N1]⟩] 3 (by omega)
  simp [-List.reduceReplicate] at e0 e1 e2 e3 e4
  clear hmem hnm m1 hx1 c2 b2 b4 a4 hnv
  by_cases z : x4 = 0
  · obtain ⟨x5, s5, o5, a5, b5, _, e5⟩ := S.nextE o4 [⟨0, [.int .i64 0, .slice none 0 0]⟩, ⟨1, nv⟩, ⟨1, ints [6, 13, 15]⟩, ⟨1, ints r1⟩, ⟨0, [.int .i64 N1, .slice (some ⟨H.length + 3, 0, none⟩) N1 N1]⟩] 14 (by omega)
    have c5 := b5 (by omega)
    have w5 : IntKind.i64.wrap (3 + x5) = 3 + x5 := wrap64 (by omega) (by omega)
    obtain ⟨N2, hN2⟩ : ∃ N2 : Nat, 3 + x5 = N2 := ⟨(3 + x5).toNat, by omega⟩
    obtain ⟨r2, g2, e6⟩ := S.jumpsE (s' := s5) [⟨0, [.int .i64 0, .slice none 0 0]⟩, ⟨1, nv⟩, ⟨1, ints [6, 13, 15]⟩, ⟨1, ints r1⟩, ⟨0, [.int .i64 N1, .slice (some ⟨H.length + 3, 0, none⟩) N1 N1]⟩] (.slice none 0 0) [] (by simp [Sli, Sl]) N2 (by omega) (by omega) (by simp) (by simp)
    have l2 := g2.rok.len
    obtain ⟨x7, s7, o7, a7, b7, _, e7⟩ := S.nextE o5 [⟨0, [.int .i64 0, .slice none 0 0]⟩, ⟨1, nv⟩, ⟨1, ints [6, 13, 15]⟩, ⟨1, ints r1⟩, ⟨0, [.int .i64 N2, .slice (some ⟨H.length + 5, 0, none⟩) N2 N2]⟩, ⟨1, ints r2⟩] 2 (by omega)
    have q2 : 3 ≤ N2 ∧ N2 ≤ 62 := by omega
    simp [-List.reduceReplicate] at e5 e6 e7
    rw [hN2] at w5
    clear b5 c5 a5 b7 a7
    by_cases z2 : x7 = 0
    · obtain ⟨x8, s8, o8, a8, b8, _, e8⟩ := S.nextE o7 [⟨0, [.int .i64 0, .slice none 0 0]⟩, ⟨1, nv⟩, ⟨1, ints [6, 13, 15]⟩, ⟨1, ints r1⟩, ⟨0, [.int .i64 N2, .slice (some ⟨H.length + 5, 0, none⟩) N2 N2]⟩, ⟨1, ints r2⟩] ((N2 : Int) - 1) (by omega)
      have c8 := b8 (by omega)
      have w8 : IntKind.i64.wrap ((N2 : Int) - 1) = (N2 : Int) - 1 := wrap64 (by omega) (by omega)
      have w9 : IntKind.i64.wrap (1 + x8) = 1 + x8 := wrap64 (by omega) (by omega)
      obtain ⟨y, hy⟩ : ∃ y, 1 + x8 = y := ⟨_, rfl⟩
      obtain ⟨r3, g3, e9⟩ := S.jumpsE (s' := s8) [⟨0, [.int .i64 0, .slice none 0 0]⟩, ⟨1, nv⟩, ⟨1, ints [6, 13, 15]⟩, ⟨1, ints r1⟩, ⟨0, [.int .i64 N2, .slice (some ⟨H.length + 5, 0, none⟩) N2 N2]⟩, ⟨1, ints r2⟩, ⟨1, ints [y]⟩] (.slice (some ⟨H.length + 6, 0, none⟩) 1 1) [y] (by simp [Sli, Sl, hgetS]) N2 q2.1 q2.2 (by intro q hq; simp at hq; omega) (by simp)
      have l3 := g3.rok.len
      obtain ⟨x10, s10, o10, a10, b10, _, e10⟩ := S.nextE o8 [⟨0, [.int .i64 0, .slice none 0 0]⟩, ⟨1, nv⟩, ⟨1, ints [6, 13, 15]⟩, ⟨1, ints r1⟩, ⟨0, [.int .i64 N2, .slice (some ⟨H.length + 7, 0, none⟩) N2 N2]⟩, ⟨1, ints r2⟩, ⟨1, ints [y]⟩, ⟨1, ints r3⟩] 2 (by omega)
      simp [-List.reduceReplicate] at e8 e9 e10
      rw [hy] at w9
      clear b8 c8 a8 b10 a10
      by_cases z3 : x10 = 0
      · obtain ⟨ps, s11, o11, hp, e11⟩ := S.orderE o10 [⟨0, [.int .i64 0, .slice none 0 0]⟩, ⟨1, nv⟩, ⟨1, ints [6, 13, 15]⟩, ⟨1, ints r1⟩, ⟨0, [.int .i64 N2, .slice (some ⟨H.length + 7, 0, none⟩) N2 N2]⟩, ⟨1, ints r2⟩, ⟨1, ints [y]⟩, ⟨1, ints r3⟩] N2 (by omega) q2.2
        obtain ⟨r4, g4, e12⟩ := S.renamedE (s' := s11) [⟨0, [.int .i64 0, .slice none 0 0]⟩, ⟨1, nv⟩, ⟨1, ints [6, 13, 15]⟩, ⟨1, ints r1⟩, ⟨0, [.int .i64 N2, .slice (some ⟨H.length + 7, 0, none⟩) N2 N2]⟩, ⟨1, ints r2⟩, ⟨1, ints [y]⟩, ⟨1, ints r3⟩, ⟨1, ints ps⟩] 7 8 N2 r3 ps rfl rfl g3 hp
        refine ⟨N2, r4, s11, o11, g4, ?_⟩
        have hc := S.cleanG (s' := s11) [⟨0, [.int .i64 N2, .slice (some ⟨H.length + 9, 0, none⟩) N2 N2]⟩, ⟨1, nv⟩, ⟨1, ints [6, 13, 15]⟩, ⟨1, ints r1⟩, ⟨0, [.int .i64 N2, .slice (some ⟨H.length + 7, 0, none⟩) N2 N2]⟩, ⟨1, ints r2⟩, ⟨1, ints [y]⟩, ⟨1, ints r3⟩, ⟨1, ints ps⟩, ⟨1, ints r4⟩] 9 N2 N2 r4 rfl
        simp at e11 e12 hc
        clear S o1 o2 o4 o5 o7 o8 o10 o11 hp g1 g2 g3 g4 q2 l1 l2 l3 k1 k2 hself
        refine v_spec_l01DrawRegular (by simp [i_spec_l01DrawRegular]) ?_
        rw [fbody_eq]
        simp (disch := first | assumption | omega | (simp [*] <;> omega) | fail) [-getElem?_pos, List.getElem?_cons_zero, List.getElem?_cons_succ, i_spec_l01DrawRegular, e0, e1, e2, hln, a2, c3, i2, e3, e4, z, e5, w5, hN2, e6, e7, z2, e8, w8, w9, hy, e9, e10, z3, e11, e12, hc, hn, hn', fresults, fresL, fres1, hgetS, hsetS, hgetS0, hsetS0]
      · refine ⟨N2, r3, s10, o10, g3, ?_⟩
        have hc := S.cleanG (s' := s10) [⟨0, [.int .i64 N2, .slice (some ⟨H.length + 7, 0, none⟩) N2 N2]⟩, ⟨1, nv⟩, ⟨1, ints [6, 13, 15]⟩, ⟨1, ints r1⟩, ⟨0, [.int .i64 N2, .slice (some ⟨H.length + 7, 0, none⟩) N2 N2]⟩, ⟨1, ints r2⟩, ⟨1, ints [y]⟩, ⟨1, ints r3⟩] 7 N2 N2 r3 rfl
        simp at hc
        clear S o1 o2 o4 o5 o7 o8 o10 g1 g2 g3 q2 l1 l2 l3 k1 k2 hself
        refine v_spec_l01DrawRegular (by simp [i_spec_l01DrawRegular]) ?_
        rw [fbody_eq]
        simp (disch := first | assumption | omega | (simp [*] <;> omega) | fail) [-getElem?_pos, List.getElem?_cons_zero, List.getElem?_cons_succ, i_spec_l01DrawRegular, e0, e1, e2, hln, a2, c3, i2, e3, e4, z, e5, w5, hN2, e6, e7, z2, e8, w8, w9, hy, e9, e10, z3, hc, hn, hn', fresults, fresL, fres1, hgetS, hsetS, hgetS0, hsetS0]
    · obtain ⟨x10, s10, o10, a10, b10, _, e10⟩ := S.nextE o7 [⟨0, [.int .i64 0, .slice none 0 0]⟩, ⟨1, nv⟩, ⟨1, ints [6, 13, 15]⟩, ⟨1, ints r1⟩, ⟨0, [.int .i64 N2, .slice (some ⟨H.length + 5, 0, none⟩) N2 N2]⟩, ⟨1, ints r2⟩] 2 (by omega)
      simp [-List.reduceReplicate] at e10
      clear b10 a10
      by_cases z3 : x10 = 0
      · obtain ⟨ps, s11, o11, hp, e11⟩ := S.orderE o10 [⟨0, [.int .i64 0, .slice none 0 0]⟩, ⟨1, nv⟩, ⟨1, ints [6, 13, 15]⟩, ⟨1, ints r1⟩, ⟨0, [.int .i64 N2, .slice (some ⟨H.length + 5, 0, none⟩) N2 N2]⟩, ⟨1, ints r2⟩] N2 (by omega) q2.2
        obtain ⟨r4, g4, e12⟩ := S.renamedE (s' := s11) [⟨0, [.int .i64 0, .slice none 0 0]⟩, ⟨1, nv⟩, ⟨1, ints [6, 13, 15]⟩, ⟨1, ints r1⟩, ⟨0, [.int .i64 N2, .slice (some ⟨H.length + 5, 0, none⟩) N2 N2]⟩, ⟨1, ints r2⟩, ⟨1, ints ps⟩] 5 6 N2 r2 ps rfl rfl g2 hp
        refine ⟨N2, r4, s11, o11, g4, ?_⟩
        have hc := S.cleanG (s' := s11) [⟨0, [.int .i64 N2, .slice (some ⟨H.length + 7, 0, none⟩) N2 N2]⟩, ⟨1, nv⟩, ⟨1, ints [6, 13, 15]⟩, ⟨1, ints r1⟩, ⟨0, [.int .i64 N2, .slice (some ⟨H.length + 5, 0, none⟩) N2 N2]⟩, ⟨1, ints r2⟩, ⟨1, ints ps⟩, ⟨1, ints r4⟩] 7 N2 N2 r4 rfl
        simp at e11 e12 hc
        clear S o1 o2 o4 o5 o7 o10 o11 hp g1 g2 g4 q2 l1 l2 k1 k2 hself
        refine v_spec_l01DrawRegular (by simp [i_spec_l01DrawRegular]) ?_
        rw [fbody_eq]
        simp (disch := first | assumption | omega | (simp [*] <;> omega) | fail) [-getElem?_pos, List.getElem?_cons_zero, List.getElem?_cons_succ, i_spec_l01DrawRegular, e0, e1, e2, hln, a2, c3, i2, e3, e4, z, e5, w5, hN2, e6, e7, z2, e10, z3, e11, e12, hc, hn, hn', fresults, fresL, fres1, hgetS, hsetS, hgetS0, hsetS0]
      · refine ⟨N2, r2, s10, o10, g2, ?_⟩
        have hc := S.cleanG (s' := s10) [⟨0, [.int .i64 N2, .slice (some ⟨H.length + 5, 0, none⟩) N2 N2]⟩, ⟨1, nv⟩, ⟨1, ints [6, 13, 15]⟩, ⟨1, ints r1⟩, ⟨0, [.int .i64 N2, .slice (some ⟨H.length + 5, 0, none⟩) N2 N2]⟩, ⟨1, ints r2⟩] 5 N2 N2 r2 rfl
        simp at hc
        clear S o1 o2 o4 o5 o7 o10 g1 g2 q2 l1 l2 k1 k2 hself
        refine v_spec_l01DrawRegular (by simp [i_spec_l01DrawRegular]) ?_
        rw [fbody_eq]
        simp (disch := first | assumption | omega | (simp [*] <;> omega) | fail) [-getElem?_pos, List.getElem?_cons_zero, List.getElem?_cons_succ, i_spec_l01DrawRegular, e0, e1, e2, hln, a2, c3, i2, e3, e4, z, e5, w5, hN2, e6, e7, z2, e10, z3, hc, hn, hn', fresults, fresL, fres1, hgetS, hsetS, hgetS0, hsetS0]
  · obtain ⟨x10, s10, o10, a10, b10, _, e10⟩ := S.nextE o4 [⟨0, [.int .i64 0, .slice none 0 0]⟩, ⟨1, nv⟩, ⟨1, ints [6, 13, 15]⟩, ⟨1, ints r1⟩, ⟨0, [.int .i64 N1, .slice (some ⟨H.length + 3, 0, none⟩) N1 N1]⟩] 2 (by omega)
    simp [-List.reduceReplicate] at e10
    clear b10 a10
    by_cases z3 : x10 = 0
    · obtain ⟨ps, s11, o11, hp, e11⟩ := S.orderE o10 [⟨0, [.int .i64 0, .slice none 0 0]⟩, ⟨1, nv⟩, ⟨1, ints [6, 13, 15]⟩, ⟨1, ints r1⟩, ⟨0, [.int .i64 N1, .slice (some ⟨H.length + 3, 0, none⟩) N1 N1]⟩] N1 (by omega) k1
      obtain ⟨r4, g4, e12⟩ := S.renamedE (s' := s11) [⟨0, [.int .i64 0, .slice none 0 0]⟩, ⟨1, nv⟩, ⟨1, ints [6, 13, 15]⟩, ⟨1, ints r1⟩, ⟨0, [.int .i64 N1, .slice (some ⟨H.length + 3, 0, none⟩) N1 N1]⟩, ⟨1, ints ps⟩] 3 5 N1 r1 ps rfl rfl g1 hp
      refine ⟨N1, r4, s11, o11, g4, ?_⟩
      have hc := S.cleanG (s' := s11) [⟨0, [.int .i64 N1, .slice (some ⟨H.length + 6, 0, none⟩) N1 N1]⟩, ⟨1, nv⟩, ⟨1, ints [6, 13, 15]⟩, ⟨1, ints r1⟩, ⟨0, [.int .i64 N1, .slice (some ⟨H.length + 3, 0, none⟩) N1 N1]⟩, ⟨1, ints ps⟩, ⟨1, ints r4⟩] 6 N1 N1 r4 rfl
      simp at e11 e12 hc
      clear S o1 o2 o4 o10 o11 hp g1 g4 l1 k1 k2 hself
      refine v_spec_l01DrawRegular (by simp [i_spec_l01DrawRegular]) ?_
      rw [fbody_eq]
      simp (disch := first | assumption | omega | (simp [*] <;> omega) | fail) [-getElem?_pos, List.getElem?_cons_zero, List.getElem?_cons_succ, i_spec_l01DrawRegular, e0, e1, e2, hln, a2, c3, i2, e3, e4, z, e10, z3, e11, e12, hc, hn, hn', fresults, fresL, fres1, hgetS, hsetS, hgetS0, hsetS0]
    · refine ⟨N1, r1, s10, o10, g1, ?_⟩
      have hc := S.cleanG (s' := s10) [⟨0, [.int .i64 N1, .slice (some ⟨H.length + 3, 0, none⟩) N1 N1]⟩, ⟨1, nv⟩, ⟨1, ints [6, 13, 15]⟩, ⟨1, ints r1⟩, ⟨0, [.int .i64 N1, .slice (some ⟨H.length + 3, 0, none⟩) N1 N1]⟩] 3 N1 N1 r1 rfl
      simp at hc
      clear S o1 o2 o4 o10 g1 l1 k1 k2 hself
      refine v_spec_l01DrawRegular (by simp [i_spec_l01DrawRegular]) ?_
      rw [fbody_eq]
      simp (disch := first | assumption | omega | (simp [*] <;> omega) | fail) [-getElem?_pos, List.getElem?_cons_zero, List.getElem?_cons_succ, i_spec_l01DrawRegular, e0, e1, e2, hln, a2, c3, i2, e3, e4, z, e10, z3, hc, hn, hn', fresults, fresL, fres1, hgetS, hsetS, hgetS0, hsetS0]
end
end Go.Proofs.YtghondlbkjponaaDoor.Zv

/- Draws of graphs, and of what may be none. -/
namespace Go.Proofs.YtghondlbkjponaaDoor.Zv
open Go
variable {nro : Nat}
section
variable {H : VH} {b : Nat} {cd : Value} {xs : List Int} {s : SS} (S : Srce nro H b cd xs s)
include S
/-- A graph that is drawn. -/
theorem c_spec_l01Draw : ∃ (N : Nat) (rows : List Int) (s' : SS), SOK xs s' ∧ GV N rows ∧
    vcall F nro k_spec_l01Draw [.pointer (some ⟨b, 0, some 3⟩)] H = some (gv N (.slice (some ⟨H.length, 0, none⟩) N N), H.set b (srcO cd s') ++ [⟨1, ints rows⟩]) := by
  have hlt := S.lt
  have hnb := S.nr
  have hn : nro ≤ H.length := by omega
  have hn' := fun k => Nat.le_trans hn (Nat.le_add_right H.length k)
  have hself : H.set b (srcO cd s) = H := hset_self S.at'
  obtain ⟨x1, s1, o1, a1, b1, _, e1⟩ := S.nextE S.ok [⟨0, [.int .i64 0, .slice none 0 0]⟩] 4 (by omega)
  rw [hself] at e1
  by_cases c1 : x1 = 0
  · obtain ⟨N, rows, s2, o2, g, e2⟩ := c_spec_l01DrawRegular (S.set o1 [⟨0, [.int .i64 0, .slice none 0 0]⟩])
    rw [S.setL] at e2
    refine ⟨N, rows, s2, o2, g, ?_⟩
    have hl := g.rok.len
    have hc := S.cleanG (s' := s2) [⟨0, [.int .i64 N, .slice (some ⟨H.length + 1, 0, none⟩) N N]⟩, ⟨1, ints rows⟩] 1 N N rows rfl
    simp at e1 e2 hc
    clear S o1 o2 g hl hself b1
    refine v_spec_l01Draw (by simp [i_spec_l01Draw]) ?_
    rw [fbody_eq]
    simp (disch := first | assumption | omega | (simp [*] <;> omega) | fail) [-getElem?_pos, List.getElem?_cons_zero, List.getElem?_cons_succ, i_spec_l01Draw, e1, c1, e2, hc, hn, hn', fresults, fresL, fres1, hgetS, hsetS, hgetS0, hsetS0]
  · by_cases c2 : x1 = 1
    · obtain ⟨x2, s2, o2, m2, e2⟩ := S.pickE o1 [⟨0, [.int .i64 0, .slice none 0 0]⟩, ⟨1, ints [1, 10, 20, 40, 61, 62]⟩] 1 6 [1, 10, 20, 40, 61, 62] rfl rfl (by omega) (by omega)
      have hx2 : 1 ≤ x2 ∧ x2 ≤ 62 := by
        simp only [List.mem_cons, List.not_mem_nil, or_false] at m2
        omega
      obtain ⟨N, rfl⟩ : ∃ N : Nat, x2 = N := ⟨x2.toNat, by omega⟩
      obtain ⟨rows, s3, o3, g, e3⟩ := S.drawOfE o2 [⟨0, [.int .i64 0, .slice none 0 0]⟩, ⟨1, ints [1, 10, 20, 40, 61, 62]⟩] N (by omega) (by omega)
      refine ⟨N, rows, s3, o3, g, ?_⟩
      have hc := S.cleanG (s' := s3) [⟨0, [.int .i64 N, .slice (some ⟨H.length + 2, 0, none⟩) N N]⟩, ⟨1, ints [1, 10, 20, 40, 61, 62]⟩, ⟨1, ints rows⟩] 2 N N rows rfl
      simp at e1 e2 e3 hc
      clear S o1 o2 o3 g hself b1 m2 hx2
      refine v_spec_l01Draw (by simp [i_spec_l01Draw]) ?_
      rw [fbody_eq]
      simp (disch := first | assumption | omega | (simp [*] <;> omega) | fail) [-getElem?_pos, List.getElem?_cons_zero, List.getElem?_cons_succ, i_spec_l01Draw, e1, c2, e2, e3, hc, hn, hn', fresults, fresL, fres1, hgetS, hsetS, hgetS0, hsetS0]
    · obtain ⟨x2, s2, o2, a2, b2, _, e2⟩ := S.nextE o1 [⟨0, [.int .i64 0, .slice none 0 0]⟩] 14 (by omega)
      have hx2 := b2 (by omega)
      obtain ⟨N, hN⟩ : ∃ N : Nat, 1 + x2 = N := ⟨(1 + x2).toNat, by omega⟩
      have w1 : IntKind.i64.wrap (1 + x2) = 1 + x2 := wrap64 (by omega) (by omega)
      rw [hN] at w1
      obtain ⟨rows, s3, o3, g, e3⟩ := S.drawOfE o2 [⟨0, [.int .i64 0, .slice none 0 0]⟩] N (by omega) (by omega)
      refine ⟨N, rows, s3, o3, g, ?_⟩
      have hc := S.cleanG (s' := s3) [⟨0, [.int .i64 N, .slice (some ⟨H.length + 1, 0, none⟩) N N]⟩, ⟨1, ints rows⟩] 1 N N rows rfl
      simp at e1 e2 e3 hc
      clear S o1 o2 o3 g hself b1 b2 hx2
      refine v_spec_l01Draw (by simp [i_spec_l01Draw]) ?_
      rw [fbody_eq]
      simp (disch := first | assumption | omega | (simp [*] <;> omega) | fail) [-getElem?_pos, List.getElem?_cons_zero, List.getElem?_cons_succ, i_spec_l01Draw, e1, c1, c2, e2, hN, w1, e3, hc, hn, hn', fresults, fresL, fres1, hgetS, hsetS, hgetS0, hsetS0]

set_option maxHeartbeats 4000000 in
/-- What may be no graph: the graph itself, or something fresh. -/
theorem c_spec_l01Bad (N : Nat) (sv : Value) (rows : List Int) (g : GV N rows) (hs : ∀ o, Sli (H.set b o) sv rows) (hc0 : ∀ r ∈ arefs sv, r ≠ b) : ∃ (n' : Int) (v : Value) (rows' : List Int) (s' : SS) (M : VH), SOK xs s' ∧
    vcall F nro k_spec_l01Bad [.pointer (some ⟨b, 0, some 3⟩), gv N sv] H = some (gv n' v, H.set b (srcO cd s') ++ M) ∧ rows'.length ≤ 63 ∧ -9223372036854775808 ≤ n' ∧ n' ≤ 9223372036854775807 ∧
    ((M = [] ∧ n' = N ∧ v = sv ∧ rows' = rows) ∨ (M = [⟨1, ints rows'⟩] ∧ v = .slice (some ⟨H.length, 0, none⟩) rows'.length rows'.length)) := by
  have hlt := S.lt
  have hnb := S.nr
  have hn : nro ≤ H.length := by omega
  have hn' := fun k => Nat.le_trans hn (Nat.le_add_right H.length k)
  have hself : H.set b (srcO cd s) = H := hset_self S.at'
  have hs0 := hs (srcO cd s)
  rw [hself] at hs0
  have hl := g.rok.len
  have hle := g.rok.le
  have hlo := g.lo
  have ho : Old H.length sv := hs0.old
  have hsh : ∃ a n t, sv = .slice (some a) n t := by
    have hne : ints rows ≠ [] := fun e => by
      have := congrArg List.length e
      rw [ints_length, hl] at this
      simp at this
      omega
    rcases Sl.inv hs0 with ⟨_, h⟩ | ⟨_, h⟩ | ⟨a, n, t, o, h, _⟩
    · exact absurd h hne
    · exact absurd h hne
    · exact ⟨a, n, t, h⟩
  have e0 := c_spec_l01Own (nro := nro) sv rows (H ++ [⟨0, [.int .i64 N, sv]⟩, ⟨0, [.int .i64 0, .slice none 0 0]⟩]) (hs0.app _) (by omega) (by simp; omega)
  obtain ⟨x1, s1, o1, a1, b1, _, e1⟩ := S.nextE S.ok [⟨0, [.int .i64 N, sv]⟩, ⟨0, [.int .i64 0, .slice none 0 0]⟩, ⟨1, ints rows⟩] 50 (by omega)
  rw [hself] at e1
  rw [hl] at e0
  have hso := fun k => hs0.oldCk (k := k)
  by_cases c1 : x1 = 0
  · obtain ⟨y, hy⟩ : ∃ y, y = (N : Int) + 1 := ⟨_, rfl⟩
    have wN : IntKind.i64.wrap ((N : Int) + 1) = y := by rw [hy]; exact wrap64 (by omega) (by omega)
    obtain ⟨x2, s2, o2, m2, e2⟩ := S.pickE o1 [⟨0, [.int .i64 N, sv]⟩, ⟨0, [.int .i64 0, .slice none 0 0]⟩, ⟨1, ints rows⟩, ⟨1, ints [0, 63, -1, y]⟩] 3 4 [0, 63, -1, y] rfl rfl (by omega) (by omega)
    have hx2 : -1 ≤ x2 ∧ x2 ≤ 63 := by
      simp only [List.mem_cons, List.not_mem_nil, or_false] at m2
      omega
    refine ⟨x2, .slice (some ⟨H.length, 0, none⟩) rows.length rows.length, rows, s2, [⟨1, ints rows⟩], o2, ?_, by omega, by omega, by omega, .inr ⟨rfl, rfl⟩⟩
    rw [hl]
    have hc := S.cleanG (s' := s2) [⟨0, [.int .i64 N, sv]⟩, ⟨0, [.int .i64 x2, .slice (some ⟨H.length + 2, 0, none⟩) N N]⟩, ⟨1, ints rows⟩, ⟨1, ints [0, 63, -1, y]⟩] 2 N x2 rows rfl
    simp at e0 e1 e2 hc
    clear S o1 o2 g hself b1 m2 hx2 hs hs0 hl hy
    refine v_spec_l01Bad (by simp [i_spec_l01Bad]) ?_
    rw [fbody_eq]
    simp (disch := first | assumption | omega | (simp [*] <;> omega) | fail) [-getElem?_pos, List.getElem?_cons_zero, List.getElem?_cons_succ, i_spec_l01Bad, e0, e1, c1, wN, e2, hc, hn, hn', hso, fresults, fresL, fres1, hgetS, hsetS, hgetS0, hsetS0]
  · by_cases c2 : x1 = 1
    · obtain ⟨x2, s2, o2, a2, b2, _, e2⟩ := S.nextE o1 [⟨0, [.int .i64 N, sv]⟩, ⟨0, [.int .i64 0, .slice none 0 0]⟩, ⟨1, ints rows⟩] N (by omega)
      have k2 := b2 (by omega)
      have wN : IntKind.u64.wrap (N : Int) = N := wrapu64 (by omega) (by omega)
      obtain ⟨y, hy⟩ : ∃ y, ishl .i64 1 (N : Int) = y := ⟨_, rfl⟩
      obtain ⟨x3, s3, o3, m3, e3⟩ := S.pickE o2 [⟨0, [.int .i64 N, sv]⟩, ⟨0, [.int .i64 0, .slice none 0 0]⟩, ⟨1, ints rows⟩, ⟨1, ints [-1, 1, 2, 4611686018427387904, y]⟩] 3 5 [-1, 1, 2, 4611686018427387904, y] rfl rfl (by omega) (by omega)
      refine ⟨N, .slice (some ⟨H.length, 0, none⟩) (rows.set x2.toNat x3).length (rows.set x2.toNat x3).length, rows.set x2.toNat x3, s3, [⟨1, ints (rows.set x2.toNat x3)⟩], o3, ?_, by simp; omega, by omega, by omega, .inr ⟨rfl, rfl⟩⟩
      have hl2 : (rows.set x2.toNat x3).length = N := by simp [hl]
      rw [hl2]
      have hx2 : x2.toNat < rows.length := by omega
      have hsp := splice_ints (xs := rows) (j := x2.toNat) (v := x3) hx2
      have hc := S.cleanG (s' := s3) [⟨0, [.int .i64 N, sv]⟩, ⟨0, [.int .i64 N, .slice (some ⟨H.length + 2, 0, none⟩) N N]⟩, ⟨1, ints (rows.set x2.toNat x3)⟩, ⟨1, ints [-1, 1, 2, 4611686018427387904, y]⟩] 2 N N (rows.set x2.toNat x3) rfl
      simp at e0 e1 e2 e3 hc
      clear S o1 o2 o3 g hself b1 b2 m3 hs hs0 hl2 c1
      refine v_spec_l01Bad (by simp [i_spec_l01Bad]) ?_
      rw [fbody_eq]
      simp (disch := first | assumption | omega | (simp [*] <;> omega) | fail) [-getElem?_pos, List.getElem?_cons_zero, List.getElem?_cons_succ, i_spec_l01Bad, e0, e1, c2, wN, hy, e2, e3, hl, a2, k2, hsp, hc, hn, hn', hso, fresults, fresL, fres1, hgetS, hsetS, hgetS0, hsetS0]
    · by_cases c3 : x1 = 2
      · refine ⟨N, .slice (some ⟨H.length, 0, none⟩) (rows ++ [0]).length (rows ++ [0]).length, rows ++ [0], s1, [⟨1, ints (rows ++ [0])⟩], o1, ?_, by simp; omega, by omega, by omega, .inr ⟨rfl, rfl⟩⟩
        have hl2 : (rows ++ [0]).length = N + 1 := by simp [hl]
        rw [hl2]
        have hc := S.cleanG (s' := s1) [⟨0, [.int .i64 N, sv]⟩, ⟨0, [.int .i64 N, .slice (some ⟨H.length + 2, 0, none⟩) (N + 1) (N + 1)]⟩, ⟨1, ints (rows ++ [0])⟩, ⟨1, [.int .i64 0]⟩] 2 (N + 1) N (rows ++ [0]) rfl
        have k9 : N ≤ 1099511627775 := by omega
        have hia : ints rows ++ [.int .i64 0] = ints (rows ++ [0]) := by simp [ints]
        rw [← hia] at hc ⊢
        simp at e0 e1 hc
        clear S o1 g hself b1 hs hs0 hl2 hia c1 c2
        refine v_spec_l01Bad (by simp [i_spec_l01Bad]) ?_
        rw [fbody_eq]
        simp (disch := first | assumption | omega | (simp [*] <;> omega) | fail) [-getElem?_pos, List.getElem?_cons_zero, List.getElem?_cons_succ, i_spec_l01Bad, e0, e1, c3, hl, k9, hc, hn, hn', hso, fresults, fresL, fres1, hgetS, hsetS, hgetS0, hsetS0]
      · refine ⟨N, sv, rows, s1, [], o1, ?_, by omega, by omega, by omega, .inl ⟨rfl, rfl, rfl, rfl⟩⟩
        have hc := fun (L : VH) => S.clean (s' := s1) L (vs := [.agg #[.int .i64 N, sv]]) (by
          intro v hv
          simp only [List.mem_singleton] at hv
          subst hv
          intro r hr
          obtain ⟨a, n, t, rfl⟩ := hsh
          exact ho r (by simpa [trefs, vrefs, crefs, arefs] using hr))
        simp at e0 e1
        clear S o1 g hself b1 hs hs0 hl
        refine v_spec_l01Bad (by simp [i_spec_l01Bad]) ?_
        rw [fbody_eq]
        obtain ⟨a, n, t, rfl⟩ := hsh
        simp (disch := first | assumption | omega | (simp [*] <;> omega) | fail) [-getElem?_pos, List.getElem?_cons_zero, List.getElem?_cons_succ, i_spec_l01Bad, e0, e1, c1, c2, c3, hc, hn, hn', hso, fresults, fresL, fres1, hgetS, hsetS, hgetS0, hsetS0]
/-- A graph drawn, and perhaps made none. -/
theorem Srce.badE {s' : SS} (h : SOK xs s') (L : VH) (k N : Nat) (rows : List Int) (hk : L[k]? = some ⟨1, ints rows⟩) (g : GV N rows) : ∃ (n' : Int) (m : Nat) (rows' : List Int) (s2 : SS) (M : VH), SOK xs s2 ∧
    vcall F nro k_spec_l01Bad [.pointer (some ⟨b, 0, some 3⟩), gv N (.slice (some ⟨H.length + k, 0, none⟩) N N)] (H.set b (srcO cd s') ++ L) = some (gv n' (.slice (some ⟨H.length + m, 0, none⟩) rows'.length rows'.length), H.set b (srcO cd s2) ++ (L ++ M)) ∧
    rows'.length ≤ 63 ∧ -9223372036854775808 ≤ n' ∧ n' ≤ 9223372036854775807 ∧ (L ++ M)[m]? = some ⟨1, ints rows'⟩ := by
  have hlt := S.lt
  have hl := g.rok.len
  obtain ⟨n', v, rows', s2, M, o2, e, h1, h2, h3, h4⟩ := c_spec_l01Bad (nro := nro) (S.set h L) N (.slice (some ⟨H.length + k, 0, none⟩) N N) rows g (fun o => by
    have hk2 : ((H.set b (srcO cd s') ++ L).set b o)[H.length + k]? = some ⟨1, ints rows⟩ := by
      rw [List.set_append_left _ _ (by simpa using hlt), List.getElem?_append_right (by simp)]
      simpa using hk
    have := sli_at hk2
    rwa [hl] at this) (by
    intro r hr
    simp [arefs] at hr
    omega)
  rw [S.setL, List.append_assoc] at e
  rcases h4 with ⟨rfl, rfl, rfl, rfl⟩ | ⟨rfl, rfl⟩
  · exact ⟨N, k, rows', s2, [], o2, by rw [hl]; exact e, h1, h2, h3, by rw [List.append_nil]; exact hk⟩
  · refine ⟨n', L.length, rows', s2, [⟨1, ints rows'⟩], o2, ?_, h1, h2, h3, by simp⟩
    rw [e]
    simp
theorem c_spec_l01Spoil : ∃ (n' : Int) (rows' : List Int) (s' : SS), SOK xs s' ∧ rows'.length ≤ 63 ∧ -9223372036854775808 ≤ n' ∧ n' ≤ 9223372036854775807 ∧
    vcall F nro k_spec_l01Spoil [.pointer (some ⟨b, 0, some 3⟩)] H = some (gv n' (.slice (some ⟨H.length, 0, none⟩) rows'.length rows'.length), H.set b (srcO cd s') ++ [⟨1, ints rows'⟩]) := by
  have hlt := S.lt
  have hnb := S.nr
  have hn : nro ≤ H.length := by omega
  have hn' := fun k => Nat.le_trans hn (Nat.le_add_right H.length k)
  have hself : H.set b (srcO cd s) = H := hset_self S.at'
  obtain ⟨N, rows, s1, o1, g, e1⟩ := c_spec_l01Draw (S.set S.ok [⟨0, [.int .i64 0, .slice none 0 0]⟩])
  rw [S.setL, hself] at e1
  obtain ⟨n', m, rows', s2, M, o2, e2, h1, h2, h3, h4⟩ := S.badE o1 [⟨0, [.int .i64 0, .slice none 0 0]⟩, ⟨1, ints rows⟩] 1 N rows rfl g
  refine ⟨n', rows', s2, o2, h1, h2, h3, ?_⟩
  have hm0 : ∃ j, m = j + 1 := by
    cases m with
    | zero =>
      rw [List.cons_append, List.getElem?_cons_zero] at h4
      simp at h4
    | succ j => exact ⟨j, rfl⟩
  obtain ⟨j, rfl⟩ := hm0
  have hc := S.cleanG (s' := s2) (⟨0, [.int .i64 n', .slice (some ⟨H.length + (j + 1), 0, none⟩) rows'.length rows'.length]⟩ :: ⟨1, ints rows⟩ :: M) (j + 1) rows'.length n' rows' (by simpa using h4)
  obtain ⟨m, hm⟩ : ∃ m, m = rows'.length := ⟨_, rfl⟩
  rw [← hm] at e2 hc ⊢
  simp at e1 e2 hc
  clear S o1 o2 g hself h4 hm
  refine v_spec_l01Spoil (by simp [i_spec_l01Spoil]) ?_
  rw [fbody_eq]
  simp (disch := first | assumption | omega | (simp [*] <;> omega) | fail) [-getElem?_pos, List.getElem?_cons_zero, List.getElem?_cons_succ, i_spec_l01Spoil, e1, e2, hc, hn, hn', fresults, fresL, fres1, hgetS, hsetS, hgetS0, hsetS0]
/-- A graph of the second chapter's draws. -/
theorem c_spec_l02Draw : ∃ (n' : Int) (rows' : List Int) (s' : SS), SOK xs s' ∧ rows'.length ≤ 63 ∧ -9223372036854775808 ≤ n' ∧ n' ≤ 9223372036854775807 ∧
    vcall F nro k_spec_l02Draw [.pointer (some ⟨b, 0, some 3⟩)] H = some (gv n' (.slice (some ⟨H.length, 0, none⟩) rows'.length rows'.length), H.set b (srcO cd s') ++ [⟨1, ints rows'⟩]) := by
  have hlt := S.lt
  have hnb := S.nr
  have hn : nro ≤ H.length := by omega
  have hn' := fun k => Nat.le_trans hn (Nat.le_add_right H.length k)
  have hself : H.set b (srcO cd s) = H := hset_self S.at'
  obtain ⟨x1, s1, o1, a1, b1, _, e1⟩ := S.nextE S.ok [⟨0, [.int .i64 0, .slice none 0 0]⟩] 2 (by omega)
  rw [hself] at e1
  by_cases c1 : x1 = 0
  · obtain ⟨N, rows, s2, o2, g, e2⟩ := c_spec_l01DrawRegular (S.set o1 [⟨0, [.int .i64 0, .slice none 0 0]⟩])
    rw [S.setL] at e2
    have hl := g.rok.len
    have hle := g.rok.le
    refine ⟨N, rows, s2, o2, by omega, by omega, by omega, ?_⟩
    rw [hl]
    have hc := S.cleanG (s' := s2) [⟨0, [.int .i64 N, .slice (some ⟨H.length + 1, 0, none⟩) N N]⟩, ⟨1, ints rows⟩] 1 N N rows rfl
    simp at e1 e2 hc
    clear S o1 o2 g hl hself b1
    refine v_spec_l02Draw (by simp [i_spec_l02Draw]) ?_
    rw [fbody_eq]
    simp (disch := first | assumption | omega | (simp [*] <;> omega) | fail) [-getElem?_pos, List.getElem?_cons_zero, List.getElem?_cons_succ, i_spec_l02Draw, e1, c1, e2, hc, hn, hn', fresults, fresL, fres1, hgetS, hsetS, hgetS0, hsetS0]
  · obtain ⟨n', rows, s2, o2, h1, h2, h3, e2⟩ := c_spec_l01Spoil (S.set o1 [⟨0, [.int .i64 0, .slice none 0 0]⟩])
    rw [S.setL] at e2
    refine ⟨n', rows, s2, o2, h1, h2, h3, ?_⟩
    obtain ⟨m, hm⟩ : ∃ m, m = rows.length := ⟨_, rfl⟩
    rw [← hm] at e2 ⊢
    have hc := S.cleanG (s' := s2) [⟨0, [.int .i64 n', .slice (some ⟨H.length + 1, 0, none⟩) m m]⟩, ⟨1, ints rows⟩] 1 m n' rows rfl
    simp at e1 e2 hc
    clear S o1 o2 hself b1 hm
    refine v_spec_l02Draw (by simp [i_spec_l02Draw]) ?_
    rw [fbody_eq]
    simp (disch := first | assumption | omega | (simp [*] <;> omega) | fail) [-getElem?_pos, List.getElem?_cons_zero, List.getElem?_cons_succ, i_spec_l02Draw, e1, c1, e2, hc, hn, hn', fresults, fresL, fres1, hgetS, hsetS, hgetS0, hsetS0]
end
end Go.Proofs.YtghondlbkjponaaDoor.Zv

/- Draws of FirstRegular and LeastVertices. -/
namespace Go.Proofs.YtghondlbkjponaaDoor.Zv
open Go
variable {nro : Nat}
@[simp] theorem old_tup3i (n : Nat) (k1 k2 k3 : IntKind) (a b c : Int) : Old n (.tuple #[.int k1 a, .int k2 b, .int k3 c]) := fun r hr => by simp [trefs, vrefs, crefs, arefs] at hr
section
variable {h : VH} {cd : Value} {xs : List Int} (hs : Sl h cd (bys xs)) (hx : Code' xs) (hn : nro ≤ h.length)
include hs hx hn
theorem srce_new {s : SS} (ho : SOK xs s) : Srce nro (h ++ [srcO cd s]) h.length cd xs s :=
  ⟨by simp, hn, hx, ho, fun o => by
    have : (h ++ [srcO cd s]).set h.length o = h ++ [o] := by simp
    rw [this]; exact hs.app _⟩

end
end Go.Proofs.YtghondlbkjponaaDoor.Zv

/- The reference's list of neighbours. -/
namespace Go.Proofs.YtghondlbkjponaaDoor.Zv
open Go
variable {nro : Nat}

theorem l_spec_l01Neighbours (n : Int) (s : Value) (rows : List Int) (h : VH) (hs : Sli h s rows) (hn : nro ≤ h.length) (g : GV n rows) (v : Int) (hv : 0 ≤ v) (hvn : v < n) (y0 : List Int) (w : Nat) (hw : w ≤ n.toNat) (ys : List Int) (hy : ys.length ≤ w) :
    floop (vcall F nro) nro [1, 2, 5, 6] i_spec_l01Neighbours_B1 (bx h n s ++ [⟨1, ints y0⟩]) [.int .i64 v, bp h, .slice (some ⟨h.length + 1, 0, none⟩) ys.length ys.length, .int .i64 w] (bx h n s ++ [⟨1, ints ys⟩]) =
      some (.exit 0, fl [(5, .slice (some ⟨h.length + 1, 0, none⟩) (ys ++ nbF rows v.toNat n.toNat w).length (ys ++ nbF rows v.toNat n.toNat w).length)], bx h n s ++ [⟨1, ints (ys ++ nbF rows v.toNat n.toNat w)⟩]) := by
  have hn' := fun k => Nat.le_trans hn (Nat.le_add_right h.length k)
  have hsc := fun k => hs.oldCk (k := k)
  have hlen := g.len
  have hp := pow_le62 g.hi
  have g0 := g.hi
  obtain ⟨g1, g2, _⟩ := g.row v.toNat (by omega)
  rw [floop_at i_spec_l01Neighbours_B1.eq_1]
  by_cases hlt : w < n.toNat
  · have hlt' : (w : Int) < n := by omega
    have hc := fun L => c_spec_l01Has' (nro := nro) n v w s rows (h ++ L) (hs.app _) hv (by omega) (by omega) (by omega) g1 (by omega)
    rw [nbF_step hlt]
    by_cases hb : rbit rows v.toNat w = true
    · have ih := l_spec_l01Neighbours n s rows h hs hn g v hv hvn y0 (w + 1) (by omega) (ys ++ [(w : Int)]) (by simp; omega)
      rw [show ((w + 1 : Nat) : Int) = (w : Int) + 1 by omega] at ih
      rw [if_pos hb]
      simp at ih
      have b1 : (ys.length + 1) * 8 ≤ 1099511627776 := by omega
      have b2 : ys.length < 1099511627776 := by omega
      simp (disch := first | assumption | omega | (simp [*] <;> omega) | fail) [wrap64, hlt', hc, hb, hn', ih, hsc, b1, b2, ints_snoc]
    · have ih := l_spec_l01Neighbours n s rows h hs hn g v hv hvn y0 (w + 1) (by omega) ys (by omega)
      rw [show ((w + 1 : Nat) : Int) = (w : Int) + 1 by omega] at ih
      rw [if_neg hb]
      simp at ih
      simp (disch := first | assumption | omega | (simp [*] <;> omega) | fail) [wrap64, hlt', hc, hb, hn', ih, hsc]
  · have hlt' : ¬ (w : Int) < n := by omega
    rw [nbF_end hlt]
    simp (disch := first | assumption | omega | (simp [*] <;> omega) | fail) [hlt']
 termination_by n.toNat - w

theorem c_spec_l01Neighbours (n : Int) (s : Value) (rows : List Int) (h : VH) (hs : Sli h s rows) (hn : nro ≤ h.length) (g : GV n rows) (v : Int) (hv : 0 ≤ v) (hvn : v < n) :
    vcall F nro k_spec_l01Neighbours [gv n s, .int .i64 v] h = some (.slice (some ⟨h.length, 0, none⟩) (nb rows v.toNat n.toNat).length (nb rows v.toNat n.toNat).length, h ++ [⟨1, ints (nb rows v.toNat n.toNat)⟩]) := by
  refine v_spec_l01Neighbours (by simp [i_spec_l01Neighbours]) ?_
  rw [fbody_eq]
  have hl := l_spec_l01Neighbours (nro := nro) n s rows h hs hn g v hv hvn [] 0 (by omega) [] (by simp)
  simp at hl
  unfold nb
  simp (disch := first | assumption | omega | (simp [*] <;> omega) | fail) [i_spec_l01Neighbours, hl]
end Go.Proofs.YtghondlbkjponaaDoor.Zv

/- Draws of the second chapter. -/
namespace Go.Proofs.YtghondlbkjponaaDoor.Zv
open Go
open Classical
variable {nro : Nat}
theorem hsetK (h L : VH) (k : Nat) (o : VO) : (h ++ L).set (h.length + k) o = h ++ L.set k o := by
  rw [List.set_append_right _ _ (by omega)]
  congr 2
  omega
theorem cleanT3 (h L : VH) (k N : Nat) (w a b : Int) (rows : List Int) (hk : L[k]? = some ⟨1, ints rows⟩) : kclean h [.tuple #[.agg #[.int .i64 w, .slice (some ⟨h.length + k, 0, none⟩) N N], .int .i64 a, .int .i64 b]] (h ++ L) = ([.tuple #[.agg #[.int .i64 w, .slice (some ⟨h.length, 0, none⟩) N N], .int .i64 a, .int .i64 b]], h ++ [⟨1, ints rows⟩]) := by
  rw [cleanup_one_upd (k := k) (o := ⟨1, ints rows⟩) (Upd.rfl' h) (by simp [trefs, vrefs, crefs, arefs]) hk (flatO_ints _ _ _)]
  simp [tren, vren, cren, aren, renOf_one]
section
variable {h : VH} {cd : Value} {xs : List Int} (hs : Sl h cd (bys xs)) (hx : Code' xs) (hn : nro ≤ h.length)
include hs hx hn

theorem c_spec_DrawCountShortest : ∃ (n : Int) (rows : List Int), rows.length ≤ 63 ∧ vcall F nro k_spec_DrawCountShortest [cd] h = some (gv n (.slice (some ⟨h.length, 0, none⟩) rows.length rows.length), h ++ [⟨1, ints rows⟩]) := by
  have hn' := fun k => Nat.le_trans hn (Nat.le_add_right h.length k)
  obtain ⟨s, ho, e1⟩ := c_spec_l01From (nro := nro) (h ++ [⟨0, [.int .i64 0, .slice none 0 0]⟩]) cd xs (hs.app _) hx (by simp; omega)
  obtain ⟨n, rows, s2, _, h1, _, _, e2⟩ := c_spec_l02Draw (srce_new (nro := nro) (h := h ++ [⟨0, [.int .i64 0, .slice none 0 0]⟩]) (hs.app _) hx (by simp; omega) ho)
  refine ⟨n, rows, h1, ?_⟩
  obtain ⟨m, hm⟩ : ∃ m, m = rows.length := ⟨_, rfl⟩
  rw [← hm] at e2 ⊢
  refine v_spec_DrawCountShortest (by simp [i_spec_DrawCountShortest]) ?_
  rw [fbody_eq]
  simp [hsetK] at e1 e2
  clear hm
  simp (disch := first | assumption | omega | (simp [*] <;> omega) | fail) [i_spec_DrawCountShortest, e1, e2, hn, hn', fresults, fresL, fres1]

theorem c_spec_l02At : ∃ (n v : Int) (rows : List Int), rows.length ≤ 63 ∧ vcall F nro k_spec_l02At [cd] h = some (.tuple #[gv n (.slice (some ⟨h.length, 0, none⟩) rows.length rows.length), .int .i64 v], h ++ [⟨1, ints rows⟩]) := by
  have hn' := fun k => Nat.le_trans hn (Nat.le_add_right h.length k)
  obtain ⟨s, ho, e1⟩ := c_spec_l01From (nro := nro) (h ++ [⟨0, [.int .i64 0, .slice none 0 0]⟩]) cd xs (hs.app _) hx (by simp; omega)
  have S := srce_new (nro := nro) (h := h ++ [⟨0, [.int .i64 0, .slice none 0 0]⟩]) (hs.app _) hx (by simp; omega) ho
  obtain ⟨n, rows, s2, o2, h1, h2, h3, e2⟩ := c_spec_l02Draw S
  obtain ⟨m, hm⟩ : ∃ m, m = rows.length := ⟨_, rfl⟩
  rw [← hm] at e2
  obtain ⟨x3, s3, o3, a3, b3, _, e3⟩ := S.nextE o2 [⟨1, ints rows⟩, ⟨0, [.int .i64 n, .slice (some ⟨h.length + 2, 0, none⟩) m m]⟩] 24 (by omega)
  have c3 := b3 (by omega)
  obtain ⟨q, hq⟩ : ∃ q, q = x3.tdiv 23 := ⟨_, rfl⟩
  have hq2 : 0 ≤ q ∧ q ≤ 1 := by
    rw [hq, Int.tdiv_eq_ediv_of_nonneg a3]; omega
  obtain ⟨k, hk⟩ : ∃ k : Int, (if 62 < (if n < 1 then 1 else n) then 62 else (if n < 1 then 1 else n)) = k := ⟨_, rfl⟩
  have hk2 : 1 ≤ k ∧ k ≤ 62 := by
    rw [← hk]; split <;> split <;> omega
  have w1 : IntKind.i64.wrap q = q := wrap64 (by omega) (by omega)
  have w2 : IntKind.i64.wrap (k + q) = k + q := wrap64 (by omega) (by omega)
  obtain ⟨x4, s4, o4, a4, b4, _, e4⟩ := S.nextE o3 [⟨1, ints rows⟩, ⟨0, [.int .i64 n, .slice (some ⟨h.length + 2, 0, none⟩) m m]⟩] (k + q) (by omega)
  refine ⟨n, x4, rows, h1, ?_⟩
  rw [← hm]
  refine v_spec_l02At (by simp [i_spec_l02At]) ?_
  rw [fbody_eq]
  simp [hsetK] at e1 e2 e3 e4
  clear hm S o2 o3 o4 a3 b3 a4 b4 c3 hq2 hk2
  simp (disch := first | assumption | omega | (simp [*] <;> omega) | fail) [i_spec_l02At, e1, e2, e3, hq.symm, hk, w1, w2, e4, hn, hn', fresults, fresL, fres1]
theorem c_spec_DrawGirthAt : ∃ (n v : Int) (rows : List Int), rows.length ≤ 63 ∧ vcall F nro k_spec_DrawGirthAt [cd] h = some (.tuple #[gv n (.slice (some ⟨h.length, 0, none⟩) rows.length rows.length), .int .i64 v], h ++ [⟨1, ints rows⟩]) := by
  have hn' := fun k => Nat.le_trans hn (Nat.le_add_right h.length k)
  obtain ⟨n, v, rows, h1, e1⟩ := c_spec_l02At (nro := nro) (h := h ++ [⟨0, [.int .i64 0, .slice none 0 0]⟩]) (hs.app _) hx (by simp; omega)
  refine ⟨n, v, rows, h1, ?_⟩
  obtain ⟨m, hm⟩ : ∃ m, m = rows.length := ⟨_, rfl⟩
  rw [← hm] at e1 ⊢
  refine v_spec_DrawGirthAt (by simp [i_spec_DrawGirthAt]) ?_
  rw [fbody_eq]
  simp at e1
  clear hm
  simp (disch := first | assumption | omega | (simp [*] <;> omega) | fail) [i_spec_DrawGirthAt, e1, hn, hn', fresults, fresL, fres1]

set_option maxHeartbeats 4000000 in
theorem c_spec_l02Pair : ∃ (n a b : Int) (rows : List Int), rows.length ≤ 63 ∧ vcall F nro k_spec_l02Pair [cd] h = some (.tuple #[gv n (.slice (some ⟨h.length, 0, none⟩) rows.length rows.length), .int .i64 a, .int .i64 b], h ++ [⟨1, ints rows⟩]) := by
  have hn' := fun k => Nat.le_trans hn (Nat.le_add_right h.length k)
  obtain ⟨s, ho, e1⟩ := c_spec_l01From (nro := nro) (h ++ [⟨0, [.int .i64 0, .slice none 0 0]⟩]) cd xs (hs.app _) hx (by simp; omega)
  have S := srce_new (nro := nro) (h := h ++ [⟨0, [.int .i64 0, .slice none 0 0]⟩]) (hs.app _) hx (by simp; omega) ho
  obtain ⟨n, rows, s2, o2, h1, h2, h3, e2⟩ := c_spec_l02Draw S
  obtain ⟨m, hm⟩ : ∃ m, m = rows.length := ⟨_, rfl⟩
  rw [← hm] at e2
  obtain ⟨k, hk⟩ : ∃ k : Int, (if 62 < (if n < 1 then 1 else n) then 62 else (if n < 1 then 1 else n)) = k := ⟨_, rfl⟩
  have hk2 : 1 ≤ k ∧ k ≤ 62 := by
    rw [← hk]; split <;> split <;> omega
  obtain ⟨x3, s3, o3, a3, b3, _, e3⟩ := S.nextE o2 [⟨1, ints rows⟩, ⟨0, [.int .i64 n, .slice (some ⟨h.length + 2, 0, none⟩) m m]⟩] k (by omega)
  have c3 := b3 (by omega)
  obtain ⟨x4, s4, o4, a4, b4, _, e4⟩ := S.nextE o3 [⟨1, ints rows⟩, ⟨0, [.int .i64 n, .slice (some ⟨h.length + 2, 0, none⟩) m m]⟩] 24 (by omega)
  have c4 := b4 (by omega)
  obtain ⟨q, hq⟩ : ∃ q, q = x4.tdiv 23 := ⟨_, rfl⟩
  have hq2 : 0 ≤ q ∧ q ≤ 1 := by
    rw [hq, Int.tdiv_eq_ediv_of_nonneg a4]; omega
  have w1 : IntKind.i64.wrap q = q := wrap64 (by omega) (by omega)
  have w2 : IntKind.i64.wrap (k + q) = k + q := wrap64 (by omega) (by omega)
  obtain ⟨x5, s5, o5, a5, b5, _, e5⟩ := S.nextE o4 [⟨1, ints rows⟩, ⟨0, [.int .i64 n, .slice (some ⟨h.length + 2, 0, none⟩) m m]⟩] (k + q) (by omega)
  have hsr : Sli (h ++ [⟨0, [.int .i64 0, .slice none 0 0]⟩, srcO cd s5, ⟨1, ints rows⟩, ⟨0, [.int .i64 n, .slice (some ⟨h.length + 2, 0, none⟩) m m]⟩]) (.slice (some ⟨h.length + 2, 0, none⟩) m m) rows := by
    have := sli_at (h := h ++ [⟨0, [.int .i64 0, .slice none 0 0]⟩, srcO cd s5, ⟨1, ints rows⟩, ⟨0, [.int .i64 n, .slice (some ⟨h.length + 2, 0, none⟩) m m]⟩]) (b := h.length + 2) (xs := rows) (by simp)
    rwa [← hm] at this
  have hi := c_spec_l01Is (nro := nro) n (.slice (some ⟨h.length + 2, 0, none⟩) m m) rows _ hsr
  simp [hsetK] at e1 e2 e3 e4 e5
  by_cases g : GV n rows
  · rw [decide_eq_true g] at hi
    have hlo := g.lo
    have hhi := g.hi
    have hkn : k = n := by rw [← hk]; split <;> split <;> omega
    obtain ⟨x6, s6, o6, a6, b6, _, e6⟩ := S.nextE o5 [⟨1, ints rows⟩, ⟨0, [.int .i64 n, .slice (some ⟨h.length + 2, 0, none⟩) m m]⟩] 2 (by omega)
    simp [hsetK] at e6
    by_cases z : x6 = 0
    · have hsr2 : Sli (h ++ [⟨0, [.int .i64 0, .slice none 0 0]⟩, srcO cd s6, ⟨1, ints rows⟩, ⟨0, [.int .i64 n, .slice (some ⟨h.length + 2, 0, none⟩) m m]⟩]) (.slice (some ⟨h.length + 2, 0, none⟩) m m) rows := by
        have := sli_at (h := h ++ [⟨0, [.int .i64 0, .slice none 0 0]⟩, srcO cd s6, ⟨1, ints rows⟩, ⟨0, [.int .i64 n, .slice (some ⟨h.length + 2, 0, none⟩) m m]⟩]) (b := h.length + 2) (xs := rows) (by simp)
        rwa [← hm] at this
      have e7 := c_spec_l01Neighbours (nro := nro) n _ rows _ hsr2 (by simp; omega) g x3 a3 (by omega)
      have hnl : (nb rows x3.toNat n.toNat).length ≤ 1000 := by
        have := nbF_len rows x3.toNat n.toNat 0 (by omega)
        unfold nb
        omega
      obtain ⟨ys, hys⟩ : ∃ ys, ys = nb rows x3.toNat n.toNat := ⟨_, rfl⟩
      rw [← hys] at e7 hnl
      simp at e7
      by_cases z2 : ys.length = 0
      · refine ⟨n, x3, x5, rows, h1, ?_⟩
        rw [← hm]
        have z3 : ¬ 0 < ys.length := by omega
        have hcl := cleanT3 h [⟨0, [.int .i64 n, .slice (some ⟨h.length + 2, 0, none⟩) m m]⟩, srcO cd s6, ⟨1, ints rows⟩, ⟨0, [.int .i64 n, .slice (some ⟨h.length + 2, 0, none⟩) m m]⟩, ⟨1, ints ys⟩] 2 m n x3 x5 rows rfl
        clear hm S o2 o3 o4 o5 o6 b3 a4 b4 a5 b5 a6 b6 c3 c4 hq2 hk2 g hsr hsr2 hys hnl h1 h2 h3 hlo hhi hkn
        refine v_spec_l02Pair (by simp [i_spec_l02Pair]) ?_
        rw [fbody_eq]
        simp (disch := first | assumption | omega | (simp [*] <;> omega) | fail) [i_spec_l02Pair, e1, e2, e3, e4, hq.symm, hk, w1, w2, e5, hi, e6, z, e7, z3, hcl, hn, hn', fresults, fresL, fres1]
      · obtain ⟨x8, s8, o8, a8, b8, _, e8⟩ := S.nextE o6 [⟨1, ints rows⟩, ⟨0, [.int .i64 n, .slice (some ⟨h.length + 2, 0, none⟩) m m]⟩, ⟨1, ints ys⟩] ys.length (by omega)
        have c8 := b8 (by omega)
        have k8 : x8.toNat < ys.length := by omega
        have t8 := take1_ints k8
        have z3 : 0 < ys.length := by omega
        simp [hsetK] at e8
        refine ⟨n, x3, ys[x8.toNat], rows, h1, ?_⟩
        rw [← hm]
        obtain ⟨y, hy⟩ : ∃ y, y = ys[x8.toNat] := ⟨_, rfl⟩
        rw [← hy] at t8 ⊢
        have hcl := cleanT3 h [⟨0, [.int .i64 n, .slice (some ⟨h.length + 2, 0, none⟩) m m]⟩, srcO cd s8, ⟨1, ints rows⟩, ⟨0, [.int .i64 n, .slice (some ⟨h.length + 2, 0, none⟩) m m]⟩, ⟨1, ints ys⟩] 2 m n x3 y rows rfl
        clear hy hm S o2 o3 o4 o5 o6 o8 b3 a4 b4 a5 b5 a6 b6 b8 c3 c4 hq2 hk2 g hsr hsr2 hys hnl h1 h2 h3 hlo hhi hkn
        refine v_spec_l02Pair (by simp [i_spec_l02Pair]) ?_
        rw [fbody_eq]
        simp (disch := first | assumption | omega | (simp [*] <;> omega) | fail) [i_spec_l02Pair, e1, e2, e3, e4, hq.symm, hk, w1, w2, e5, hi, e6, z, e7, z3, e8, a8, c8, t8, hcl, hn, hn', fresults, fresL, fres1]
    · refine ⟨n, x3, x5, rows, h1, ?_⟩
      rw [← hm]
      have hcl := cleanT3 h [⟨0, [.int .i64 n, .slice (some ⟨h.length + 2, 0, none⟩) m m]⟩, srcO cd s6, ⟨1, ints rows⟩, ⟨0, [.int .i64 n, .slice (some ⟨h.length + 2, 0, none⟩) m m]⟩] 2 m n x3 x5 rows rfl
      clear hm S o2 o3 o4 o5 o6 b3 a4 b4 a5 b5 a6 b6 c3 c4 hq2 hk2 g hsr h1 h2 h3 hlo hhi hkn
      refine v_spec_l02Pair (by simp [i_spec_l02Pair]) ?_
      rw [fbody_eq]
      simp (disch := first | assumption | omega | (simp [*] <;> omega) | fail) [i_spec_l02Pair, e1, e2, e3, e4, hq.symm, hk, w1, w2, e5, hi, e6, z, hcl, hn, hn', fresults, fresL, fres1]
  · rw [decide_eq_false g] at hi
    refine ⟨n, x3, x5, rows, h1, ?_⟩
    rw [← hm]
    have hcl := cleanT3 h [⟨0, [.int .i64 n, .slice (some ⟨h.length + 2, 0, none⟩) m m]⟩, srcO cd s5, ⟨1, ints rows⟩, ⟨0, [.int .i64 n, .slice (some ⟨h.length + 2, 0, none⟩) m m]⟩] 2 m n x3 x5 rows rfl
    clear hm S o2 o3 o4 o5 b3 a4 b4 a5 b5 c3 c4 hq2 hk2 g hsr h1 h2 h3
    refine v_spec_l02Pair (by simp [i_spec_l02Pair]) ?_
    rw [fbody_eq]
    simp (disch := first | assumption | omega | (simp [*] <;> omega) | fail) [i_spec_l02Pair, e1, e2, e3, e4, hq.symm, hk, w1, w2, e5, hi, hcl, hn, hn', fresults, fresL, fres1]

theorem c_spec_DrawShortestThrough : ∃ (n a b : Int) (rows : List Int), rows.length ≤ 63 ∧ vcall F nro k_spec_DrawShortestThrough [cd] h = some (.tuple #[gv n (.slice (some ⟨h.length, 0, none⟩) rows.length rows.length), .int .i64 a, .int .i64 b], h ++ [⟨1, ints rows⟩]) := by
  have hn' := fun k => Nat.le_trans hn (Nat.le_add_right h.length k)
  obtain ⟨n, a, b, rows, h1, e1⟩ := c_spec_l02Pair (nro := nro) (h := h ++ [⟨0, [.int .i64 0, .slice none 0 0]⟩]) (hs.app _) hx (by simp; omega)
  refine ⟨n, a, b, rows, h1, ?_⟩
  obtain ⟨m, hm⟩ : ∃ m, m = rows.length := ⟨_, rfl⟩
  rw [← hm] at e1 ⊢
  refine v_spec_DrawShortestThrough (by simp [i_spec_DrawShortestThrough]) ?_
  rw [fbody_eq]
  simp at e1
  have hcl := cleanT3 h [⟨0, [.int .i64 n, .slice (some ⟨h.length + 1, 0, none⟩) m m]⟩, ⟨1, ints rows⟩] 1 m n a b rows rfl
  clear hm
  simp (disch := first | assumption | omega | (simp [*] <;> omega) | fail) [i_spec_DrawShortestThrough, e1, hcl, hn, hn', fresults, fresL, fres1]
end
end Go.Proofs.YtghondlbkjponaaDoor.Zv

/- FnGirths. -/
namespace Go.Proofs.YtghondlbkjponaaDoor.Zv
open Go
open Classical
variable {nro : Nat}

/-! ### plain -/
theorem gatA_ok {n v : Int} {rows : List Int} (h : (gatA n rows v).2 = 0) : (giA n rows).2 = 0 ∧ (giA n rows).1 ≤ (gatA n rows v).1 ∧ 3 ≤ (giA n rows).1 := by
  unfold gatA at h ⊢
  by_cases hz : vtxCode n rows [v] = 0
  · have z1 : ¬ (vtxCode n rows [v] ≠ 0) := fun h => h hz
    rw [if_neg z1] at h ⊢
    obtain ⟨g, v0, v1⟩ := vtx1 hz
    have hlo := g.lo
    obtain ⟨N, rfl⟩ : ∃ N : Nat, n = N := ⟨n.toNat, by omega⟩
    obtain ⟨V, rfl⟩ : ∃ V : Nat, v = V := ⟨v.toNat, by omega⟩
    rw [Int.toNat_natCast] at h ⊢
    by_cases c : gAll rows N V = 0
    · rw [if_pos c] at h; simp at h
    · rw [if_neg c]
      rw [gAll_gaL g (by omega)] at c ⊢
      obtain ⟨k1, k2, k3⟩ := gaL_girF g c
      unfold giA
      have z : ¬ ¬ GV N rows := fun h => h g
      rw [if_neg z, Int.toNat_natCast, if_neg k1]
      exact ⟨rfl, k2, k3⟩
  · rw [if_pos hz] at h
    exact absurd h hz
theorem csA_no {n : Int} {rows : List Int} (h : (csA n rows).2 ≠ 0) : (csA n rows).1 = 0 ∧ (giA n rows).2 = (csA n rows).2 := by
  unfold csA at h ⊢
  unfold giA
  by_cases g : GV n rows
  · have z : ¬ ¬ GV n rows := fun h => h g
    rw [if_neg z] at h
    rw [if_neg z, if_neg z]
    by_cases c : girF rows n.toNat 0 0 = 0
    · rw [if_pos c, if_pos c]; exact ⟨rfl, rfl⟩
    · rw [if_neg c] at h; exact absurd rfl h
  · rw [if_pos g, if_pos g]; exact ⟨rfl, rfl⟩
theorem csA_ok {n : Int} {rows : List Int} (h : (csA n rows).2 = 0) : ∃ N L : Nat, n = N ∧ GV N rows ∧ L ≠ 0 ∧ girF rows N 0 0 = L ∧ giA n rows = ((L : Int), 0) ∧ ∃ M : Int, csA n rows = (M, 0) ∧ csAll rows N L = L * M ∧ 1 ≤ M ∧ M ≤ 33019708571648 ∧ L * M ≤ 33019708571648 := by
  unfold csA at h ⊢
  unfold giA
  by_cases g : GV n rows
  · have hlo := g.lo
    obtain ⟨N, rfl⟩ : ∃ N : Nat, n = N := ⟨n.toNat, by omega⟩
    have z : ¬ ¬ GV N rows := fun h => h g
    rw [if_neg z] at h
    rw [if_neg z, if_neg z]
    rw [Int.toNat_natCast] at h ⊢
    by_cases c : girF rows N 0 0 = 0
    · rw [if_pos c] at h; simp at h
    · have hge := girF_ge' (rows := rows) (n := N) 0 0 (by omega)
      obtain ⟨L, hL⟩ : ∃ L : Nat, girF rows N 0 0 = L := ⟨(girF rows N 0 0).toNat, by omega⟩
      have hL0 : L ≠ 0 := by omega
      obtain ⟨M, m1, m2, m3, m4⟩ := csAll_div g hL hL0
      refine ⟨N, L, rfl, g, hL0, hL, ?_, M, ?_, m1, m2, m3, m4⟩
      · rw [if_neg c, hL]
      · rw [if_neg c, hL, m1, Int.mul_tdiv_cancel_left _ (by omega)]
  · rw [if_pos g] at h; simp at h

theorem wrap_rng (x : Int) : -9223372036854775808 ≤ IntKind.i64.wrap x ∧ IntKind.i64.wrap x ≤ 9223372036854775807 := by
  rw [w_eq]; omega

theorem l_laws_FnGirths (H : VH) (p n L : Nat) (x4 q s : Value) (rows : List Int) (hs : Sli H s rows) (g : GV n rows) (hL : girF rows n 0 0 = L) (hL0 : L ≠ 0) (hp : H[p]? = some ⟨0, [.int .i64 n, s]⟩) (hq : LL H q (edgesF rows n 0)) (hn : nro ≤ H.length) (o4 : Old H.length x4) :
    floop (vcall F nro) nro [3, 4, 8, 29, 31, 32] i_laws_FnGirths_B1 H [.pointer (some ⟨p, 0, some 2⟩), x4, .int .i64 L, q, .int .i64 0, .int .i64 0] H =
      some (.exit 0, fl [(4, x4), (8, .int .i64 L), (31, .int .i64 (csAll rows n L))], H) := by
  obtain ⟨vs, v1, v2, v3⟩ := hq
  have R := g.rok
  have hle := R.le
  have hel := edges_len' rows n 0 hle
  have hpl : ∀ k, p < H.length + k := fun k => by have := (List.getElem?_eq_some_iff.mp hp).1; omega
  have hpl0 : p < H.length := by have := hpl 0; omega
  have oq := v2.old
  have vn := v2.vlen
  rw [v1] at vn
  have o4k : ∀ k, Old (H.length + k) x4 := fun k => o4.le (by omega)
  have key := for_up (call := vcall F nro) (nro := nro) (live := [3, 4, 8, 29, 31, 32]) (c := i_laws_FnGirths_B1) (h0 := H) (n := (edgesF rows n 0).length) (fun j (x : Int) => [.pointer (some ⟨p, 0, some 2⟩), x4, .int .i64 L, q, .int .i64 x, .int .i64 j]) (fun _ _ => H) (fun j x => csF rows n L (((edgesF rows n 0).getD j []).getD 0 0).toNat (((edgesF rows n 0).getD j []).getD 1 0).toNat x) (fun _ x => -9223372036854775808 ≤ x ∧ x ≤ 9223372036854775807)
    (fun x => some (.exit 0, fl [(4, x4), (8, .int .i64 L), (31, .int .i64 x)], H)) ?_ ?_ 0 0 (Nat.zero_le _) (by omega)
  · have e := upF_list (fun e x => csF rows n L (e.getD 0 0).toNat (e.getD 1 0).toNat x) [] (edgesF rows n 0) (0 : Int)
    simp only [List.nil_append, List.length_nil] at e
    have e2 := csL_all rows n L
    unfold csL at e2
    rw [← e2, ← e]
    exact key.1
  · intro j x hj hj2 hx
    refine ⟨?_, ?_⟩
    · unfold csF; split
      · exact wrap_rng _
      · exact hx
    rw [getD_list hj]
    obtain ⟨u, w, huw, hwn, hb, he⟩ := edges_shape (List.getElem_mem hj)
    have hjv : j < vs.length := by omega
    have I := v3 j hjv
    rw [getD_list hj, he] at I
    rw [he]
    have vx := v2.vidx (k := .i64) (j := (j : Int)) (by omega) (by omega)
    have vl := v2.vload hjv
    have i0 := I.vidx (k := .i64) (j := 0) (by omega) (by simp)
    have i1 := I.vidx (k := .i64) (j := 1) (by omega) (by simp)
    have j0 := I.vload (j := 0) (by simp)
    have j1 := I.vload (j := 1) (by simp)
    simp at i0 i1 j0 j1
    have cs := c_impl_ShortestThrough (nro := nro) n u w s rows H hs hn
    have hv : vtxCode n rows [(u : Int), (w : Int)] = 0 := by
      unfold vtxCode
      rw [if_pos g, if_neg]
      rw [badV2]
      intro hh
      exact hh ⟨⟨by omega, by omega⟩, by omega, by omega⟩
    have est : stA n rows u w = (if arF rows u w = L then arN rows n u w else 0, 0) := by
      unfold stA
      have z1 : ¬ (vtxCode n rows [(u : Int), (w : Int)] ≠ 0) := fun h => h hv
      have z2 : ¬ rbit rows (u : Int).toNat (w : Int).toNat = false := by rw [Int.toNat_natCast, Int.toNat_natCast, hb]; simp
      rw [if_neg z1, if_neg z2]
      rw [Int.toNat_natCast, Int.toNat_natCast, Int.toNat_natCast, hL, if_neg (by omega)]
      by_cases c : arF rows u w = L
      · have c' : ¬ (arF rows u w ≠ L) := fun h => h c
        rw [if_neg c', if_pos c]
      · rw [if_pos c, if_neg c]
    have eg : csF rows n L (([(u : Int), (w : Int)].getD 0 0).toNat) (([(u : Int), (w : Int)].getD 1 0).toNat) x = IntKind.i64.wrap (x + if arF rows u w = L then arN rows n u w else 0) := by
      unfold csF
      by_cases c : arF rows u w = L
      · simp [hb, c]
      · simp [c]
        exact (wrap64 hx.1 (by omega)).symm
    rw [eg]
    rw [est] at cs
    obtain ⟨z, hz⟩ : ∃ z, z = if arF rows u w = L then arN rows n u w else 0 := ⟨_, rfl⟩
    rw [← hz] at cs ⊢
    obtain ⟨N, hN⟩ : ∃ N, N = (edgesF rows n 0).length := ⟨_, rfl⟩
    rw [← hN] at hj hj2 hel vn
    have wj : IntKind.i64.wrap ((j : Int) + 1) = (j : Int) + 1 := wrap64 (by omega) (by omega)
    clear hz eg est he I hN v3 hs g R hv hb hL
    rw [floop_at i_laws_FnGirths_B1.eq_1]
    simp (disch := first | assumption | omega | (simp [*] <;> omega) | fail) [-getElem?_pos, List.getElem?_cons_zero, List.getElem?_cons_succ, hj, hj2, vn, vx, vl, i0, i1, j0, j1, hp, cs, hn, hpl, hpl0, wj, o4, o4k, oq]
  · intro x _
    rw [floop_at i_laws_FnGirths_B1.eq_1]
    simp (disch := first | assumption | omega | (simp [*] <;> omega) | fail) [-getElem?_pos, List.getElem?_cons_zero, List.getElem?_cons_succ, hpl, hpl0, vn, o4, oq]

set_option maxHeartbeats 4000000 in
theorem law_FnGirths (cd : Value) (xs : List Int) (h : VH) (hs : Sl h cd (bys xs)) (hx : Code' xs) (hn : nro ≤ h.length) :
    vcall F nro k_laws_FnGirths [cd] h = some (.bool true, h) := by
  have hn' := fun k => Nat.le_trans hn (Nat.le_add_right h.length k)
  have hl := hx.len
  have hb : vcall F nro k_laws_big [cd] h = some (.bool (decide (4096 < xs.length)), h) := by
    refine v_laws_big (by simp [i_laws_big]) ?_
    rw [fbody_eq]
    have e0 := hs.vlen
    simp only [bys_length] at e0
    simp (disch := first | assumption | omega | (simp [*] <;> omega) | fail) [i_laws_big, e0]
    omega
  by_cases hbig : 4096 < xs.length
  · refine v_laws_FnGirths (by simp [i_laws_FnGirths]) ?_
    rw [fbody_eq]
    rw [decide_eq_true hbig] at hb
    simp (disch := first | assumption | omega | (simp [*] <;> omega) | fail) [i_laws_FnGirths, hb, hn, hn']
  · rw [decide_eq_false hbig] at hb
    obtain ⟨n1, r1, _, d1⟩ := c_spec_DrawCountShortest (nro := nro) hs hx hn
    obtain ⟨A, hA⟩ : ∃ A : VH, A = h ++ [⟨1, ints r1⟩, ⟨0, [.int .i64 n1, .slice (some ⟨h.length, 0, none⟩) r1.length r1.length]⟩] := ⟨_, rfl⟩
    have lA : A.length = h.length + 2 := by rw [hA]; simp
    have sA : Sl A cd (bys xs) := by rw [hA]; exact hs.app _
    have s1 : Sli A (.slice (some ⟨h.length, 0, none⟩) r1.length r1.length) r1 := sli_at (by rw [hA]; simp)
    have gA : A[h.length + 1]? = some ⟨0, [.int .i64 n1, .slice (some ⟨h.length, 0, none⟩) r1.length r1.length]⟩ := by rw [hA]; simp
    obtain ⟨n2, a, b, r2, _, d2⟩ := c_spec_DrawShortestThrough (nro := nro) sA hx (by omega)
    rw [lA] at d2
    obtain ⟨B, hB⟩ : ∃ B : VH, B = A ++ [⟨1, ints r2⟩, ⟨0, [.int .i64 n2, .slice (some ⟨h.length + 2, 0, none⟩) r2.length r2.length]⟩] := ⟨_, rfl⟩
    have lB : B.length = h.length + 4 := by rw [hB]; simp [lA]
    have sB : Sl B cd (bys xs) := by rw [hB]; exact sA.app _
    have s2 : Sli B (.slice (some ⟨h.length + 2, 0, none⟩) r2.length r2.length) r2 := sli_at (by rw [hB, List.getElem?_append_right (by omega), lA]; simp)
    have gB : B[h.length + 3]? = some ⟨0, [.int .i64 n2, .slice (some ⟨h.length + 2, 0, none⟩) r2.length r2.length]⟩ := by rw [hB, List.getElem?_append_right (by omega), lA, show h.length + 3 - (h.length + 2) = 1 by omega]; rfl
    obtain ⟨n3, v, r3, _, d3⟩ := c_spec_DrawGirthAt (nro := nro) sB hx (by omega)
    rw [lB] at d3
    obtain ⟨C, hC⟩ : ∃ C : VH, C = B ++ [⟨1, ints r3⟩, ⟨0, [.int .i64 n3, .slice (some ⟨h.length + 4, 0, none⟩) r3.length r3.length]⟩] := ⟨_, rfl⟩
    have lC : C.length = h.length + 6 := by rw [hC]; simp [lB]
    have s3 : Sli C (.slice (some ⟨h.length + 4, 0, none⟩) r3.length r3.length) r3 := sli_at (by rw [hC, List.getElem?_append_right (by omega), lB]; simp)
    have gC : C[h.length + 5]? = some ⟨0, [.int .i64 n3, .slice (some ⟨h.length + 4, 0, none⟩) r3.length r3.length]⟩ := by rw [hC, List.getElem?_append_right (by omega), lB, show h.length + 5 - (h.length + 4) = 1 by omega]; rfl
    have s2C : Sli C (.slice (some ⟨h.length + 2, 0, none⟩) r2.length r2.length) r2 := by rw [hC]; exact s2.app _
    have s1C : Sli C (.slice (some ⟨h.length, 0, none⟩) r1.length r1.length) r1 := by rw [hC, hB]; exact (s1.app _).app _
    have gB' : C[h.length + 3]? = some ⟨0, [.int .i64 n2, .slice (some ⟨h.length + 2, 0, none⟩) r2.length r2.length]⟩ := by rw [hC, List.getElem?_append_left (by omega)]; exact gB
    have gA' : C[h.length + 1]? = some ⟨0, [.int .i64 n1, .slice (some ⟨h.length, 0, none⟩) r1.length r1.length]⟩ := by rw [hC, hB, List.append_assoc, List.getElem?_append_left (by omega)]; exact gA
    have tC : ∀ L, (C ++ L).take h.length = h := by intro L; rw [hC, hB, hA]; simp
    have tC0 : C.take h.length = h := by have := tC []; rwa [List.append_nil] at this
    have kC : ∀ (L : VH) (x : Bool), kclean h [.bool x] (C ++ L) = ([.bool x], h) := fun L x => kclean_take (tC L) (by simp)
    have kC0 : ∀ (x : Bool), kclean h [.bool x] C = ([.bool x], h) := fun x => kclean_take tC0 (by simp)
    have e1 := c_impl_CountShortest (nro := nro) n1 _ r1 A s1 (by omega)
    have e2 := c_spec_CountShortest (nro := nro) n1 _ r1 A s1 (by omega)
    have e3 := c_impl_GirthOf (nro := nro) n1 _ r1 A s1 (by omega)
    have e4 := c_spec_GirthOf (nro := nro) n1 _ r1 A s1 (by omega)
    have e5 := c_impl_ShortestThrough (nro := nro) n2 a b _ r2 B s2 (by omega)
    have e6 := c_spec_ShortestThrough (nro := nro) n2 a b _ r2 B s2 (by omega)
    have e7 := c_impl_GirthAt (nro := nro) n3 v _ r3 C s3 (by omega)
    have e8 := c_spec_GirthAt (nro := nro) n3 v _ r3 C s3 (by omega)
    have e9 := c_impl_GirthOf (nro := nro) n3 _ r3 C s3 (by omega)
    have e10 := c_impl_ShortestThrough (nro := nro) n2 b a _ r2 C s2C (by omega)
    have P1 := gatA_ok (n := n3) (v := v) (rows := r3)
    have P2 := stA_symm (n := n2) (a := a) (b := b) (rows := r2)
    have P3 := csA_no (n := n1) (rows := r1)
    have P4 := csA_ok (n := n1) (rows := r1)
    have alloc1 : ∀ L : VH, (h ++ [(⟨1, ints r1⟩ : VO)]) ++ [⟨0, [.int .i64 n1, .slice (some ⟨h.length, 0, none⟩) r1.length r1.length]⟩] ++ L = A ++ L := by intro L; rw [hA]; simp
    have aA : h ++ [(⟨1, ints r1⟩ : VO), ⟨0, [.int .i64 n1, .slice (some ⟨h.length, 0, none⟩) r1.length r1.length]⟩] = A := hA.symm
    have aB : A ++ [(⟨1, ints r2⟩ : VO), ⟨0, [.int .i64 n2, .slice (some ⟨h.length + 2, 0, none⟩) r2.length r2.length]⟩] = B := hB.symm
    have aC : B ++ [(⟨1, ints r3⟩ : VO), ⟨0, [.int .i64 n3, .slice (some ⟨h.length + 4, 0, none⟩) r3.length r3.length]⟩] = C := hC.symm
    have stA' : ∀ (o : VO), (A ++ [(⟨1, ints r2⟩ : VO), ⟨0, [.int .i64 0, .slice none 0 0]⟩]).set (h.length + 3) o = A ++ [⟨1, ints r2⟩, o] := fun o => by
      have := hsetK A [(⟨1, ints r2⟩ : VO), ⟨0, [.int .i64 0, .slice none 0 0]⟩] 1 o
      rw [lA] at this
      exact this
    have stB' : ∀ (o : VO), (B ++ [(⟨1, ints r3⟩ : VO), ⟨0, [.int .i64 0, .slice none 0 0]⟩]).set (h.length + 5) o = B ++ [⟨1, ints r3⟩, o] := fun o => by
      have := hsetK B [(⟨1, ints r3⟩ : VO), ⟨0, [.int .i64 0, .slice none 0 0]⟩] 1 o
      rw [lB] at this
      exact this
    have gtA : (A ++ [(⟨1, ints r2⟩ : VO), ⟨0, [.int .i64 0, .slice none 0 0]⟩])[h.length + 3]? = some ⟨0, [.int .i64 0, .slice none 0 0]⟩ := by
      rw [List.getElem?_append_right (by omega), lA, show h.length + 3 - (h.length + 2) = 1 by omega]; rfl
    have gtB : (B ++ [(⟨1, ints r3⟩ : VO), ⟨0, [.int .i64 0, .slice none 0 0]⟩])[h.length + 5]? = some ⟨0, [.int .i64 0, .slice none 0 0]⟩ := by
      rw [List.getElem?_append_right (by omega), lB, show h.length + 5 - (h.length + 4) = 1 by omega]; rfl
    obtain ⟨m1, hm1⟩ : ∃ m, m = r1.length := ⟨_, rfl⟩
    obtain ⟨m2, hm2⟩ : ∃ m, m = r2.length := ⟨_, rfl⟩
    obtain ⟨m3, hm3⟩ : ∃ m, m = r3.length := ⟨_, rfl⟩
    obtain ⟨w, hw⟩ : ∃ w, w = gatA n3 r3 v := ⟨_, rfl⟩
    obtain ⟨v', hv'⟩ : ∃ w, w = giA n3 r3 := ⟨_, rfl⟩
    obtain ⟨u, hu⟩ : ∃ w, w = stA n2 r2 a b := ⟨_, rfl⟩
    obtain ⟨u', hu'⟩ : ∃ w, w = stA n2 r2 b a := ⟨_, rfl⟩
    rw [← hw] at e7 e8 P1
    rw [← hv'] at e9 P1
    rw [← hu] at e5 e6 P2
    rw [← hu'] at e10 P2
    have fin : ∀ (hC6 : nro ≤ C.length), (csA n1 r1).2 = 0 → ∃ N L : Nat, n1 = N ∧ L ≠ 0 ∧ giA n1 r1 = ((L : Int), 0) ∧ ∃ M : Int, csA n1 r1 = (M, 0) ∧ 1 ≤ M ∧ IntKind.i64.wrap (M * L) = M * L ∧ ∃ (qa : Addr) (qm : Nat) (K : VH) (E : Nat), vcall F nro k_impl_EdgesOf [gv N (.slice (some ⟨h.length, 0, none⟩) m1 m1)] C = some (.tuple #[.slice (some qa) qm qm, .int .i64 0], C ++ K) ∧
        vlen (C ++ K) (.slice (some qa) qm qm) = some (.int .i64 E, C ++ K) ∧ floop (vcall F nro) nro [3, 4, 8, 29, 31, 32] i_laws_FnGirths_B1 (C ++ K) [.pointer (some ⟨h.length + 1, 0, some 2⟩), .int .i64 M, .int .i64 L, .slice (some qa) qm qm, .int .i64 0, .int .i64 0] (C ++ K) = some (.exit 0, fl [(4, .int .i64 M), (8, .int .i64 L), (31, .int .i64 (M * L))], C ++ K) := by
      intro hC6 hp
      obtain ⟨N, L, rfl, g, hL0, hL, hgi, M, hcs, m1', m2', m3', m4'⟩ := P4 hp
      obtain ⟨ev, K, k1, k2⟩ := c_impl_EdgesOf (nro := nro) N _ r1 C s1C hC6 g
      obtain ⟨qa, qm, rfl⟩ := k2.shape
      obtain ⟨vs, v1, v2, _⟩ := k2.ll
      have vl := v2.vlen
      have l1 := l_laws_FnGirths (nro := nro) (C ++ K) (h.length + 1) N L (.int .i64 M) (.slice (some qa) qm qm) _ r1 (s1C.app K) g hL hL0 (by rw [List.getElem?_append_left (by omega)]; exact gA') k2.ll (by simp; omega) (by simp)
      have hc : (L : Int) * M = M * L := Int.mul_comm _ _
      rw [m1', hc] at l1
      rw [hm1]
      refine ⟨N, L, rfl, hL0, hgi, M, hcs, m2', ?_, qa, qm, K, vs.length, k1, vl, l1⟩
      rw [← hc]
      have : (0 : Int) * M ≤ L * M := Int.mul_le_mul_of_nonneg_right (by omega) (by omega)
      exact wrap64 (by omega) (by omega)
    rw [← hm1] at d1 aA
    rw [← hm2] at d2 aB
    rw [← hm3] at d3 aC
    rw [← hm1] at e1 e2 e3 e4 gA gA'
    rw [← hm2] at e5 e6 e10 gB gB'
    rw [← hm3] at e7 e8 e9 gC
    obtain ⟨q, hq⟩ : ∃ w, w = giA n1 r1 := ⟨_, rfl⟩
    obtain ⟨p, hp⟩ : ∃ w, w = csA n1 r1 := ⟨_, rfl⟩
    rw [← hp] at e1 e2 P3 fin
    rw [← hq] at e3 e4 P3 fin
    have hC6 : nro ≤ C.length := by omega
    have fin2 := fin hC6
    have hnA : nro ≤ A.length := by omega
    have hk3 : nro ≤ h.length + 2 + 1 := by omega
    have hk5 : nro ≤ h.length + 4 + 1 := by omega
    have hnB : nro ≤ B.length := by omega
    obtain ⟨w1, w2⟩ := w
    obtain ⟨v1, v2⟩ := v'
    obtain ⟨u1, u2⟩ := u
    obtain ⟨u3, u4⟩ := u'
    obtain ⟨p1, p2⟩ := p
    obtain ⟨q1, q2⟩ := q
    simp only at e1 e2 e3 e4 e5 e6 e7 e8 e9 e10 P1 P2 P3 fin2
    clear fin P4 hp hq hw hv' hu hu' hm1 hm2 hm3 s1 s2 s3 s1C s2C sA sB hA hB hC tC tC0 hs hx hbig hl alloc1
    refine v_laws_FnGirths (by simp [i_laws_FnGirths]) ?_
    rw [fbody_eq]
    by_cases cw : w2 = 0
    · subst cw
      obtain ⟨y1, y2, y3⟩ := P1 rfl
      subst y1
      have y2' : ¬ w1 < v1 := by omega
      have y3' : ¬ v1 < 3 := by omega
      clear P1 y2 y3
      by_cases cu : u2 = 0
      · subst cu
        obtain ⟨rfl, rfl⟩ := Prod.mk.inj (P2 rfl)
        clear P2
        by_cases cp : p2 = 0
        · subst cp
          obtain ⟨N, L, rfl, hL0, hgi, M, hcs, hM1, hwr, qa, qm, K, E, k1, k2, k3⟩ := fin2 rfl
          obtain ⟨rfl, rfl⟩ := Prod.mk.inj hgi
          obtain ⟨rfl, _⟩ := Prod.mk.inj hcs
          have hM2 : ¬ p1 < 1 := by omega
          clear fin2 P3 hgi hcs hM1
          by_cases cE : 24 < (E : Int)
          · simp (disch := first | assumption | omega | (simp [*] <;> omega) | fail) [-getElem?_pos, List.getElem?_cons_zero, List.getElem?_cons_succ, i_laws_FnGirths, hb, d1, aA, e1, e2, e3, e4, d2, stA', gtA, aB, e5, e6, d3, stB', gtB, aC, e7, e8, e9, e10, gA, gA', gB, gB', gC, lA, lB, lC, kC, kC0, hn, hn', hnA, hnB, hC6, hk3, hk5, y2', y3', hM2, k1, k2, cE]
          · simp (disch := first | assumption | omega | (simp [*] <;> omega) | fail) [-getElem?_pos, List.getElem?_cons_zero, List.getElem?_cons_succ, i_laws_FnGirths, hb, d1, aA, e1, e2, e3, e4, d2, stA', gtA, aB, e5, e6, d3, stB', gtB, aC, e7, e8, e9, e10, gA, gA', gB, gB', gC, lA, lB, lC, kC, kC0, hn, hn', hnA, hnB, hC6, hk3, hk5, y2', y3', hM2, k1, k2, cE, k3, hwr]
        · obtain ⟨z1, z2⟩ := P3 cp
          subst z1
          subst z2
          clear fin2 P3
          simp (disch := first | assumption | omega | (simp [*] <;> omega) | fail) [-getElem?_pos, List.getElem?_cons_zero, List.getElem?_cons_succ, i_laws_FnGirths, hb, d1, aA, e1, e2, e3, e4, d2, stA', gtA, aB, e5, e6, d3, stB', gtB, aC, e7, e8, e9, e10, gA, gA', gB, gB', gC, lA, lB, lC, kC, kC0, hn, hn', hnA, hnB, hC6, hk3, hk5, y2', y3', cp]
      · clear P2 e10
        by_cases cp : p2 = 0
        · subst cp
          obtain ⟨N, L, rfl, hL0, hgi, M, hcs, hM1, hwr, qa, qm, K, E, k1, k2, k3⟩ := fin2 rfl
          obtain ⟨rfl, rfl⟩ := Prod.mk.inj hgi
          obtain ⟨rfl, _⟩ := Prod.mk.inj hcs
          have hM2 : ¬ p1 < 1 := by omega
          clear fin2 P3 hgi hcs hM1
          by_cases cE : 24 < (E : Int)
          · simp (disch := first | assumption | omega | (simp [*] <;> omega) | fail) [-getElem?_pos, List.getElem?_cons_zero, List.getElem?_cons_succ, i_laws_FnGirths, hb, d1, aA, e1, e2, e3, e4, d2, stA', gtA, aB, e5, e6, d3, stB', gtB, aC, e7, e8, e9, gA, gA', gB, gB', gC, lA, lB, lC, kC, kC0, hn, hn', hnA, hnB, hC6, hk3, hk5, y2', y3', cu, hM2, k1, k2, cE]
          · simp (disch := first | assumption | omega | (simp [*] <;> omega) | fail) [-getElem?_pos, List.getElem?_cons_zero, List.getElem?_cons_succ, i_laws_FnGirths, hb, d1, aA, e1, e2, e3, e4, d2, stA', gtA, aB, e5, e6, d3, stB', gtB, aC, e7, e8, e9, gA, gA', gB, gB', gC, lA, lB, lC, kC, kC0, hn, hn', hnA, hnB, hC6, hk3, hk5, y2', y3', cu, hM2, k1, k2, cE, k3, hwr]
        · obtain ⟨z1, z2⟩ := P3 cp
          subst z1
          subst z2
          clear fin2 P3
          simp (disch := first | assumption | omega | (simp [*] <;> omega) | fail) [-getElem?_pos, List.getElem?_cons_zero, List.getElem?_cons_succ, i_laws_FnGirths, hb, d1, aA, e1, e2, e3, e4, d2, stA', gtA, aB, e5, e6, d3, stB', gtB, aC, e7, e8, e9, gA, gA', gB, gB', gC, lA, lB, lC, kC, kC0, hn, hn', hnA, hnB, hC6, hk3, hk5, y2', y3', cu, cp]
    · clear P1 e9
      by_cases cu : u2 = 0
      · subst cu
        obtain ⟨rfl, rfl⟩ := Prod.mk.inj (P2 rfl)
        clear P2
        by_cases cp : p2 = 0
        · subst cp
          obtain ⟨N, L, rfl, hL0, hgi, M, hcs, hM1, hwr, qa, qm, K, E, k1, k2, k3⟩ := fin2 rfl
          obtain ⟨rfl, rfl⟩ := Prod.mk.inj hgi
          obtain ⟨rfl, _⟩ := Prod.mk.inj hcs
          have hM2 : ¬ p1 < 1 := by omega
          clear fin2 P3 hgi hcs hM1
          by_cases cE : 24 < (E : Int)
          · simp (disch := first | assumption | omega | (simp [*] <;> omega) | fail) [-getElem?_pos, List.getElem?_cons_zero, List.getElem?_cons_succ, i_laws_FnGirths, hb, d1, aA, e1, e2, e3, e4, d2, stA', gtA, aB, e5, e6, d3, stB', gtB, aC, e7, e8, e10, gA, gA', gB, gB', gC, lA, lB, lC, kC, kC0, hn, hn', hnA, hnB, hC6, hk3, hk5, cw, hM2, k1, k2, cE]
          · simp (disch := first | assumption | omega | (simp [*] <;> omega) | fail) [-getElem?_pos, List.getElem?_cons_zero, List.getElem?_cons_succ, i_laws_FnGirths, hb, d1, aA, e1, e2, e3, e4, d2, stA', gtA, aB, e5, e6, d3, stB', gtB, aC, e7, e8, e10, gA, gA', gB, gB', gC, lA, lB, lC, kC, kC0, hn, hn', hnA, hnB, hC6, hk3, hk5, cw, hM2, k1, k2, cE, k3, hwr]
        · obtain ⟨z1, z2⟩ := P3 cp
          subst z1
          subst z2
          clear fin2 P3
          simp (disch := first | assumption | omega | (simp [*] <;> omega) | fail) [-getElem?_pos, List.getElem?_cons_zero, List.getElem?_cons_succ, i_laws_FnGirths, hb, d1, aA, e1, e2, e3, e4, d2, stA', gtA, aB, e5, e6, d3, stB', gtB, aC, e7, e8, e10, gA, gA', gB, gB', gC, lA, lB, lC, kC, kC0, hn, hn', hnA, hnB, hC6, hk3, hk5, cw, cp]
      · clear P2 e10
        by_cases cp : p2 = 0
        · subst cp
          obtain ⟨N, L, rfl, hL0, hgi, M, hcs, hM1, hwr, qa, qm, K, E, k1, k2, k3⟩ := fin2 rfl
          obtain ⟨rfl, rfl⟩ := Prod.mk.inj hgi
          obtain ⟨rfl, _⟩ := Prod.mk.inj hcs
          have hM2 : ¬ p1 < 1 := by omega
          clear fin2 P3 hgi hcs hM1
          by_cases cE : 24 < (E : Int)
          · simp (disch := first | assumption | omega | (simp [*] <;> omega) | fail) [-getElem?_pos, List.getElem?_cons_zero, List.getElem?_cons_succ, i_laws_FnGirths, hb, d1, aA, e1, e2, e3, e4, d2, stA', gtA, aB, e5, e6, d3, stB', gtB, aC, e7, e8, gA, gA', gB, gB', gC, lA, lB, lC, kC, kC0, hn, hn', hnA, hnB, hC6, hk3, hk5, cw, cu, hM2, k1, k2, cE]
          · simp (disch := first | assumption | omega | (simp [*] <;> omega) | fail) [-getElem?_pos, List.getElem?_cons_zero, List.getElem?_cons_succ, i_laws_FnGirths, hb, d1, aA, e1, e2, e3, e4, d2, stA', gtA, aB, e5, e6, d3, stB', gtB, aC, e7, e8, gA, gA', gB, gB', gC, lA, lB, lC, kC, kC0, hn, hn', hnA, hnB, hC6, hk3, hk5, cw, cu, hM2, k1, k2, cE, k3, hwr]
        · obtain ⟨z1, z2⟩ := P3 cp
          subst z1
          subst z2
          clear fin2 P3
          simp (disch := first | assumption | omega | (simp [*] <;> omega) | fail) [-getElem?_pos, List.getElem?_cons_zero, List.getElem?_cons_succ, i_laws_FnGirths, hb, d1, aA, e1, e2, e3, e4, d2, stA', gtA, aB, e5, e6, d3, stB', gtB, aC, e7, e8, gA, gA', gB, gB', gC, lA, lB, lC, kC, kC0, hn, hn', hnA, hnB, hC6, hk3, hk5, cw, cu, cp]
end Go.Proofs.YtghondlbkjponaaDoor.Zv

