/- The plain law, first part: reading typed data; small functions. No condition. -/
import Derived.Test.YtfhpoffgnpgagaaFn5
import Derived.Test.YtfhpoffgnpgagaaDat
set_option linter.unusedSimpArgs false
set_option linter.unusedVariables false
namespace Go.Proofs.Ytfhpoffgnpgagaa
open Go Go.Proofs Go.Abs
set_option linter.unusedVariables false
set_option linter.unusedSimpArgs false

theorem lenN_lst {n : Nat} {cs : List PD} : lenN (.lst n cs) = n := rfl
theorem cellsD_lst {n : Nat} {cs : List PD} : cellsD (.lst n cs) = cs := rfl
theorem isSlD_lst {n : Nat} {cs : List PD} : isSlD (.lst n cs) = true := rfl
theorem isLst_lst {n : Nat} {cs : List PD} : isLst (.lst n cs) = true := rfl
theorem isSlD_nil : isSlD .nil = true := rfl
theorem lenN_nil : lenN .nil = 0 := rfl
theorem intD_int {k : IntKind} {z : Int} : intD (.int k z) = z := rfl
theorem strD_str {b : List UInt8} : strD (.str b) = b := rfl
theorem boolD_bool {b : Bool} : boolD (.bool b) = b := rfl
theorem isI_int {k : IntKind} {z : Int} : isI k (.int k z) = true := by simp [isI]
theorem isS_str {b : List UInt8} : isS (.str b) = true := rfl
theorem getD_drop {l : List PD} {a b : Nat} {d : PD} : (l.drop a).getD b d = l.getD (a + b) d := by simp [List.getD_eq_getElem?_getD, List.getElem?_drop]
theorem idx_lst {sz n : Nat} {cs : List PD} {z : Int} (h0 : 0 ≤ z) (h1 : z < n) (h2 : z.toNat * sz ≤ cs.length) : idxOK sz (.lst n cs) z := ⟨rfl, h0, h1, h2⟩
theorem src_lst {sz n : Nat} {cs : List PD} (h : cs.length = n * sz) : srcOK sz (.lst n cs) := ⟨rfl, h⟩
theorem ap_ok {b n : Nat} (h : n * b ≤ 140737488355328) (h2 : n ≤ 9223372036854775807) : apOK b n := ⟨h, h2⟩
theorem mk_ok {b : Nat} {z : Int} (h0 : 0 ≤ z) (h1 : z ≤ 9223372036854775807) (h2 : (b : Int) * z ≤ 281474976710656) : mkOK b z := ⟨h0, h1, h2⟩

theorem isD_at {l : List Int} {i : Nat} (h : i < l.length) : (isD l).getD i .nil = .int .i64 (l.getD i 0) := by simp [isD, iD, h]
theorem flat_at {α : Type} [Inhabited α] (g : α → List PD) (m : Nat) (hg : ∀ a, (g a).length = m) {s : List α} {i o : Nat} (h : i < s.length) (ho : o < m) : (s.flatMap g).getD (i * m + o) .nil = (g (s.getD i default)).getD o .nil := by
  rw [List.getD_eq_getElem?_getD, flat_get g m hg h ho, List.getD_eq_getElem?_getD, List.getD_eq_getElem?_getD]
  simp [h]
theorem fl0 {s : List Fld} {i : Nat} (h : i < s.length) : (s.flatMap fldD).getD (i * 4 + 0) .nil = .str (s.getD i default).name := flat_at fldD 4 fldD_len h (by omega)
theorem fl1 {s : List Fld} {i : Nat} (h : i < s.length) : (s.flatMap fldD).getD (i * 4 + 1) .nil = .int .i64 (s.getD i default).rep := flat_at fldD 4 fldD_len h (by omega)
theorem fl2 {s : List Fld} {i : Nat} (h : i < s.length) : (s.flatMap fldD).getD (i * 4 + 2) .nil = .int .i64 (s.getD i default).kind := flat_at fldD 4 fldD_len h (by omega)
theorem fl3 {s : List Fld} {i : Nat} (h : i < s.length) : (s.flatMap fldD).getD (i * 4 + 3) .nil = .int .i64 (s.getD i default).kids := flat_at fldD 4 fldD_len h (by omega)
theorem fl0' {s : List Fld} {i : Nat} (h : i < s.length) : (s.flatMap fldD).getD (i * 4) .nil = .str (s.getD i default).name := fl0 h
theorem lv0 {s : List Lf} {i : Nat} (h : i < s.length) : (s.flatMap lfD).getD (i * 4 + 0) .nil = .int .i64 (s.getD i default).field := flat_at lfD 4 lfD_len h (by omega)
theorem lv0' {s : List Lf} {i : Nat} (h : i < s.length) : (s.flatMap lfD).getD (i * 4) .nil = .int .i64 (s.getD i default).field := lv0 h
theorem lv1 {s : List Lf} {i : Nat} (h : i < s.length) : (s.flatMap lfD).getD (i * 4 + 1) .nil = .int .i64 (s.getD i default).r := flat_at lfD 4 lfD_len h (by omega)
theorem lv2 {s : List Lf} {i : Nat} (h : i < s.length) : (s.flatMap lfD).getD (i * 4 + 2) .nil = .int .i64 (s.getD i default).d := flat_at lfD 4 lfD_len h (by omega)
theorem lv3 {s : List Lf} {i : Nat} (h : i < s.length) : (s.flatMap lfD).getD (i * 4 + 3) .nil = .int .i64 (s.getD i default).kind := flat_at lfD 4 lfD_len h (by omega)
theorem add0 {a : Nat} : a + 0 = a := rfl

def inR (a : Int) : Prop := -9223372036854775808 ≤ a ∧ a < 9223372036854775808

theorem F14_eq (n : Nat) (a m : Int) (hm : 0 < m) (hm2 : m < 4611686018427387904) (ha : inR a) : F14 n a m = some (a % m) := by
  obtain ⟨h1, h2⟩ := ha
  have e1 : a.tmod m = a % m - if 0 ≤ a ∨ m ∣ a then 0 else m.natAbs := Int.tmod_eq_emod
  have b1 := Int.emod_nonneg a (by omega : m ≠ 0)
  have b2 := Int.emod_lt_of_pos a hm
  have b3 : (m.natAbs : Int) = m := by omega
  have e2 : (¬ (0 ≤ a ∨ m ∣ a)) → a % m ≠ 0 := fun h h0 => h (.inr (Int.dvd_of_emod_eq_zero h0))
  unfold F14 F14_K1
  rw [gd_in (by omega)]
  by_cases hc : 0 ≤ a ∨ m ∣ a
  · rw [if_pos hc] at e1
    have : decide (a.tmod m < 0) = false := by simp; omega
    rw [this]; simp only [cond_false]; congr 1; omega
  · rw [if_neg hc] at e1
    have hne := e2 hc
    have : decide (a.tmod m < 0) = true := by simp; omega
    rw [this]; simp only [cond_true]
    rw [wrap_i64 (by omega) (by omega)]; congr 1; omega
theorem F50_eq (n : Nat) (a m : Int) (hm : 0 < m) (hm2 : m < 4611686018427387904) (ha : inR a) : F50 n a m = some (a % m) := F14_eq n a m hm hm2 ha

theorem F25_eq (n k : Nat) (cs : List PD) (hk : 0 < k) (h : cs.length = k) (hb : k < 1000000) : F25 n (.lst k cs) = some (.lst k cs) := by
  unfold F25
  rw [gd_in (by simp [nilOK, hk])]
  simp only [isNilD, cond_false, lenN_lst, cellsD_lst, Nat.zero_add, List.nil_append]
  rw [gd_in ⟨src_lst (by omega), ap_ok (by omega) (by omega)⟩, gd_in (by omega)]
theorem F38_eq (n k : Nat) (cs : List PD) (hk : 0 < k) (h : cs.length = k * 4) (hb : k < 1000000) : F38 n (.lst k cs) = some (.lst k cs) := by
  unfold F38
  rw [gd_in (by simp [nilOK, hk])]
  simp only [isNilD, cond_false, lenN_lst, cellsD_lst, Nat.zero_add, List.nil_append]
  rw [gd_in ⟨src_lst (by omega), ap_ok (by omega) (by omega)⟩, gd_in (by omega)]
theorem F40_eq (n : Nat) (nm : List UInt8) (r k c : Int) : F40 n nm r k c = some (if r = 2 then 42 else 49) := by
  unfold F40
  by_cases h : r = 2
  · subst h; rfl
  · have : (r == 2) = false := by simpa using h
    rw [this, if_neg h]; rfl
end Go.Proofs.Ytfhpoffgnpgagaa

namespace Go.Proofs.Ytfhpoffgnpgagaa
open Go Go.Proofs Go.Abs
set_option linter.unusedVariables false
set_option linter.unusedSimpArgs false

theorem F24_step (l : List Lf) (x : Lf) (m i : Nat) (hi : i < l.length) (hb : l.length < 1000000) : F24_L1 (lfsD l) x.field x.r x.d x.kind (m + 1) (i : Int) = if x = l.getD i default then some (i : Int) else F24_L1 (lfsD l) x.field x.r x.d x.kind m ((i + 1 : Nat) : Int) := by
  rw [F24_L1]
  unfold lfsD
  have hd : decide ((i : Int) < (lenN (PD.lst l.length (l.flatMap lfD)) : Int)) = true := by simp only [lenN_lst]; simp; omega
  rw [hd, cond_true, gd_in (idx_lst (by omega) (by omega) (by rw [lfs_len]; simp only [Int.toNat_natCast]; omega))]
  simp only [lenN_lst, cellsD_lst, isSlD_lst, isLst_lst, Int.toNat_natCast, getD_drop, intD_int, strD_str, isI_int, isS_str, List.length_drop, flds_len, lfs_len, isD_length, and_true, true_and, and_self, lv0 hi, lv1 hi, lv2 hi, lv3 hi]
  rw [gd_in (by omega), gd_in (by omega), wrap_i64 (by omega) (by omega)]
  generalize l.getD i default = y
  obtain ⟨y0, y1, y2, y3⟩ := y
  obtain ⟨x0, x1, x2, x3⟩ := x
  by_cases h : (⟨x0, x1, x2, x3⟩ : Lf) = ⟨y0, y1, y2, y3⟩
  · rw [if_pos h]
    simp only [Lf.mk.injEq] at h
    obtain ⟨rfl, rfl, rfl, rfl⟩ := h
    simp
  · rw [if_neg h]
    have : (((x0 : Int) == (y0 : Int)) && (((x1 : Int) == (y1 : Int)) && (((x2 : Int) == (y2 : Int)) && (((x3 : Int) == (y3 : Int)) && true)))) = false := by
      rw [Bool.eq_false_iff]
      intro hh
      simp only [Bool.and_eq_true, beq_iff_eq, Int.natCast_inj, and_true] at hh
      exact h (by obtain ⟨a, b, c, d⟩ := hh; subst a b c d; rfl)
    rw [this, cond_false]; rfl

theorem F24_eq (l : List Lf) (j : Nat) (hj : j < l.length) (hb : l.length < 1000000) (hd : ∀ i, i < j → l.getD i default ≠ l.getD j default) (n : Nat) (hn : j < n) :
    F24 n (lfsD l) (l.getD j default).field (l.getD j default).r (l.getD j default).d (l.getD j default).kind = some (j : Int) := by
  have key : ∀ d i m, i + d = j → d < m → F24_L1 (lfsD l) (l.getD j default).field (l.getD j default).r (l.getD j default).d (l.getD j default).kind m (i : Int) = some (j : Int) := by
    intro d
    induction d with
    | zero =>
      intro i m hi hm
      obtain ⟨m, rfl⟩ : ∃ k, m = k + 1 := ⟨m - 1, by omega⟩
      rw [F24_step l _ m i (by omega) hb]
      have : i = j := by omega
      subst this
      rw [if_pos rfl]
    | succ d ih =>
      intro i m hi hm
      obtain ⟨m, rfl⟩ : ∃ k, m = k + 1 := ⟨m - 1, by omega⟩
      rw [F24_step l _ m i (by omega) hb, if_neg (fun h => hd i (by omega) h.symm)]
      exact ih (i + 1) m (by omega) (by omega)
  unfold F24
  rw [gd_in (show isSlD (lfsD l) = true from rfl)]
  exact key j 0 n (by omega) hn

theorem setD_isD {l : List Int} {i : Nat} {v : Int} (h : i < l.length) : setD (isD l) i [.int .i64 v] = isD (l.set i v) := by
  unfold setD isD
  rw [List.set_eq_take_append_cons_drop, if_pos h]
  simp [List.map_take, List.map_drop, iD]
theorem setD_len {l ds : List PD} {i : Nat} (h : i + ds.length ≤ l.length) : (setD l i ds).length = l.length := by
  unfold setD; simp; omega

theorem F54_eq (L : Nat) (hL : L < 1000000) : ∀ (k : Nat) (B A C : List Int), B.length ≤ k → (A ++ B ++ C).length = L → ∀ m, B.length < m → F54_L1 L m (A.length : Int) ((A.length : Int) + B.length - 1) (isD (A ++ B ++ C)) = some (isD (A ++ B.reverse ++ C)) := by
  intro k
  induction k with
  | zero =>
    intro B A C hB hlen m hm
    have : B = [] := List.length_eq_zero_iff.1 (by omega)
    subst this
    obtain ⟨m, rfl⟩ : ∃ k, m = k + 1 := ⟨m - 1, by omega⟩
    rw [F54_L1]
    have : decide ((A.length : Int) < (A.length : Int) + (([] : List Int).length : Int) - 1) = false := by simp only [List.length_nil]; simp; omega
    rw [this, cond_false]; rfl
  | succ k ih =>
    intro B A C hB hlen m hm
    obtain ⟨m, rfl⟩ : ∃ k, m = k + 1 := ⟨m - 1, by omega⟩
    rcases Nat.lt_or_ge B.length 2 with h2 | h2
    · rw [F54_L1]
      have : decide ((A.length : Int) < (A.length : Int) + (B.length : Int) - 1) = false := by simp; omega
      rw [this, cond_false]
      have : B.reverse = B := by
        match B, h2 with
        | [], _ => rfl
        | [x], _ => rfl
        | _ :: _ :: _, h => simp at h; omega
      rw [this]
    · obtain ⟨x, B1, rfl⟩ : ∃ x B1, B = x :: B1 := by
        cases B with
        | nil => simp at h2
        | cons x B1 => exact ⟨x, B1, rfl⟩
      obtain ⟨B2, y, rfl⟩ : ∃ B2 y, B1 = B2 ++ [y] := by
        have : B1 ≠ [] := by rintro rfl; simp at h2
        exact ⟨B1.dropLast, B1.getLast this, (List.dropLast_concat_getLast this).symm⟩
      simp only [List.length_append, List.length_cons, List.length_nil] at hlen hB hm
      rw [F54_L1]
      have hlt : decide ((A.length : Int) < (A.length : Int) + ((x :: (B2 ++ [y])).length : Int) - 1) = true := by simp; omega
      rw [hlt, cond_true]
      have ej : ((A.length : Int) + ((x :: (B2 ++ [y])).length : Int) - 1) = ((A.length + B2.length + 1 : Nat) : Int) := by simp; omega
      rw [ej]
      have gi : (A ++ x :: (B2 ++ [y]) ++ C).getD A.length 0 = x := by simp [List.getD_eq_getElem?_getD]
      have gj : (A ++ x :: (B2 ++ [y]) ++ C).getD (A.length + B2.length + 1) 0 = y := by
        have : A ++ x :: (B2 ++ [y]) ++ C = (A ++ x :: B2) ++ (y :: C) := by simp
        rw [this, List.getD_eq_getElem?_getD, List.getElem?_append_right (by simp; omega)]
        have : A.length + B2.length + 1 - (A ++ x :: B2).length = 0 := by simp; omega
        rw [this]; rfl
      have hl : (A ++ x :: (B2 ++ [y]) ++ C).length = L := by simp; omega
      have hlD : (isD (A ++ x :: (B2 ++ [y]) ++ C)).length = L := by rw [isD_length]; exact hl
      simp only [Int.toNat_natCast, Nat.mul_one]
      rw [isD_at (by omega), isD_at (by omega), gi, gj]
      simp only [intD_int, isI_int, and_true]
      simp only [setD_isD (show A.length < (A ++ x :: (B2 ++ [y]) ++ C).length by omega)]
      have hs : (A ++ x :: (B2 ++ [y]) ++ C).set A.length y = (A ++ y :: B2) ++ y :: C := by
        rw [List.append_assoc, List.set_append_right _ _ (Nat.le_refl _)]; simp
      simp only [hs]
      have hl2 : ((A ++ y :: B2) ++ y :: C).length = L := by simp; omega
      rw [gd_in (by omega), gd_in (by omega), gd_in (by omega), gd_in (by omega), gd_in (by omega), gd_in (by omega), gd_in (by omega), gd_in (by rw [isD_length]; omega), setD_isD (by omega)]
      have hs2 : ((A ++ y :: B2) ++ y :: C).set (A.length + B2.length + 1) x = (A ++ [y]) ++ B2 ++ (x :: C) := by
        rw [List.set_append_right _ _ (by simp; omega)]
        have : A.length + B2.length + 1 - (A ++ y :: B2).length = 0 := by simp; omega
        rw [this]; simp
      rw [hs2, wrap_i64 (by omega) (by omega), wrap_i64 (by omega) (by omega)]
      have := ih B2 (A ++ [y]) (x :: C) (by omega) (by simp; omega) m (by omega)
      simp only [List.length_append, List.length_singleton] at this
      rw [show ((A.length : Int) + 1) = ((A.length + 1 : Nat) : Int) by omega, show (((A.length + B2.length + 1 : Nat) : Int) - 1) = ((A.length + 1 : Nat) : Int) + (B2.length : Int) - 1 by omega, this]
      simp

theorem F54_rev (l : List Int) (hl : l.length < 1000000) (n : Nat) (hn : l.length < n) : F54 n l.length (isD l) = some (isD l.reverse) := by
  unfold F54
  have := F54_eq l.length hl l.length l [] [] (Nat.le_refl _) (by simp) n hn
  simp only [List.length_nil, List.nil_append, List.append_nil] at this
  rw [wrap_i64 (by omega) (by omega)]
  simpa using this

/-- The ways of all fields: each its group's, and itself. -/
structure Ways (P : List Int) (Wy : List (List Nat)) : Prop where
  len : Wy.length = P.length
  lo : ∀ j, j < P.length → -1 ≤ P.getD j 0 ∧ P.getD j 0 < j
  way : ∀ j, j < P.length → Wy.getD j [] = (if P.getD j 0 < 0 then [] else Wy.getD (P.getD j 0).toNat []) ++ [j]

def natI (l : List Nat) : List Int := l.map fun x => Int.ofNat x
theorem natI_len (l : List Nat) : (natI l).length = l.length := by simp [natI]

theorem Ways.len_le {P : List Int} {Wy : List (List Nat)} (h : Ways P Wy) : ∀ j, j < P.length → (Wy.getD j []).length ≤ j + 1 := by
  intro j
  induction j using Nat.strongRecOn with
  | _ j ih =>
    intro hj
    rw [h.way j hj]
    obtain ⟨l1, l2⟩ := h.lo j hj
    split
    · simp
    · rename_i hp
      have := ih (P.getD j 0).toNat (by omega) (by omega)
      simp only [List.length_append, List.length_singleton]; omega

theorem F39_eq {P : List Int} {Wy : List (List Nat)} (h : Ways P Wy) (hP : P.length < 100000) (n : Nat) (hn : P.length + 1 < n) : ∀ j, j < P.length → ∀ (acc : List Int) (m : Nat), j < m → acc.length ≤ P.length - j →
    F39_L1 (.lst P.length (isD P)) n m (j : Int) acc.length (isD acc) = some (.lst ((Wy.getD j []).length + acc.length) (isD (natI (Wy.getD j []) ++ acc.reverse))) := by
  intro j
  induction j using Nat.strongRecOn with
  | _ j ih =>
    intro hj acc m hm hacc
    obtain ⟨m, rfl⟩ : ∃ k, m = k + 1 := ⟨m - 1, by omega⟩
    obtain ⟨l1, l2⟩ := h.lo j hj
    rw [F39_L1]
    rw [gd_in ⟨ap_ok (by omega) (by omega), by rw [isD_length]; omega⟩, gd_in (idx_lst (by omega) (by omega) (by rw [isD_length]; simp only [Int.toNat_natCast]; omega))]
    simp only [lenN_lst, cellsD_lst, isSlD_lst, isLst_lst, Int.toNat_natCast, getD_drop, intD_int, strD_str, isI_int, isS_str, List.length_drop, flds_len, lfs_len, isD_length, and_true, true_and, and_self, Nat.mul_one, Nat.add_zero, isD_at hj]
    rw [gd_in (by omega)]
    have eacc : isD acc ++ [PD.int .i64 (j : Int)] = isD (acc ++ [(j : Int)]) := by simp [isD, iD]
    rw [eacc, h.way j hj]
    by_cases hp : P.getD j 0 < 0
    · have hd : decide ((0 : Int) ≤ P.getD j 0) = false := decide_eq_false (by omega)
      rw [hd, cond_false, if_pos hp]
      have hl : acc.length + 1 = (acc ++ [(j : Int)]).length := by simp
      rw [hl, F54_rev _ (by simp only [List.length_append, List.length_singleton]; omega) n (by simp only [List.length_append, List.length_singleton]; omega), bd_some, gd_in (by rw [isD_length]; simp)]
      simp [natI]; omega
    · have hd : decide ((0 : Int) ≤ P.getD j 0) = true := decide_eq_true (by omega)
      rw [hd, cond_true, if_neg hp]
      have := ih (P.getD j 0).toNat (by omega) (by omega) (acc ++ [(j : Int)]) m (by omega) (by simp only [List.length_append, List.length_singleton]; omega)
      rw [show (((P.getD j 0).toNat : Nat) : Int) = P.getD j 0 by omega] at this
      have hl : acc.length + 1 = (acc ++ [(j : Int)]).length := by simp
      rw [hl, this]
      simp only [natI, List.length_append, List.length_singleton, List.map_append, List.map_cons, List.map_nil, List.reverse_append, List.reverse_cons, List.reverse_nil, List.nil_append, List.cons_append, List.append_assoc]
      congr 2; omega

theorem F39_way {P : List Int} {Wy : List (List Nat)} (h : Ways P Wy) (hP : P.length < 100000) (n : Nat) (hn : P.length + 1 < n) (j : Nat) (hj : j < P.length) : F39 n (.lst P.length (isD P)) (j : Int) = some (.lst (Wy.getD j []).length (isD (natI (Wy.getD j [])))) := by
  unfold F39
  have := F39_eq h hP n hn j hj [] n (by omega) (by simp)
  simp only [List.length_nil, Nat.add_zero, List.reverse_nil, List.append_nil] at this
  exact this
end Go.Proofs.Ytfhpoffgnpgagaa

namespace Go.Proofs.Ytfhpoffgnpgagaa
open Go Go.Proofs Go.Abs
set_option linter.unusedVariables false
set_option linter.unusedSimpArgs false

def fat (s : List Fld) (j : Nat) : Fld := s.getD j default
def cntR (s : List Fld) (w : List Nat) : Nat := (w.filter fun j => (fat s j).rep = 2).length
def cntD (s : List Fld) (w : List Nat) : Nat := (w.filter fun j => (fat s j).rep ≠ 0).length
def leafOf (s : List Fld) (Wy : List (List Nat)) (j : Nat) : Lf := ⟨j, cntR s (Wy.getD j []), cntD s (Wy.getD j []), (fat s j).kind⟩
/-- The places of the leaves among the first i fields. -/
def lplaces (s : List Fld) (i : Nat) : List Nat := (List.range i).filter fun j => (fat s j).kind ≠ 0
def leavesX (s : List Fld) (Wy : List (List Nat)) : List Lf := (lplaces s s.length).map (leafOf s Wy)

theorem lplaces_succ (s : List Fld) (i : Nat) : lplaces s (i + 1) = lplaces s i ++ (if (fat s i).kind ≠ 0 then [i] else []) := by
  unfold lplaces
  rw [List.range_succ, List.filter_append]
  congr 1
  by_cases h : (fat s i).kind ≠ 0 <;> simp [h]
theorem lplaces_len (s : List Fld) (i : Nat) : (lplaces s i).length ≤ i := by
  unfold lplaces
  have := List.length_filter_le (fun j => decide ((fat s j).kind ≠ 0)) (List.range i)
  simpa using this

theorem cntR_app (s : List Fld) (a b : List Nat) : cntR s (a ++ b) = cntR s a + cntR s b := by simp [cntR]
theorem cntD_app (s : List Fld) (a b : List Nat) : cntD s (a ++ b) = cntD s a + cntD s b := by simp [cntD]
theorem cntR_one (s : List Fld) (j : Nat) : cntR s [j] = if (fat s j).rep = 2 then 1 else 0 := by
  unfold cntR; by_cases h : (fat s j).rep = 2 <;> simp [h]
theorem cntD_one (s : List Fld) (j : Nat) : cntD s [j] = if (fat s j).rep ≠ 0 then 1 else 0 := by
  unfold cntD; by_cases h : (fat s j).rep = 0 <;> simp [h]
theorem cntR_le (s : List Fld) (w : List Nat) : cntR s w ≤ w.length := List.length_filter_le _ _
theorem cntD_le (s : List Fld) (w : List Nat) : cntD s w ≤ w.length := List.length_filter_le _ _

theorem setD_lf {l : List Lf} {i : Nat} {x : Lf} (h : i < l.length) : setD (l.flatMap lfD) (i * 4) (lfD x) = (l.set i x).flatMap lfD := by
  have e : l = l.take i ++ l[i] :: l.drop (i + 1) := by rw [← List.drop_eq_getElem_cons h, List.take_append_drop]
  have hs : l.set i x = l.take i ++ x :: l.drop (i + 1) := by rw [List.set_eq_take_append_cons_drop, if_pos h]
  have h1 : ((l.take i).flatMap lfD).length = i * 4 := by rw [lfs_len, List.length_take, Nat.min_eq_left (Nat.le_of_lt h)]
  have e1 : l.flatMap lfD = (l.take i).flatMap lfD ++ (lfD l[i] ++ (l.drop (i + 1)).flatMap lfD) := by
    have := congrArg (fun q => List.flatMap lfD q) e
    simp only [List.flatMap_append, List.flatMap_cons] at this
    exact this
  unfold setD
  rw [hs, e1, List.take_left' h1, List.flatMap_append, List.flatMap_cons]
  rw [List.append_assoc]
  congr 2
  rw [← List.drop_drop, List.drop_left' h1]
  exact List.drop_left' rfl

section
variable {s : List Fld} {P : List Int} {Wy : List (List Nat)}

/-- What is told of the levels so far. -/
structure LvS (s : List Fld) (Wy : List (List Nat)) (i : Nat) (lv : List Lf) : Prop where
  len : lv.length = s.length
  at_ : ∀ j, j < i → lv.getD j default = leafOf s Wy j

theorem F19_step (hw : Ways P Wy) (hps : P.length = s.length) (hs : s.length < 10000) (n : Nat) (i : Nat) (hi : i < s.length) (lv : List Lf) (hl : LvS s Wy i lv) (m : Nat) :
    F19_L1 (schD s) (.lst P.length (isD P)) n (m + 1) (lplaces s i).length (i : Int) (lv.flatMap lfD) (((lplaces s i).map (leafOf s Wy)).flatMap lfD) =
    F19_L1 (schD s) (.lst P.length (isD P)) n m (lplaces s (i + 1)).length ((i + 1 : Nat) : Int) ((lv.set i (leafOf s Wy i)).flatMap lfD) (((lplaces s (i + 1)).map (leafOf s Wy)).flatMap lfD) := by
  obtain ⟨l1, l2⟩ := hw.lo i (by omega)
  have hlen := hl.len
  have hll := lplaces_len s i
  have hwl := hw.len_le i (by omega)
  have hwy := hw.way i (by omega)
  have hr := cntR_le s (Wy.getD i [])
  have hd := cntD_le s (Wy.getD i [])
  rw [F19_L1]
  unfold schD
  have hc : decide ((i : Int) < (lenN (PD.lst s.length (s.flatMap fldD)) : Int)) = true := decide_eq_true (by rw [lenN_lst]; omega)
  rw [hc, cond_true, gd_in (idx_lst (by omega) (by omega) (by rw [flds_len]; simp only [Int.toNat_natCast]; omega))]
  simp only [lenN_lst, cellsD_lst, isSlD_lst, isLst_lst, Int.toNat_natCast, getD_drop, intD_int, strD_str, isI_int, isS_str, List.length_drop, flds_len, lfs_len, isD_length, and_true, true_and, and_self, fl0' hi, fl1 hi, fl2 hi, fl3 hi, Nat.mul_one, Nat.add_zero, isD_at (show i < P.length by omega)]
  rw [gd_in (by omega), gd_in (by omega), gd_in (idx_lst (by omega) (by omega) (by rw [isD_length]; simp only [Int.toNat_natCast]; omega)), gd_in (by omega)]
  have fin : ∀ r d : Nat, r + (if (fat s i).rep = 2 then 1 else 0) = cntR s (Wy.getD i []) → d + (if (fat s i).rep ≠ 0 then 1 else 0) = cntD s (Wy.getD i []) →
      F19_K3 (.lst s.length (s.flatMap fldD)) (i : Int) (lv.flatMap lfD) (lplaces s i).length (((lplaces s i).map (leafOf s Wy)).flatMap lfD) (F19_L1 (.lst s.length (s.flatMap fldD)) (.lst P.length (isD P)) n m) (r : Int) (d : Int) =
      F19_L1 (.lst s.length (s.flatMap fldD)) (.lst P.length (isD P)) n m (lplaces s (i + 1)).length ((i + 1 : Nat) : Int) ((lv.set i (leafOf s Wy i)).flatMap lfD) (((lplaces s (i + 1)).map (leafOf s Wy)).flatMap lfD) := by
    intro r d hr' hd'
    have k3 : F19_K3 (.lst s.length (s.flatMap fldD)) (i : Int) (lv.flatMap lfD) (lplaces s i).length (((lplaces s i).map (leafOf s Wy)).flatMap lfD) (F19_L1 (.lst s.length (s.flatMap fldD)) (.lst P.length (isD P)) n m) (r : Int) (d : Int) =
        F19_K4 (.lst s.length (s.flatMap fldD)) (i : Int) (lv.flatMap lfD) (lplaces s i).length (((lplaces s i).map (leafOf s Wy)).flatMap lfD) (F19_L1 (.lst s.length (s.flatMap fldD)) (.lst P.length (isD P)) n m) (d : Int) (cntR s (Wy.getD i []) : Int) := by
      unfold F19_K3
      simp only [lenN_lst, cellsD_lst, isSlD_lst, isLst_lst, Int.toNat_natCast, getD_drop, intD_int, strD_str, isI_int, isS_str, List.length_drop, flds_len, lfs_len, isD_length, and_true, true_and, and_self, fl1 hi]
      by_cases h2 : (fat s i).rep = 2
      · have : ((((s.getD i default).rep : Nat) : Int) == (2 : Int)) = true := by have h2 : (s.getD i default).rep = 2 := h2; rw [h2]; rfl
        rw [if_pos h2] at hr'
        rw [this, cond_true, wrap_i64 (by omega) (by omega)]; congr 1; omega
      · have : ((((s.getD i default).rep : Nat) : Int) == (2 : Int)) = false := by
          have h2 : ¬ (s.getD i default).rep = 2 := h2
          simp only [beq_eq_false_iff_ne, ne_eq]; omega
        rw [if_neg h2] at hr'
        rw [this, cond_false]; congr 1; omega
    have k4 : ∀ R : Int, F19_K4 (.lst s.length (s.flatMap fldD)) (i : Int) (lv.flatMap lfD) (lplaces s i).length (((lplaces s i).map (leafOf s Wy)).flatMap lfD) (F19_L1 (.lst s.length (s.flatMap fldD)) (.lst P.length (isD P)) n m) (d : Int) R =
        F19_K5 (i : Int) (.lst s.length (s.flatMap fldD)) (lv.flatMap lfD) (lplaces s i).length (((lplaces s i).map (leafOf s Wy)).flatMap lfD) (F19_L1 (.lst s.length (s.flatMap fldD)) (.lst P.length (isD P)) n m) R (cntD s (Wy.getD i []) : Int) := by
      intro R
      unfold F19_K4
      simp only [lenN_lst, cellsD_lst, isSlD_lst, isLst_lst, Int.toNat_natCast, getD_drop, intD_int, strD_str, isI_int, isS_str, List.length_drop, flds_len, lfs_len, isD_length, and_true, true_and, and_self, fl1 hi]
      by_cases h2 : (fat s i).rep ≠ 0
      · have : ((((s.getD i default).rep : Nat) : Int) != (0 : Int)) = true := by
          have h2 : (s.getD i default).rep ≠ 0 := h2
          simp only [bne_iff_ne, ne_eq]; omega
        rw [if_pos h2] at hd'
        rw [this, cond_true, wrap_i64 (by omega) (by omega)]; congr 1; omega
      · have h3 : (s.getD i default).rep = 0 := by have := h2; simp only [ne_eq, Decidable.not_not] at this; exact this
        have : ((((s.getD i default).rep : Nat) : Int) != (0 : Int)) = false := by rw [h3]; rfl
        rw [if_neg h2] at hd'
        rw [this, cond_false]; congr 1; omega
    rw [k3, k4]
    unfold F19_K5
    rw [gd_in (by simp only [lenN_lst, Int.toNat_natCast]; omega), gd_in (by rw [lfs_len]; simp only [Int.toNat_natCast]; omega)]
    simp only [lenN_lst, cellsD_lst, isSlD_lst, isLst_lst, Int.toNat_natCast, getD_drop, intD_int, strD_str, isI_int, isS_str, List.length_drop, flds_len, lfs_len, isD_length, and_true, true_and, and_self, fl2 hi]
    have hset : setD (lv.flatMap lfD) (i * 4) [.int .i64 (i : Int), .int .i64 (cntR s (Wy.getD i []) : Int), .int .i64 (cntD s (Wy.getD i []) : Int), .int .i64 ((s.getD i default).kind : Int)] = (lv.set i (leafOf s Wy i)).flatMap lfD := setD_lf (x := leafOf s Wy i) (by omega)
    by_cases hk : (fat s i).kind ≠ 0
    · have : ((((s.getD i default).kind : Nat) : Int) != (0 : Int)) = true := by
        have hk : (s.getD i default).kind ≠ 0 := hk
        simp only [bne_iff_ne, ne_eq]; omega
      rw [this, cond_true, gd_in ⟨ap_ok (by omega) (by omega), by simp only [List.length_map, lfs_len]⟩]
      unfold F19_K2
      rw [wrap_i64 (by omega) (by omega), hset, lplaces_succ, if_pos hk]
      simp only [List.length_append, List.length_singleton, List.map_append, List.map_cons, List.map_nil, List.flatMap_append, List.flatMap_cons, List.flatMap_nil, List.append_nil]
      rfl
    · have h3 : (s.getD i default).kind = 0 := by have := hk; simp only [ne_eq, Decidable.not_not] at this; exact this
      have : ((((s.getD i default).kind : Nat) : Int) != (0 : Int)) = false := by rw [h3]; rfl
      rw [this, cond_false]
      unfold F19_K2
      rw [wrap_i64 (by omega) (by omega), hset, lplaces_succ, if_neg hk, List.append_nil]
      rfl
  by_cases hp : P.getD i 0 < 0
  · have : decide ((0 : Int) ≤ P.getD i 0) = false := decide_eq_false (by omega)
    rw [this, cond_false]
    rw [if_pos hp, List.nil_append] at hwy
    have := fin 0 0 (by rw [hwy, cntR_one]; omega) (by rw [hwy, cntD_one]; omega)
    exact this
  · have : decide ((0 : Int) ≤ P.getD i 0) = true := decide_eq_true (by omega)
    rw [this, cond_true]
    rw [if_neg hp] at hwy
    obtain ⟨q, hq⟩ : ∃ q : Nat, P.getD i 0 = q := ⟨(P.getD i 0).toNat, by omega⟩
    rw [hq] at hwy l2 ⊢
    simp only [Int.toNat_natCast] at hwy ⊢
    have hlv := hl.at_ q (by omega)
    simp only [lv1 (show q < lv.length by omega), lv2 (show q < lv.length by omega), isI_int, intD_int, and_true, lfs_len]
    rw [gd_in (by omega), gd_in (by omega), gd_in (by omega), gd_in (by omega), hlv]
    exact fin (cntR s (Wy.getD q [])) (cntD s (Wy.getD q [])) (by rw [hwy, cntR_app, cntR_one]) (by rw [hwy, cntD_app, cntD_one])

theorem F19_eq (hw : Ways P Wy) (hps : P.length = s.length) (hs : s.length < 10000) (n : Nat) (hn : s.length < n) (h37 : F37 n (schD s) = some (.lst P.length (isD P))) (hne : 0 < (leavesX s Wy).length) : F19 n (schD s) = some (lfsD (leavesX s Wy)) := by
  have key : ∀ d i (lv : List Lf) (m : Nat), i + d = s.length → d < m → LvS s Wy i lv → F19_L1 (schD s) (.lst P.length (isD P)) n m (lplaces s i).length (i : Int) (lv.flatMap lfD) (((lplaces s i).map (leafOf s Wy)).flatMap lfD) = some (lfsD (leavesX s Wy)) := by
    intro d
    induction d with
    | zero =>
      intro i lv m hi hm hl
      obtain ⟨m, rfl⟩ : ∃ k, m = k + 1 := ⟨m - 1, by omega⟩
      have : i = s.length := by omega
      subst this
      rw [F19_L1]
      have hc : decide ((s.length : Int) < (lenN (schD s) : Int)) = false := decide_eq_false (by unfold schD; rw [lenN_lst]; omega)
      have hlen := lplaces_len s s.length
      rw [hc, cond_false, gd_in (by rw [lfs_len, List.length_map]), F38_eq n _ _ (by unfold leavesX at hne; simpa using hne) (by rw [lfs_len, List.length_map]) (by omega), bd_some]
      unfold lfsD leavesX
      rw [List.length_map]
    | succ d ih =>
      intro i lv m hi hm hl
      obtain ⟨m, rfl⟩ : ∃ k, m = k + 1 := ⟨m - 1, by omega⟩
      rw [F19_step hw hps hs n i (by omega) lv hl m]
      refine ih (i + 1) _ m (by omega) (by omega) ⟨by rw [List.length_set]; exact hl.len, fun j hj => ?_⟩
      have := hl.len
      by_cases e : j = i
      · subst e; simp only [List.getD_eq_getElem?_getD, List.getElem?_set_self (show j < lv.length by omega), Option.getD_some]
      · rw [List.getD_eq_getElem?_getD, List.getElem?_set_ne (Ne.symm e), ← List.getD_eq_getElem?_getD]; exact hl.at_ j (by omega)
  unfold F19
  rw [h37, bd_some, gd_in (show isSlD (schD s) = true from rfl), gd_in (mk_ok (by unfold schD; rw [lenN_lst]; omega) (by unfold schD; rw [lenN_lst]; omega) (by unfold schD; rw [lenN_lst]; omega)), gd_in (show isSlD (schD s) = true from rfl)]
  have hz : rowZD [PD.int .i64 0, .int .i64 0, .int .i64 0, .int .i64 0] ((lenN (schD s) : Int)).toNat = (List.replicate s.length (default : Lf)).flatMap lfD := by
    unfold schD rowZD
    rw [lenN_lst, Int.toNat_natCast]
    induction s.length with
    | zero => rfl
    | succ k ih => rw [List.replicate_succ, List.flatten_cons, List.replicate_succ, List.flatMap_cons, ih]; rfl
  rw [hz]
  have := key s.length 0 (List.replicate s.length default) n (by omega) hn ⟨by simp, fun j hj => by omega⟩
  exact this
end
end Go.Proofs.Ytfhpoffgnpgagaa

namespace Go.Proofs.Ytfhpoffgnpgagaa
open Go Go.Proofs Go.Abs
set_option linter.unusedVariables false
set_option linter.unusedSimpArgs false

/-- Fields side by side: the first, what it holds, the rest. -/
inductive For where
  | nil
  | cons (nm : List UInt8) (rep kind : Nat) (kids rest : For)

namespace For
def len : For → Nat
  | nil => 0
  | cons _ _ _ _ rs => rs.len + 1
def size : For → Nat
  | nil => 0
  | cons _ _ _ ks rs => 1 + ks.size + rs.size
def hgt : For → Nat
  | nil => 0
  | cons _ _ _ ks rs => max (ks.hgt + 1) rs.hgt
/-- How many leaves. -/
def lc : For → Nat
  | nil => 0
  | cons _ _ k ks rs => (if k = 0 then ks.lc else 1) + rs.lc
def flat : For → List Fld
  | nil => []
  | cons nm r k ks rs => ⟨nm, r, k, ks.len⟩ :: (ks.flat ++ rs.flat)
def par : Int → Nat → For → List Int
  | _, _, nil => []
  | g, p, cons _ _ _ ks rs => g :: (par p (p + 1) ks ++ par g (p + 1 + ks.size) rs)
def Good : For → Prop
  | nil => True
  | cons _ r k ks rs => r < 3 ∧ k < 5 ∧ (k = 0 → 0 < ks.len) ∧ (k ≠ 0 → ks = nil) ∧ ks.Good ∧ rs.Good

theorem len_le : ∀ F : For, F.len ≤ F.size
  | nil => Nat.le_refl _
  | cons _ _ _ ks rs => by have := len_le rs; simp only [len, size]; omega
theorem lc_le : ∀ F : For, F.lc ≤ F.size
  | nil => Nat.le_refl _
  | cons _ _ k ks rs => by have := lc_le rs; have := lc_le ks; simp only [lc, size]; split <;> omega
theorem flat_len : ∀ F : For, F.flat.length = F.size
  | nil => rfl
  | cons _ _ _ ks rs => by simp only [flat, size, List.length_cons, List.length_append, flat_len ks, flat_len rs]; omega
theorem par_len : ∀ (g : Int) (p : Nat) (F : For), (par g p F).length = F.size
  | _, _, nil => rfl
  | g, p, cons _ _ _ ks rs => by simp only [par, size, List.length_cons, List.length_append, par_len]; omega
theorem lc_pos : ∀ (F : For), F.Good → 0 < F.len → 0 < F.lc
  | nil, _, h => by simp [len] at h
  | cons _ _ k ks rs, hg, _ => by
    obtain ⟨_, _, h0, h1, hk, _⟩ := hg
    simp only [lc]
    split
    · rename_i e; have := lc_pos ks hk (h0 e); omega
    · omega
theorem par_mem : ∀ (g : Int) (p : Nat) (F : For), ∀ x ∈ par g p F, x = g ∨ (p : Int) ≤ x
  | _, _, nil => by simp [par]
  | g, p, cons _ _ _ ks rs => by
    intro x hx
    simp only [par, List.mem_cons, List.mem_append] at hx
    rcases hx with h | h | h
    · exact .inl h
    · rcases par_mem _ _ ks x h with h | h <;> right <;> omega
    · rcases par_mem _ _ rs x h with h | h
      · exact .inl h
      · right; omega
end For

/-- Where a forest lies in a schema. -/
def Loc (S : List Fld) (P : List Int) : Int → Nat → For → Prop
  | _, _, .nil => True
  | g, p, .cons nm r k ks rs => p < S.length ∧ S.getD p default = ⟨nm, r, k, ks.len⟩ ∧ P.getD p 0 = g ∧ g < p ∧ Loc S P p (p + 1) ks ∧ Loc S P g (p + 1 + ks.size) rs ∧ (∀ j, p + 1 + ks.size ≤ j → j < P.length → P.getD j 0 < p ∨ ((p + 1 + ks.size : Nat) : Int) ≤ P.getD j 0)

theorem getD_app {α : Type} {a b : List α} {d : α} : (a ++ b).getD a.length d = b.getD 0 d := by
  rw [List.getD_eq_getElem?_getD, List.getD_eq_getElem?_getD, List.getElem?_append_right (Nat.le_refl _), Nat.sub_self]
theorem getD_mem {l : List Int} {j : Nat} (h : j < l.length) : l.getD j 0 ∈ l := by
  rw [List.getD_eq_getElem?_getD, List.getElem?_eq_getElem h]; exact List.getElem_mem h

theorem Loc_of : ∀ (F : For) (g : Int) (p : Nat) (A B : List Fld) (A' B' : List Int), A.length = p → A'.length = p → g < p → (∀ x ∈ B', x < p ∨ ((p + F.size : Nat) : Int) ≤ x) → Loc (A ++ F.flat ++ B) (A' ++ For.par g p F ++ B') g p F
  | .nil, _, _, _, _, _, _, _, _, _, _ => trivial
  | .cons nm r k ks rs, g, p, A, B, A', B', hA, hA', hg, hB => by
    have e1 : A ++ (For.cons nm r k ks rs).flat ++ B = (A ++ [⟨nm, r, k, ks.len⟩]) ++ ks.flat ++ (rs.flat ++ B) := by simp [For.flat]
    have e2 : A' ++ For.par g p (.cons nm r k ks rs) ++ B' = (A' ++ [g]) ++ For.par p (p + 1) ks ++ (For.par g (p + 1 + ks.size) rs ++ B') := by simp [For.par]
    have e3 : A ++ (For.cons nm r k ks rs).flat ++ B = (A ++ ⟨nm, r, k, ks.len⟩ :: ks.flat) ++ rs.flat ++ B := by simp [For.flat]
    have e4 : A' ++ For.par g p (.cons nm r k ks rs) ++ B' = (A' ++ g :: For.par p (p + 1) ks) ++ For.par g (p + 1 + ks.size) rs ++ B' := by simp [For.par]
    have hB' : ∀ x ∈ B', x < (p : Int) ∨ ((p + 1 + ks.size : Nat) : Int) ≤ x := fun x hx => by
      rcases hB x hx with h | h
      · exact .inl h
      · right; simp only [For.size] at h; omega
    have hR : ∀ x ∈ For.par g (p + 1 + ks.size) rs ++ B', x < (p : Int) ∨ ((p + 1 + ks.size : Nat) : Int) ≤ x := fun x hx => by
      rcases List.mem_append.1 hx with h | h
      · rcases For.par_mem _ _ rs x h with h | h
        · left; omega
        · exact .inr h
      · exact hB' x h
    refine ⟨?_, ?_, ?_, hg, ?_, ?_, ?_⟩
    · simp only [List.length_append, For.flat, List.length_cons]; omega
    · rw [List.append_assoc, ← hA, getD_app]; rfl
    · rw [List.append_assoc, ← hA', getD_app]; rfl
    · rw [e1, e2]
      refine Loc_of ks p (p + 1) _ _ _ _ (by simp [hA]) (by simp [hA']) (by omega) fun x hx => ?_
      rcases hR x hx with h | h
      · left; omega
      · right; omega
    · rw [e3, e4]
      refine Loc_of rs g (p + 1 + ks.size) _ _ _ _ (by simp only [List.length_append, List.length_cons, For.flat_len, hA]; omega) (by simp only [List.length_append, List.length_cons, For.par_len, hA']; omega) (by omega) fun x hx => ?_
      rcases hB x hx with h | h
      · left; omega
      · right; simp only [For.size] at h; omega
    · intro j hj hjl
      rw [e4] at hjl ⊢
      have hl : (A' ++ g :: For.par p (p + 1) ks).length = p + 1 + ks.size := by simp only [List.length_append, List.length_cons, For.par_len, hA']; omega
      have : ((A' ++ g :: For.par p (p + 1) ks) ++ For.par g (p + 1 + ks.size) rs ++ B').getD j 0 = (For.par g (p + 1 + ks.size) rs ++ B').getD (j - (p + 1 + ks.size)) 0 := by
        rw [List.append_assoc, List.getD_eq_getElem?_getD, List.getD_eq_getElem?_getD, List.getElem?_append_right (by omega), hl]
      rw [this]
      refine hR _ (getD_mem ?_)
      simp only [List.length_append, List.length_cons, For.par_len] at hjl ⊢
      omega

theorem Loc_root (F : For) : Loc F.flat (For.par (-1) 0 F) (-1) 0 F := by
  have := Loc_of F (-1) 0 [] [] [] [] rfl rfl (by omega) (by simp)
  simpa using this

section
variable {S : List Fld} {P : List Int}

theorem Loc.par_in : ∀ {F : For} {g : Int} {p : Nat}, Loc S P g p F → ∀ j, p ≤ j → j < p + F.size → P.getD j 0 = g ∨ (p : Int) ≤ P.getD j 0
  | .nil, _, _, _, j, h1, h2 => by simp only [For.size] at h2; omega
  | .cons nm r k ks rs, g, p, h, j, h1, h2 => by
    obtain ⟨_, _, hg, _, hk, hr, _⟩ := h
    simp only [For.size] at h2
    by_cases e : j = p
    · subst e; exact .inl hg
    · by_cases e2 : j < p + 1 + ks.size
      · rcases hk.par_in j (by omega) (by omega) with h | h <;> right <;> omega
      · rcases hr.par_in j (by omega) (by omega) with h | h
        · exact .inl h
        · right; omega
theorem Loc.fits : ∀ {F : For} {g : Int} {p : Nat}, Loc S P g p F → p ≤ S.length → p + F.size ≤ S.length
  | .nil, _, _, _, h => h
  | .cons nm r k ks rs, g, p, h, _ => by
    obtain ⟨h0, _, _, _, hk, hr, _⟩ := h
    have := hr.fits (hk.fits (by omega))
    simp only [For.size]; omega
/-- Whatever lies outside a group's part is no kid of it, nor of what it holds. -/
theorem Loc.kid_ne {nm : List UInt8} {r k : Nat} {ks rs : For} {g : Int} {p : Nat} (h : Loc S P g p (.cons nm r k ks rs)) {j : Nat} (h1 : p + 1 ≤ j) (h2 : j < p + 1 + ks.size) : P.getD j 0 ≠ g := by
  obtain ⟨_, _, _, hg, hk, _, _⟩ := h
  rcases hk.par_in j h1 h2 with h | h <;> omega
theorem Loc.end_ne {nm : List UInt8} {r k : Nat} {ks rs : For} {g : Int} {p : Nat} (h : Loc S P g p (.cons nm r k ks rs)) {j : Nat} (h1 : p + 1 + ks.size ≤ j) (h2 : j < P.length) : P.getD j 0 ≠ (p : Int) := by
  obtain ⟨_, _, _, hg, hk, _, he⟩ := h
  rcases he j h1 h2 with h | h <;> omega
end

/-- The way of a field out of the parents. -/
def wayN (P : List Int) : Nat → Nat → List Nat
  | 0, _ => []
  | n + 1, j => (if P.getD j 0 < 0 then [] else wayN P n (P.getD j 0).toNat) ++ [j]
def wayOf (P : List Int) : List (List Nat) := (List.range P.length).map fun j => wayN P (j + 1) j

theorem wayN_same (P : List Int) (hp : ∀ j, j < P.length → -1 ≤ P.getD j 0 ∧ P.getD j 0 < j) : ∀ j, j < P.length → ∀ n m, j < n → j < m → wayN P n j = wayN P m j := by
  intro j
  induction j using Nat.strongRecOn with
  | _ j ih =>
    intro hj n m hn hm
    obtain ⟨n, rfl⟩ : ∃ k, n = k + 1 := ⟨n - 1, by omega⟩
    obtain ⟨m, rfl⟩ : ∃ k, m = k + 1 := ⟨m - 1, by omega⟩
    rw [wayN, wayN]
    split
    · rfl
    · obtain ⟨h1, h2⟩ := hp j hj
      rw [ih (P.getD j 0).toNat (by omega) (by omega) n m (by omega) (by omega)]

theorem wayOf_at {P : List Int} {j : Nat} (h : j < P.length) : (wayOf P).getD j [] = wayN P (j + 1) j := by
  unfold wayOf
  rw [List.getD_eq_getElem?_getD, List.getElem?_map, List.getElem?_range h]; rfl
theorem ways_of {P : List Int} (hp : ∀ j, j < P.length → -1 ≤ P.getD j 0 ∧ P.getD j 0 < j) : Ways P (wayOf P) := by
  refine ⟨by simp [wayOf], hp, fun j hj => ?_⟩
  obtain ⟨h1, h2⟩ := hp j hj
  rw [wayOf_at hj, wayN]
  split
  · rfl
  · rw [wayOf_at (show (P.getD j 0).toNat < P.length by omega), wayN_same P hp _ (by omega) j ((P.getD j 0).toNat + 1) (by omega) (by omega)]

theorem Loc.lo {S : List Fld} {P : List Int} : ∀ {F : For} {g : Int} {p : Nat}, Loc S P g p F → ∀ j, p ≤ j → j < p + F.size → P.getD j 0 < j
  | .nil, _, _, _, j, h1, h2 => by simp only [For.size] at h2; omega
  | .cons nm r k ks rs, g, p, h, j, h1, h2 => by
    obtain ⟨_, _, hg, hgp, hk, hr, _⟩ := h
    simp only [For.size] at h2
    by_cases e : j = p
    · subst e; omega
    · by_cases e2 : j < p + 1 + ks.size
      · exact hk.lo j (by omega) (by omega)
      · exact hr.lo j (by omega) (by omega)

/-- What is common to two ways. -/
def cpre : List Nat → List Nat → List Nat
  | a :: u, b :: v => if a = b then a :: cpre u v else []
  | _, _ => []
theorem cpre_l : ∀ a b, cpre a b <+: a
  | [], _ => by simp [cpre]
  | _ :: _, [] => by simp [cpre]
  | x :: a, y :: b => by
    rw [cpre]
    split
    · exact List.prefix_cons_inj x |>.2 (cpre_l a b)
    · exact List.nil_prefix
theorem cpre_r : ∀ a b, cpre a b <+: b
  | [], _ => by simp [cpre]
  | _ :: _, [] => by simp [cpre]
  | x :: a, y :: b => by
    rw [cpre]
    split
    · rename_i e; subst e; exact List.prefix_cons_inj x |>.2 (cpre_r a b)
    · exact List.nil_prefix
theorem pre_cpre : ∀ {w a b : List Nat}, w <+: a → w <+: b → w <+: cpre a b
  | [], _, _, _, _ => List.nil_prefix
  | x :: w, [], _, h, _ => by simp at h
  | x :: w, _ :: _, [], _, h => by simp at h
  | x :: w, y :: a, z :: b, h1, h2 => by
    obtain ⟨e1, h3⟩ := List.cons_prefix_cons.1 h1
    obtain ⟨e2, h4⟩ := List.cons_prefix_cons.1 h2
    subst e1 e2
    rw [cpre, if_pos rfl]
    exact List.cons_prefix_cons.2 ⟨rfl, pre_cpre h3 h4⟩
theorem cntR_pre {S : List Fld} {a b : List Nat} (h : a <+: b) : cntR S a ≤ cntR S b := by
  obtain ⟨t, rfl⟩ := h; rw [cntR_app]; omega

section
variable {S : List Fld} {P : List Int} {Wy : List (List Nat)}

theorem Ways.mem_le (h : Ways P Wy) : ∀ j, j < P.length → ∀ x ∈ Wy.getD j [], x ≤ j := by
  intro j
  induction j using Nat.strongRecOn with
  | _ j ih =>
    intro hj x hx
    obtain ⟨h1, h2⟩ := h.lo j hj
    rw [h.way j hj, List.mem_append] at hx
    rcases hx with hx | hx
    · split at hx
      · simp at hx
      · have := ih (P.getD j 0).toNat (by omega) (by omega) x hx; omega
    · simp at hx; omega

/-- The way of a group's kids begins with the group's way. -/
def wayG (Wy : List (List Nat)) (g : Int) : List Nat := if g < 0 then [] else Wy.getD g.toNat []
theorem wayG_nat {g : Nat} : wayG Wy (g : Int) = Wy.getD g [] := by unfold wayG; rw [if_neg (by omega), Int.toNat_natCast]

theorem Loc.way (hw : Ways P Wy) (hSP : S.length = P.length) {nm : List UInt8} {r k : Nat} {ks rs : For} {g : Int} {p : Nat} (h : Loc S P g p (.cons nm r k ks rs)) : Wy.getD p [] = wayG Wy g ++ [p] := by
  obtain ⟨h0, _, hg, hgp, _, _, _⟩ := h
  rw [hw.way p (by omega), hg]; rfl
theorem Loc.way_in (hw : Ways P Wy) (hSP : S.length = P.length) : ∀ {F : For} {g : Int} {p : Nat}, Loc S P g p F → ∀ j, p ≤ j → j < p + F.size → wayG Wy g <+: Wy.getD j []
  | .nil, _, _, _, j, h1, h2 => by simp only [For.size] at h2; omega
  | .cons nm r k ks rs, g, p, h, j, h1, h2 => by
    have hwp := h.way hw hSP
    obtain ⟨_, _, hg, hgp, hk, hr, _⟩ := h
    simp only [For.size] at h2
    by_cases e : j = p
    · subst e; rw [hwp]; exact List.prefix_append _ _
    · by_cases e2 : j < p + 1 + ks.size
      · have := hk.way_in hw hSP j (by omega) (by omega)
        rw [wayG_nat, hwp] at this
        exact (List.prefix_append _ _).trans this
      · exact hr.way_in hw hSP j (by omega) (by omega)
/-- A way goes through a field only within that field's part. -/
theorem Loc.way_out (hw : Ways P Wy) {nm : List UInt8} {r k : Nat} {ks rs : For} {g : Int} {p : Nat} (h : Loc S P g p (.cons nm r k ks rs)) : ∀ j, j < P.length → p ∈ Wy.getD j [] → p ≤ j ∧ j < p + 1 + ks.size := by
  intro j
  induction j using Nat.strongRecOn with
  | _ j ih =>
    intro hj hm
    have hle := hw.mem_le j hj p hm
    refine ⟨hle, ?_⟩
    rcases Nat.lt_or_ge j (p + 1 + ks.size) with h1 | h1
    · exact h1
    · exfalso
      obtain ⟨_, _, _, _, _, _, he⟩ := h
      obtain ⟨h2, h3⟩ := hw.lo j hj
      rw [hw.way j hj, List.mem_append] at hm
      rcases hm with hm | hm
      · split at hm
        · simp at hm
        · have := ih (P.getD j 0).toNat (by omega) (by omega) hm
          rcases he j h1 hj with h | h <;> omega
      · simp at hm; omega

/-- The leaf of that number: its place. And the number of leaves before a place. -/
def lp (S : List Fld) (i : Nat) : Nat := (lplaces S S.length).getD i 0
def lx (S : List Fld) (p : Nat) : Nat := (lplaces S p).length
def nL (S : List Fld) : Nat := lx S S.length

theorem lx_succ (S : List Fld) (p : Nat) : lx S (p + 1) = lx S p + if (fat S p).kind = 0 then 0 else 1 := by
  unfold lx
  rw [lplaces_succ, List.length_append]
  by_cases h : (fat S p).kind = 0 <;> simp [h]
theorem lx_mono (S : List Fld) {p q : Nat} (h : p ≤ q) : lx S p ≤ lx S q := by
  induction q with
  | zero => have : p = 0 := by omega
            subst this; exact Nat.le_refl _
  | succ q ih =>
    by_cases e : p = q + 1
    · subst e; exact Nat.le_refl _
    · have := ih (by omega); rw [lx_succ]; omega
theorem lplaces_pre (S : List Fld) {p q : Nat} (h : p ≤ q) : lplaces S p <+: lplaces S q := by
  induction q with
  | zero => have : p = 0 := by omega
            subst this; exact List.prefix_refl _
  | succ q ih =>
    by_cases e : p = q + 1
    · subst e; exact List.prefix_refl _
    · have := ih (by omega); rw [lplaces_succ]; exact this.trans (List.prefix_append _ _)
theorem lp_lx {p : Nat} (h : p < S.length) (hk : (fat S p).kind ≠ 0) : lp S (lx S p) = p ∧ lx S p < nL S := by
  have h1 := lplaces_pre S (show p + 1 ≤ S.length by omega)
  rw [lplaces_succ, if_pos hk] at h1
  obtain ⟨t, ht⟩ := h1
  unfold lp lx nL lx
  rw [← ht]
  constructor
  · rw [List.append_assoc, getD_app]; rfl
  · simp only [List.length_append, List.length_singleton]; omega
theorem lp_lt {i : Nat} (h : i < nL S) : lp S i < S.length ∧ (fat S (lp S i)).kind ≠ 0 ∧ lx S (lp S i) = i := by
  have key : ∀ n i, i < lx S n → (lplaces S n).getD i 0 < n ∧ (fat S ((lplaces S n).getD i 0)).kind ≠ 0 ∧ lx S ((lplaces S n).getD i 0) = i := by
    intro n
    induction n with
    | zero => intro i h; simp [lx, lplaces] at h
    | succ n ih =>
      intro i h
      rw [lplaces_succ]
      by_cases e : i < lx S n
      · obtain ⟨a, b, c⟩ := ih i e
        have : (lplaces S n ++ if (fat S n).kind ≠ 0 then [n] else []).getD i 0 = (lplaces S n).getD i 0 := by
          rw [List.getD_eq_getElem?_getD, List.getD_eq_getElem?_getD, List.getElem?_append_left e]
        rw [this]
        exact ⟨by omega, b, c⟩
      · rw [lx_succ] at h
        by_cases hk : (fat S n).kind = 0
        · rw [if_pos hk] at h; omega
        · rw [if_neg hk] at h
          have : i = (lplaces S n).length := by unfold lx at *; omega
          subst this
          rw [if_pos hk, getD_app]
          exact ⟨by simp, hk, rfl⟩
  exact key S.length i h
theorem Loc.lx_end : ∀ {F : For} {g : Int} {p : Nat}, F.Good → Loc S P g p F → lx S (p + F.size) = lx S p + F.lc
  | .nil, _, _, _, _ => rfl
  | .cons nm r k ks rs, g, p, hG, h => by
    obtain ⟨_, hS, _, _, hk, hr, _⟩ := h
    obtain ⟨_, _, _, hk1, hG1, hG2⟩ := hG
    have e1 := hk.lx_end hG1
    have e2 := hr.lx_end hG2
    have e3 := lx_succ S p
    have : (fat S p).kind = k := by unfold fat; rw [hS]
    rw [this] at e3
    simp only [For.size, For.lc]
    rw [show p + (1 + ks.size + rs.size) = p + 1 + ks.size + rs.size by omega, e2, e1, e3]
    by_cases e : k = 0
    · rw [if_pos e, if_pos e]; omega
    · rw [if_neg e, if_neg e, hk1 e]; simp only [For.lc]; omega
end
end Go.Proofs.Ytfhpoffgnpgagaa

namespace Go.Proofs.Ytfhpoffgnpgagaa
open Go Go.Proofs Go.Abs
set_option linter.unusedVariables false
set_option linter.unusedSimpArgs false

/-- What is known of a schema. -/
structure Sc (S : List Fld) (P : List Int) (Wy : List (List Nat)) : Prop where
  hw : Ways P Wy
  hps : P.length = S.length
  hs : S.length < 100
  hl : 0 < nL S
  f37 : ∀ n, 1000 ≤ n → F37 n (schD S) = some (.lst P.length (isD P))
  f32 : ∀ n, 1000 ≤ n → F32 n (schD S) = some (.lst P.length (isD P))

theorem natI_at {l : List Nat} {i : Nat} (h : i < l.length) : (isD (natI l)).getD i .nil = .int .i64 (l.getD i 0 : Nat) := by
  rw [isD_at (by rw [natI_len]; exact h)]
  unfold natI
  rw [List.getD_eq_getElem?_getD, List.getElem?_map, List.getElem?_eq_getElem h, List.getD_eq_getElem?_getD, List.getElem?_eq_getElem h]; rfl
theorem natI_lenD {l : List Nat} : (isD (natI l)).length = l.length := by rw [isD_length, natI_len]

theorem F21_L3_eq (S : List Fld) (hS : S.length < 100000) (a b : List Nat) (ha : ∀ x ∈ a, x < S.length) (n : Nat) (ha2 : a.length < 100000) (hb2 : b.length < 100000) : ∀ (d k acc m : Nat), a.length = k + d → d < m → acc ≤ k →
    F21_L3 (.lst b.length (isD (natI b))) (.lst a.length (isD (natI a))) (schD S) n m (acc : Int) (k : Int) = some ((acc + cntR S (cpre (a.drop k) (b.drop k)) : Nat) : Int) := by
  intro d
  induction d with
  | zero =>
    intro k acc m hk hm hacc
    obtain ⟨m, rfl⟩ : ∃ k, m = k + 1 := ⟨m - 1, by omega⟩
    rw [F21_L3]
    have hc : decide ((k : Int) < (if (lenN (PD.lst b.length (isD (natI b))) : Int) < (lenN (PD.lst a.length (isD (natI a))) : Int) then (lenN (PD.lst b.length (isD (natI b))) : Int) else (lenN (PD.lst a.length (isD (natI a))) : Int))) = false := decide_eq_false (by simp only [lenN_lst]; by_cases hbl : (b.length : Int) < (a.length : Int) <;> simp only [hbl, if_true, if_false] <;> omega)
    rw [hc, cond_false, List.drop_eq_nil_of_le (show a.length ≤ k by omega)]
    simp [F21_K2, cpre, cntR]
  | succ d ih =>
    intro k acc m hk hm hacc
    obtain ⟨m, rfl⟩ : ∃ k, m = k + 1 := ⟨m - 1, by omega⟩
    rw [F21_L3]
    by_cases hkb : k < b.length
    · have hka : k < a.length := by omega
      have hc : decide ((k : Int) < (if (lenN (PD.lst b.length (isD (natI b))) : Int) < (lenN (PD.lst a.length (isD (natI a))) : Int) then (lenN (PD.lst b.length (isD (natI b))) : Int) else (lenN (PD.lst a.length (isD (natI a))) : Int))) = true := decide_eq_true (by simp only [lenN_lst]; by_cases hbl : (b.length : Int) < (a.length : Int) <;> simp only [hbl, if_true, if_false] <;> omega)
      have hx : a.getD k 0 < S.length := ha _ (by rw [List.getD_eq_getElem?_getD, List.getElem?_eq_getElem hka]; exact List.getElem_mem hka)
      rw [hc, cond_true]
      simp only [lenN_lst, cellsD_lst, isSlD_lst, isLst_lst, Int.toNat_natCast, getD_drop, intD_int, strD_str, isI_int, isS_str, List.length_drop, natI_lenD, and_true, true_and, and_self, Nat.mul_one, Nat.add_zero, natI_at hka, natI_at hkb]
      rw [gd_in (idx_lst (by omega) (by omega) (by rw [natI_lenD]; simp only [Int.toNat_natCast]; omega)), gd_in (by omega), gd_in (idx_lst (by omega) (by omega) (by rw [natI_lenD]; simp only [Int.toNat_natCast]; omega)), gd_in (by omega)]
      rw [List.drop_eq_getElem_cons hka, List.drop_eq_getElem_cons hkb]
      have ea : a[k] = a.getD k 0 := by rw [List.getD_eq_getElem?_getD, List.getElem?_eq_getElem hka]; rfl
      have eb : b[k] = b.getD k 0 := by rw [List.getD_eq_getElem?_getD, List.getElem?_eq_getElem hkb]; rfl
      rw [ea, eb, cpre]
      by_cases he : a.getD k 0 = b.getD k 0
      · have : (((a.getD k 0 : Nat) : Int) != ((b.getD k 0 : Nat) : Int)) = false := by rw [he]; simp
        rw [this, cond_false, if_pos he]
        unfold schD
        rw [gd_in (idx_lst (by omega) (by omega) (by rw [natI_lenD]; simp only [Int.toNat_natCast]; omega)), gd_in (by omega), gd_in (idx_lst (by omega) (by omega) (by rw [flds_len]; simp only [Int.toNat_natCast]; omega))]
        simp only [lenN_lst, cellsD_lst, isSlD_lst, isLst_lst, Int.toNat_natCast, getD_drop, intD_int, strD_str, isI_int, isS_str, List.length_drop, flds_len, and_true, true_and, and_self, Nat.mul_one, Nat.add_zero, fl0' hx, fl1 hx, fl2 hx, fl3 hx]
        rw [gd_in (by omega), gd_in (by omega), F40_eq, bd_some]
        have ih' := ih (k + 1)
        unfold schD at ih'
        have hcons : cntR S (a.getD k 0 :: cpre (a.drop (k + 1)) (b.drop (k + 1))) = (if (fat S (a.getD k 0)).rep = 2 then 1 else 0) + cntR S (cpre (a.drop (k + 1)) (b.drop (k + 1))) := by
          rw [← cntR_one]; exact cntR_app S [_] _
        rw [hcons]
        by_cases h2 : (fat S (a.getD k 0)).rep = 2
        · have e2 : (((S.getD (a.getD k 0) default).rep : Nat) : Int) = 2 := by
            have h2 : (S.getD (a.getD k 0) default).rep = 2 := h2
            rw [h2]; rfl
          rw [if_pos e2, if_pos h2]
          have : ((42 : Int) == (42 : Int)) = true := rfl
          rw [this, cond_true]
          unfold F21_K4
          rw [wrap_i64 (by omega) (by omega), wrap_i64 (by omega) (by omega)]
          have := ih' (acc + 1) m (by omega) (by omega) (by omega)
          rw [show ((acc : Int) + 1) = ((acc + 1 : Nat) : Int) by omega, show ((k : Int) + 1) = ((k + 1 : Nat) : Int) by omega, this]
          congr 2; omega
        · have e2 : ¬ (((S.getD (a.getD k 0) default).rep : Nat) : Int) = 2 := by
            have h2 : ¬ (S.getD (a.getD k 0) default).rep = 2 := h2
            omega
          rw [if_neg e2, if_neg h2]
          have : ((49 : Int) == (42 : Int)) = false := rfl
          rw [this, cond_false]
          unfold F21_K4
          rw [wrap_i64 (by omega) (by omega)]
          have := ih' acc m (by omega) (by omega) (by omega)
          rw [show ((k : Int) + 1) = ((k + 1 : Nat) : Int) by omega, this]
          congr 2; omega
      · have : (((a.getD k 0 : Nat) : Int) != ((b.getD k 0 : Nat) : Int)) = true := by
          simp only [bne_iff_ne, ne_eq]; omega
        rw [this, cond_true, if_neg he]
        simp [F21_K2, cntR]
    · have hc : decide ((k : Int) < (if (lenN (PD.lst b.length (isD (natI b))) : Int) < (lenN (PD.lst a.length (isD (natI a))) : Int) then (lenN (PD.lst b.length (isD (natI b))) : Int) else (lenN (PD.lst a.length (isD (natI a))) : Int))) = false := decide_eq_false (by simp only [lenN_lst]; by_cases hbl : (b.length : Int) < (a.length : Int) <;> simp only [hbl, if_true, if_false] <;> omega)
      rw [hc, cond_false, List.drop_eq_nil_of_le (show b.length ≤ k by omega)]
      have : ∀ l, cpre l [] = [] := by intro l; cases l <;> rfl
      rw [this]; simp [F21_K2, cntR]

/-- How many repeated fields two leaves share. -/
def Com (S : List Fld) (Wy : List (List Nat)) (i j : Nat) : Nat := if i < nL S ∧ j < nL S then cntR S (cpre (Wy.getD (lp S i) []) (Wy.getD (lp S j) [])) else 0

section
variable {S : List Fld} {P : List Int} {Wy : List (List Nat)}

theorem leavesX_len : (leavesX S Wy).length = nL S := by unfold leavesX; rw [List.length_map]; rfl
theorem leavesX_at {i : Nat} (h : i < nL S) : (leavesX S Wy).getD i default = leafOf S Wy (lp S i) := by
  have h' : i < (lplaces S S.length).length := h
  unfold leavesX lp
  rw [List.getD_eq_getElem?_getD, List.getElem?_map, List.getElem?_eq_getElem h', List.getD_eq_getElem?_getD, List.getElem?_eq_getElem h']; rfl
theorem nL_le : nL S ≤ S.length := lplaces_len S S.length
theorem Sc.f19 (h : Sc S P Wy) {n : Nat} (hn : 1000 ≤ n) : F19 n (schD S) = some (lfsD (leavesX S Wy)) := by
  have := h.hs
  exact F19_eq h.hw h.hps (by omega) n (by omega) (h.f37 n hn) (by rw [leavesX_len]; exact h.hl)

theorem F21_eq (h : Sc S P Wy) {n : Nat} (hn : 1000 ≤ n) (i j : Nat) (hi : i < 1000) (hj : j < 1000) : F21 n (schD S) i j = some (Com S Wy i j : Int) := by
  have hs := h.hs
  have hps := h.hps
  have hL := nL_le (S := S)
  unfold F21
  rw [h.f19 hn, bd_some]
  have hc : decide ((i : Int) < 0) = false := decide_eq_false (by omega)
  rw [hc, cond_false]
  unfold lfsD
  simp only [lenN_lst, isSlD_lst, leavesX_len]
  rw [gd_in trivial]
  have k1 : ∀ X, F21_K1 n (schD S) X i j true = some 0 := fun _ => rfl
  unfold Com
  by_cases hi2 : i < nL S
  · have hc : decide ((nL S : Int) ≤ (i : Int)) = false := decide_eq_false (by omega)
    rw [hc, cond_false]
    have hc : decide ((j : Int) < 0) = false := decide_eq_false (by omega)
    rw [hc, cond_false, gd_in trivial]
    by_cases hj2 : j < nL S
    · have hc : decide ((nL S : Int) ≤ (j : Int)) = false := decide_eq_false (by omega)
      rw [hc, if_pos ⟨hi2, hj2⟩]
      unfold F21_K1
      rw [cond_false, h.f37 n hn, bd_some]
      have hli : i < (leavesX S Wy).length := by rw [leavesX_len]; exact hi2
      have hlj : j < (leavesX S Wy).length := by rw [leavesX_len]; exact hj2
      obtain ⟨p1, p2, p3⟩ := lp_lt hi2
      obtain ⟨q1, q2, q3⟩ := lp_lt hj2
      rw [gd_in (idx_lst (by omega) (by omega) (by rw [lfs_len, leavesX_len]; simp only [Int.toNat_natCast]; omega)), gd_in (Nat.zero_le _)]
      simp only [lenN_lst, cellsD_lst, isSlD_lst, isLst_lst, Int.toNat_natCast, getD_drop, intD_int, strD_str, isI_int, isS_str, List.length_drop, lfs_len, leavesX_len, and_true, true_and, and_self, Nat.mul_one, Nat.add_zero, lv0' hli, lv0' hlj, leavesX_at hi2, leavesX_at hj2]
      have w1 := h.hw.len_le (lp S i) (by omega)
      have w2 := h.hw.len_le (lp S j) (by omega)
      have e1 : ((leafOf S Wy (lp S i)).field : Int) = (lp S i : Int) := rfl
      have e2 : ((leafOf S Wy (lp S j)).field : Int) = (lp S j : Int) := rfl
      rw [gd_in (by omega), e1, e2, F39_way h.hw (by omega) n (by omega) _ (by omega), bd_some, gd_in (idx_lst (by omega) (by omega) (by rw [lfs_len, leavesX_len]; simp only [Int.toNat_natCast]; omega)), gd_in (Nat.zero_le _), gd_in (by omega), F39_way h.hw (by omega) n (by omega) _ (by omega), bd_some, gd_in isSlD_lst, gd_in isSlD_lst]
      have := F21_L3_eq S (by omega) (Wy.getD (lp S i) []) (Wy.getD (lp S j) []) (fun x hx => by have := h.hw.mem_le _ (by omega) x hx; omega) n (by omega) (by omega) (Wy.getD (lp S i) []).length 0 0 n (by omega) (by omega) (by omega)
      simp only [List.drop_zero, Nat.zero_add] at this
      exact this
    · have hc : decide ((nL S : Int) ≤ (j : Int)) = true := decide_eq_true (by omega)
      rw [hc, if_neg (by omega), k1]; rfl
  · have hc : decide ((nL S : Int) ≤ (i : Int)) = true := decide_eq_true (by omega)
    rw [hc, cond_true, if_neg (by omega), k1]; rfl

theorem leaf_ne {i j : Nat} (hi : i < nL S) (hj : j < nL S) (h : i ≠ j) : leafOf S Wy (lp S i) ≠ leafOf S Wy (lp S j) := by
  intro he
  have : lp S i = lp S j := congrArg Lf.field he
  have h1 := (lp_lt hi).2.2
  have h2 := (lp_lt hj).2.2
  rw [this] at h1; omega

theorem F23_eq (h : Sc S P Wy) {n : Nat} (hn : 1000 ≤ n) (i k r : Nat) (hi : i < 1000) (hk : k < nL S) : F23 n (leafOf S Wy (lp S k)).field (leafOf S Wy (lp S k)).r (leafOf S Wy (lp S k)).d (leafOf S Wy (lp S k)).kind (schD S) i (lfsD (leavesX S Wy)) r = some (decide (r ≤ Com S Wy i k)) := by
  have hs := h.hs
  have hL := nL_le (S := S)
  unfold F23
  have := F24_eq (leavesX S Wy) k (by rw [leavesX_len]; exact hk) (by rw [leavesX_len]; omega) (fun q hq => by rw [leavesX_at (by omega), leavesX_at hk]; exact leaf_ne (by omega) hk (by omega)) n (by omega)
  rw [leavesX_at hk] at this
  rw [this, bd_some, F21_eq h hn i k hi (by omega), bd_some]
  congr 1
  rw [decide_eq_decide]; omega

/-- The first leaf that shares so much. -/
theorem F22_eq (h : Sc S P Wy) {n : Nat} (hn : 1000 ≤ n) (i r k : Nat) (hi : i < 1000) (hk : k < nL S) (hr : r ≤ Com S Wy i k) (hlt : ∀ q, q < k → ¬ r ≤ Com S Wy i q) :
    F22 n (lfsD (leavesX S Wy)) (schD S) i (lfsD (leavesX S Wy)) r = some (k : Int) := by
  have hs := h.hs
  have hL := nL_le (S := S)
  have key : ∀ d q m, q + d = k → d < m → F22_L1 (lfsD (leavesX S Wy)) n (schD S) i (lfsD (leavesX S Wy)) r m (q : Int) = some (k : Int) := by
    intro d
    induction d with
    | zero =>
      intro q m hq hm
      obtain ⟨m, rfl⟩ : ∃ k, m = k + 1 := ⟨m - 1, by omega⟩
      have : q = k := by omega
      subst this
      rw [F22_L1]
      have hc : decide ((q : Int) < (lenN (lfsD (leavesX S Wy)) : Int)) = true := decide_eq_true (by unfold lfsD; rw [lenN_lst, leavesX_len]; omega)
      have hli : q < (leavesX S Wy).length := by rw [leavesX_len]; exact hk
      rw [hc, cond_true, gd_in (show idxOK 4 (lfsD (leavesX S Wy)) (q : Int) from idx_lst (by omega) (by omega) (by rw [lfs_len, leavesX_len]; simp only [Int.toNat_natCast]; omega))]
      have ec : cellsD (lfsD (leavesX S Wy)) = (leavesX S Wy).flatMap lfD := rfl
      simp only [ec, lenN_lst, cellsD_lst, isSlD_lst, isLst_lst, Int.toNat_natCast, getD_drop, intD_int, strD_str, isI_int, isS_str, List.length_drop, lfs_len, leavesX_len, and_true, true_and, and_self, Nat.mul_one, Nat.add_zero, lv0' hli, lv1 hli, lv2 hli, lv3 hli, leavesX_at hk]
      rw [gd_in (by omega), gd_in (by omega), F23_eq h hn i q r hi hk, bd_some]
      have : decide (r ≤ Com S Wy i q) = true := decide_eq_true hr
      rw [this]; rfl
    | succ d ih =>
      intro q m hq hm
      obtain ⟨m, rfl⟩ : ∃ k, m = k + 1 := ⟨m - 1, by omega⟩
      have hqL : q < nL S := by omega
      rw [F22_L1]
      have hc : decide ((q : Int) < (lenN (lfsD (leavesX S Wy)) : Int)) = true := decide_eq_true (by unfold lfsD; rw [lenN_lst, leavesX_len]; omega)
      have hli : q < (leavesX S Wy).length := by rw [leavesX_len]; omega
      rw [hc, cond_true, gd_in (show idxOK 4 (lfsD (leavesX S Wy)) (q : Int) from idx_lst (by omega) (by omega) (by rw [lfs_len, leavesX_len]; simp only [Int.toNat_natCast]; omega))]
      have ec : cellsD (lfsD (leavesX S Wy)) = (leavesX S Wy).flatMap lfD := rfl
      simp only [ec, lenN_lst, cellsD_lst, isSlD_lst, isLst_lst, Int.toNat_natCast, getD_drop, intD_int, strD_str, isI_int, isS_str, List.length_drop, lfs_len, leavesX_len, and_true, true_and, and_self, Nat.mul_one, Nat.add_zero, lv0' hli, lv1 hli, lv2 hli, lv3 hli, leavesX_at hqL]
      rw [gd_in (by omega), gd_in (by omega), F23_eq h hn i q r hi hqL, bd_some]
      have : decide (r ≤ Com S Wy i q) = false := decide_eq_false (hlt q (by omega))
      rw [this, wrap_i64 (by omega) (by omega)]
      exact ih (q + 1) m (by omega) (by omega)
  unfold F22
  rw [gd_in (show isSlD (lfsD (leavesX S Wy)) = true from rfl)]
  exact key k 0 n (by omega) (by omega)

/-- The leaf whose cell comes next. -/
def nx (S : List Fld) (Wy : List (List Nat)) (i r : Nat) : Nat :=
  if r ≤ Com S Wy i (i + 1) then i + 1 else ((List.range (nL S)).find? fun k => decide (r ≤ Com S Wy i k)).getD 0

theorem nx_first {i r k : Nat} (h0 : ¬ r ≤ Com S Wy i (i + 1)) (hk : k < nL S) (hr : r ≤ Com S Wy i k) (hlt : ∀ q, q < k → ¬ r ≤ Com S Wy i q) : nx S Wy i r = k := by
  unfold nx
  rw [if_neg h0]
  have : (List.range (nL S)).find? (fun k => decide (r ≤ Com S Wy i k)) = some k := by
    rw [List.find?_range_eq_some]
    exact ⟨by simpa using hr, by simpa using hk, fun q hq => by simpa using hlt q hq⟩
  rw [this]; rfl

theorem cpre_self : ∀ a, cpre a a = a
  | [] => rfl
  | x :: a => by rw [cpre, if_pos rfl, cpre_self a]
theorem Com_self {i : Nat} (hi : i < nL S) : Com S Wy i i = (leafOf S Wy (lp S i)).r := by
  unfold Com
  rw [if_pos ⟨hi, hi⟩, cpre_self]; rfl

theorem F20_eq (h : Sc S P Wy) {n : Nat} (hn : 1000 ≤ n) (i r : Nat) (hi : i < nL S) (hr : r ≤ (leafOf S Wy (lp S i)).r) : F20 n i r (schD S) (lfsD (leavesX S Wy)) = some (nx S Wy i r : Int) := by
  have hs := h.hs
  have hL := nL_le (S := S)
  unfold F20
  rw [wrap_i64 (by omega) (by omega), show ((i : Int) + 1) = ((i + 1 : Nat) : Int) by omega, F21_eq h hn i (i + 1) (by omega) (by omega), bd_some]
  by_cases hc : r ≤ Com S Wy i (i + 1)
  · have : decide ((r : Int) ≤ (Com S Wy i (i + 1) : Int)) = true := decide_eq_true (by omega)
    rw [this, cond_true]
    unfold nx
    rw [if_pos hc]
  · have : decide ((r : Int) ≤ (Com S Wy i (i + 1) : Int)) = false := decide_eq_false (by omega)
    rw [this, cond_false]
    have ex : ∃ k, k < nL S ∧ r ≤ Com S Wy i k ∧ ∀ q, q < k → ¬ r ≤ Com S Wy i q := by
      have e0 : ∃ k, k < nL S ∧ r ≤ Com S Wy i k := ⟨i, hi, by rw [Com_self hi]; exact hr⟩
      have key : ∀ k, k < nL S → r ≤ Com S Wy i k → ∃ k, k < nL S ∧ r ≤ Com S Wy i k ∧ ∀ q, q < k → ¬ r ≤ Com S Wy i q := by
        intro k
        induction k using Nat.strongRecOn with
        | _ k ih =>
          intro h1 h2
          by_cases e : ∃ q, q < k ∧ r ≤ Com S Wy i q
          · obtain ⟨q, hq, hq2⟩ := e
            exact ih q hq (by omega) hq2
          · exact ⟨k, h1, h2, fun q hq hq2 => e ⟨q, hq, hq2⟩⟩
      obtain ⟨k, h1, h2⟩ := e0
      exact key k h1 h2
    obtain ⟨k, h1, h2, h3⟩ := ex
    rw [F22_eq h hn i r k (by omega) h1 h2 h3, bd_some, nx_first hc h1 h2 h3]

/-- The row of a leaf's steps. -/
def nxRow (S : List Fld) (Wy : List (List Nat)) (i : Nat) : PD := .lst ((leafOf S Wy (lp S i)).r + 1) (isD (natI ((List.range ((leafOf S Wy (lp S i)).r + 1)).map (nx S Wy i))))

theorem F9_eq (h : Sc S P Wy) {n : Nat} (hn : 1000 ≤ n) : F9 n (schD S) = some (.lst (nL S) ((List.range (nL S)).map (nxRow S Wy))) := by
  have hs := h.hs
  have hps := h.hps
  have hL := nL_le (S := S)
  have ec : cellsD (lfsD (leavesX S Wy)) = (leavesX S Wy).flatMap lfD := rfl
  have el : lenN (lfsD (leavesX S Wy)) = nL S := leavesX_len
  have inner : ∀ (i : Nat) (hi : i < nL S) (X : List PD) (hX : X.length = nL S) (f : Int → List PD → Option PD) (d r m : Nat), r + d = (leafOf S Wy (lp S i)).r + 1 → d < m →
      F9_L2 (lfsD (leavesX S Wy)) i X n (schD S) f m r r (isD (natI ((List.range r).map (nx S Wy i)))) = f ((i + 1 : Nat) : Int) (setD X i [nxRow S Wy i]) := by
    intro i hi X hX f d
    have hli : i < (leavesX S Wy).length := by rw [leavesX_len]; exact hi
    have hRb : (leafOf S Wy (lp S i)).r ≤ 101 := by
      have h1 : (leafOf S Wy (lp S i)).r = cntR S (Wy.getD (lp S i) []) := rfl
      have h2 := cntR_le S (Wy.getD (lp S i) [])
      have h3 := h.hw.len_le (lp S i) (by have := (lp_lt hi).1; omega)
      have := (lp_lt hi).1
      omega
    induction d with
    | zero =>
      intro r m hr hm
      obtain ⟨m, rfl⟩ : ∃ k, m = k + 1 := ⟨m - 1, by omega⟩
      rw [F9_L2]
      simp only [ec, el, Int.toNat_natCast, getD_drop, intD_int, Nat.mul_one, lv1 hli, leavesX_at hi]
      rw [wrap_i64 (by omega) (by omega)]
      have hc : decide ((r : Int) < ((leafOf S Wy (lp S i)).r : Int) + 1) = false := decide_eq_false (by omega)
      rw [hc, cond_false, gd_in (by omega), gd_in (by omega), gd_in (by rw [natI_lenD]; simp), F25_eq n r _ (by omega) (by rw [natI_lenD]; simp) (by omega), bd_some, gd_in (by omega), gd_in ⟨rfl, by omega⟩, wrap_i64 (by omega) (by omega)]
      unfold nxRow
      have : r = (leafOf S Wy (lp S i)).r + 1 := by omega
      rw [this]; rfl
    | succ d ih =>
      intro r m hr hm
      obtain ⟨m, rfl⟩ : ∃ k, m = k + 1 := ⟨m - 1, by omega⟩
      rw [F9_L2]
      simp only [ec, el, Int.toNat_natCast, getD_drop, intD_int, Nat.mul_one, lv1 hli, leavesX_at hi]
      rw [wrap_i64 (by omega) (by omega)]
      have hc : decide ((r : Int) < ((leafOf S Wy (lp S i)).r : Int) + 1) = true := decide_eq_true (by omega)
      rw [hc, cond_true, gd_in (by omega), gd_in (by omega), F20_eq h hn i r hi (by omega), bd_some, gd_in ⟨ap_ok (by omega) (by omega), by rw [natI_lenD]; simp⟩, gd_in (by omega), gd_in (by omega), wrap_i64 (by omega) (by omega)]
      have e : isD (natI ((List.range r).map (nx S Wy i))) ++ [PD.int .i64 (nx S Wy i r : Int)] = isD (natI ((List.range (r + 1)).map (nx S Wy i))) := by
        simp [isD, natI, iD, List.range_succ]
      rw [e]
      exact ih (r + 1) m (by omega) (by omega)
  have outer : ∀ (d i m : Nat), i + d = nL S → d < m → F9_L1 (lfsD (leavesX S Wy)) n (schD S) m i ((List.range i).map (nxRow S Wy) ++ List.replicate d .nil) = some (.lst (nL S) ((List.range (nL S)).map (nxRow S Wy))) := by
    intro d
    induction d with
    | zero =>
      intro i m hi hm
      obtain ⟨m, rfl⟩ : ∃ k, m = k + 1 := ⟨m - 1, by omega⟩
      rw [F9_L1]
      simp only [el, Int.toNat_natCast]
      have hc : decide ((i : Int) < (nL S : Int)) = false := decide_eq_false (by omega)
      have : i = nL S := by omega
      rw [hc, cond_false, gd_in (by simp; omega), this]; simp
    | succ d ih =>
      intro i m hi hm
      obtain ⟨m, rfl⟩ : ∃ k, m = k + 1 := ⟨m - 1, by omega⟩
      have hiL : i < nL S := by omega
      have hli : i < (leavesX S Wy).length := by rw [leavesX_len]; exact hiL
      have hRb : (leafOf S Wy (lp S i)).r ≤ 101 := by
        have h1 : (leafOf S Wy (lp S i)).r = cntR S (Wy.getD (lp S i) []) := rfl
        have h2 := cntR_le S (Wy.getD (lp S i) [])
        have h3 := h.hw.len_le (lp S i) (by have := (lp_lt hiL).1; omega)
        have := (lp_lt hiL).1
        omega
      rw [F9_L1]
      have hc : decide ((i : Int) < (lenN (lfsD (leavesX S Wy)) : Int)) = true := decide_eq_true (by rw [el]; omega)
      rw [hc, cond_true, gd_in (show idxOK 4 (lfsD (leavesX S Wy)) (i : Int) from idx_lst (by omega) (by omega) (by rw [lfs_len, leavesX_len]; simp only [Int.toNat_natCast]; omega))]
      have hlen : ((List.range i).map (nxRow S Wy) ++ List.replicate (d + 1) PD.nil).length = nL S := by simp; omega
      have hnil : ((List.range i).map (nxRow S Wy) ++ List.replicate (d + 1) PD.nil).getD i .nil = .nil := by
        rw [List.getD_eq_getElem?_getD, List.getElem?_append_right (by simp)]
        simp
      simp only [ec, lenN_lst, cellsD_lst, isSlD_lst, isLst_lst, Int.toNat_natCast, getD_drop, intD_int, strD_str, isI_int, isS_str, List.length_drop, lfs_len, leavesX_len, and_true, true_and, and_self, Nat.mul_one, Nat.add_zero, lv0' hli, lv1 hli, lv2 hli, lv3 hli, hnil]
      rw [gd_in (by omega), gd_in (by omega), gd_in ⟨by omega, rfl⟩]
      have := inner i hiL _ hlen (F9_L1 (lfsD (leavesX S Wy)) n (schD S) m) ((leafOf S Wy (lp S i)).r + 1) 0 n (by omega) (by omega)
      simp only [List.range_zero, List.map_nil] at this
      have this : F9_L2 (lfsD (leavesX S Wy)) i ((List.range i).map (nxRow S Wy) ++ List.replicate (d + 1) PD.nil) n (schD S) (F9_L1 (lfsD (leavesX S Wy)) n (schD S) m) n 0 0 [] = _ := this
      rw [this]
      have e : setD ((List.range i).map (nxRow S Wy) ++ List.replicate (d + 1) PD.nil) i [nxRow S Wy i] = (List.range (i + 1)).map (nxRow S Wy) ++ List.replicate d PD.nil := by
        unfold setD
        have hl : ((List.range i).map (nxRow S Wy)).length = i := by simp
        rw [List.take_left' hl, ← List.drop_drop, List.drop_left' hl, List.replicate_succ, List.range_succ, List.map_append]
        simp
      rw [e]
      exact ih (i + 1) m (by omega) (by omega)
  unfold F9
  rw [gd_in (show isSlD (schD S) = true from rfl), h.f19 hn, bd_some, gd_in (show isSlD (lfsD (leavesX S Wy)) = true from rfl), gd_in (show isSlD (lfsD (leavesX S Wy)) = true from rfl), gd_in (mk_ok (by omega) (by rw [el]; omega) (by rw [el]; omega)), gd_in (show isSlD (lfsD (leavesX S Wy)) = true from rfl)]
  have hz : rowZD [PD.nil] ((lenN (lfsD (leavesX S Wy)) : Int)).toNat = List.replicate (nL S) .nil := by
    unfold rowZD
    rw [el, Int.toNat_natCast]
    induction nL S with
    | zero => rfl
    | succ k ih => rw [List.replicate_succ, List.flatten_cons, List.replicate_succ, ih]; rfl
  rw [hz]
  have := outer (nL S) 0 n (by omega) (by omega)
  simpa using this
end
end Go.Proofs.Ytfhpoffgnpgagaa
