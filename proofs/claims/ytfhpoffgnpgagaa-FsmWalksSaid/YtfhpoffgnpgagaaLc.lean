/- The plain law, eleventh part: whose kid each field is, by the other road. No condition. -/
import Derived.Test.YtfhpoffgnpgagaaLb
import Derived.Test.YtfhpoffgnpgagaaBr
set_option linter.unusedSimpArgs false
set_option linter.unusedVariables false
namespace Go.Proofs.Ytfhpoffgnpgagaa
open Go Go.Proofs Go.Abs
set_option linter.unusedVariables false
set_option linter.unusedSimpArgs false

def prOf (x : Nat × Nat) : List PD := [.int .i64 (x.1 : Int), .int .i64 (x.2 : Int)]
def prD (st : Stk) : List PD := st.reverse.flatMap prOf
theorem prD_len {st : Stk} : (prD st).length = st.length * 2 := by unfold prD; rw [flat_length prOf 2 (fun _ => rfl), List.length_reverse]
theorem prD_cons {x : Nat × Nat} {r : Stk} : prD (x :: r) = prD r ++ prOf x := by simp [prD]
theorem prD_take {x : Nat × Nat} {r : Stk} : (prD (x :: r)).take (r.length * 2) = prD r := by rw [prD_cons, List.take_left' prD_len]
theorem prD_at {x : Nat × Nat} {r : Stk} {o : Nat} : (prD (x :: r)).getD (r.length * 2 + o) .nil = (prOf x).getD o .nil := by
  rw [prD_cons, List.getD_eq_getElem?_getD, List.getElem?_append_right (by rw [prD_len]; omega), prD_len, Nat.add_sub_cancel_left, List.getD_eq_getElem?_getD]
theorem prD_0 {x : Nat × Nat} {r : Stk} : (prD (x :: r)).getD (r.length * 2) .nil = .int .i64 (x.1 : Int) := prD_at (o := 0)
theorem prD_1 {x : Nat × Nat} {r : Stk} : (prD (x :: r)).getD (r.length * 2 + 1) .nil = .int .i64 (x.2 : Int) := prD_at (o := 1)
theorem prD_set {a l l' : Nat} {r : Stk} : setD (prD ((a, l) :: r)) (r.length * 2 + 1) [.int .i64 (l' : Int)] = prD ((a, l') :: r) := by
  have e : prD ((a, l) :: r) = (prD r ++ [.int .i64 (a : Int)]) ++ [.int .i64 (l : Int)] := by rw [prD_cons]; simp [prOf]
  have e' : prD ((a, l') :: r) = (prD r ++ [.int .i64 (a : Int)]) ++ [.int .i64 (l' : Int)] := by rw [prD_cons]; simp [prOf]
  have hl : (prD r ++ [PD.int .i64 (a : Int)]).length = r.length * 2 + 1 := by rw [List.length_append, prD_len]; rfl
  rw [e, e']
  unfold setD
  rw [List.take_left' hl]
  have : ((prD r ++ [PD.int .i64 (a : Int)]) ++ [PD.int .i64 (l : Int)]).drop (r.length * 2 + 1 + [PD.int .i64 (l' : Int)].length) = [] := List.drop_eq_nil_of_le (by rw [List.length_append, hl]; simp)
  rw [this, List.append_nil]

section
variable {S : List Fld}

def St52 (S : List Fld) (n m i : Nat) (A : List Int) (st : Stk) : Option (Bool × Nat × List PD) := F52_L1 (schD S) n m st.length i A.length (prD st) (isD A)

theorem F52_K5_eq (hs : S.length < 100) {n m i : Nat} (hi : i < S.length) {A : List Int} {st : Stk} (hst : st.length < 1000) {nm : List UInt8} {r k c : Nat} (hf : S.getD i default = ⟨nm, r, k, c⟩) (g : Int) (hA : A.length < 1000) {x : Nat} (hx : x = st.length) :
    F52_K5 n i x A.length (isD A) (schD S) (F52_L1 (schD S) n m) g (prD st) = St52 S n m (i + 1) (A ++ [g]) (if k = 0 then (i, c) :: st else st) := by
  subst hx
  have e1 : isD A ++ [.int .i64 g] = isD (A ++ [g]) := by simp [isD, iD]
  unfold F52_K5 F53
  rw [gd_in ⟨ap_ok (by omega) (by omega), by rw [isD_length]; omega⟩, bd_some]
  simp only [Bool.not_true, cond_false, sch_cells, Int.toNat_natCast, getD_drop, intD_int, fl2 hi, fl3 hi, hf]
  by_cases e : k = 0
  · have : ((k : Int) == 0) = true := by rw [e]; rfl
    rw [this, cond_true, gd_in ⟨ap_ok (by omega) (by omega), by rw [prD_len]⟩]
    unfold F52_K2 St52
    rw [if_pos e, wrap_i64 (by omega) (by omega), prD_cons, e1]
    simp only [List.length_append, List.length_cons, List.length_nil]
    rfl
  · have : ((k : Int) == 0) = false := by simp only [beq_eq_false_iff_ne, ne_eq]; omega
    rw [this, cond_false]
    unfold F52_K2 St52
    rw [if_neg e, wrap_i64 (by omega) (by omega), e1]
    simp only [List.length_append, List.length_cons, List.length_nil]
    rfl

theorem F52_pop (hs : S.length < 100) {n i : Nat} (hi : i < S.length) {A : List Int} {nm : List UInt8} {rp k c : Nat} (hf : S.getD i default = ⟨nm, rp, k, c⟩) (hA : A.length < 1000) {g l : Nat} {r : Stk} (mm : Nat) :
    ∀ (Z : List Nat) (m : Nat), Z.length < m → Z.length + r.length < 900 → l < 100000 →
    F52_L3 n i A.length (isD A) (schD S) (F52_L1 (schD S) n mm) m (zer Z ++ (g, l + 1) :: r).length (prD (zer Z ++ (g, l + 1) :: r)) = St52 S n mm (i + 1) (A ++ [(g : Int)]) (if k = 0 then (i, c) :: (g, l) :: r else (g, l) :: r) := by
  intro Z
  induction Z with
  | nil =>
    intro m hm hr hl
    obtain ⟨m, rfl⟩ : ∃ k, m = k + 1 := ⟨m - 1, by simp at hm; omega⟩
    simp only [List.length_nil] at hr
    have ez : zer [] ++ (g, l + 1) :: r = (g, l + 1) :: r := rfl
    rw [ez, F52_L3]
    have hc : decide ((0 : Int) < ((r.length + 1 : Nat) : Int)) = true := decide_eq_true (by omega)
    have ew : IntKind.wrap .i64 (((r.length + 1 : Nat) : Int) - 1) = (r.length : Int) := by rw [wrap_i64 (by omega) (by omega)]; omega
    simp only [hc, cond_true, ew, Int.toNat_natCast, prD_0, prD_1, isI_int, intD_int, and_true, prD_len, List.length_cons]
    rw [gd_in (by omega), gd_in (by omega)]
    have h0 : decide (((l + 1 : Nat) : Int) ≤ 0) = false := decide_eq_false (by omega)
    rw [h0]
    unfold F52_K4
    simp only [cond_false, cond_true, hc, ew, Int.toNat_natCast, prD_0, prD_1, isI_int, intD_int, and_true, prD_len, List.length_cons]
    rw [gd_in (by omega), gd_in (by omega), gd_in (by omega), gd_in (by omega), gd_in (by omega), gd_in (by omega)]
    rw [wrap_i64 (by omega) (by omega), show ((l + 1 : Nat) : Int) - 1 = (l : Int) by omega, prD_set]
    exact F52_K5_eq hs hi (st := (g, l) :: r) (by simp only [List.length_cons]; omega) hf g hA rfl
  | cons z Z ih =>
    intro m hm hr hl
    obtain ⟨m, rfl⟩ : ∃ k, m = k + 1 := ⟨m - 1, by omega⟩
    simp only [List.length_cons] at hm hr
    have ez : zer (z :: Z) ++ (g, l + 1) :: r = (z, 0) :: (zer Z ++ (g, l + 1) :: r) := rfl
    have ih' := ih m (by omega) (by omega) hl
    rw [ez, F52_L3]
    have hlen : (zer Z ++ (g, l + 1) :: r).length < 1000 := by simp [zer]; omega
    generalize zer Z ++ (g, l + 1) :: r = R at ih' hlen ⊢
    have hc : decide ((0 : Int) < ((R.length + 1 : Nat) : Int)) = true := decide_eq_true (by omega)
    have ew : IntKind.wrap .i64 (((R.length + 1 : Nat) : Int) - 1) = (R.length : Int) := by rw [wrap_i64 (by omega) (by omega)]; omega
    simp only [hc, cond_true, ew, Int.toNat_natCast, prD_0, prD_1, isI_int, intD_int, and_true, prD_len, List.length_cons]
    rw [gd_in (by omega), gd_in (by omega)]
    have h0 : decide (((0 : Nat) : Int) ≤ 0) = true := rfl
    rw [h0]
    unfold F52_K4
    simp only [cond_true, ew, Int.toNat_natCast, prD_take]
    rw [gd_in (by omega)]
    exact ih'

theorem F52_for (hs : S.length < 100) {P : List Int} {n : Nat} (hn : 1000 ≤ n) : ∀ (F : For) (g p : Nat), F.Good → Loc S P g p F → p ≤ S.length → ∀ (m l : Nat) (Z : List Nat) (A : List Int) (r : Stk), A.length = p → Z.length + r.length + F.size < 800 → l + F.len < 1000 →
    ∃ Z', St52 S n (m + F.size) p A (zer Z ++ (g, l + F.len) :: r) = St52 S n m (p + F.size) (A ++ For.par g p F) (zer Z' ++ (g, l) :: r) ∧ Z'.length ≤ Z.length + F.size
  | .nil, g, p, _, _, _, m, l, Z, A, r, hA, _, _ => ⟨Z, by simp [For.par, For.size, For.len], by omega⟩
  | .cons nm rp k ks rs, g, p, hG, hL, hp, m, l, Z, A, r, hA, hb, hl => by
    obtain ⟨h0, hS, hPg, hgp, hk, hr, _⟩ := hL
    obtain ⟨g1, g2, g3, g4, gk, gr⟩ := hG
    have hfit := hk.fits (by omega)
    have hkl := For.len_le ks
    have hsz : p + (For.cons nm rp k ks rs).size = p + 1 + ks.size + rs.size := by simp only [For.size]; omega
    simp only [For.size, For.len] at hb hl
    have step : ∀ m', St52 S n (m' + 1) p A (zer Z ++ (g, l + (rs.len + 1)) :: r) = St52 S n m' (p + 1) (A ++ [(g : Int)]) (if k = 0 then (p, ks.len) :: (g, l + rs.len) :: r else (g, l + rs.len) :: r) := by
      intro m'
      unfold St52
      rw [F52_L1]
      have hc : decide ((p : Int) < (lenN (schD S) : Int)) = true := decide_eq_true (by rw [sch_len]; omega)
      rw [hc, cond_true, gd_in (sch_idx h0)]
      simp only [sch_cells, Int.toNat_natCast, getD_drop, Nat.add_zero, List.length_drop, flds_len, fl0' h0, fl1 h0, fl2 h0, fl3 h0, isI_int, isS_str, and_true]
      rw [gd_in (by omega), gd_in (by omega)]
      exact F52_pop (l := l + rs.len) hs h0 hS (by omega) m' Z n (by omega) (by omega) (by omega)
    have mid : ∃ Z', St52 S n (m + rs.size + ks.size) (p + 1) (A ++ [(g : Int)]) (if k = 0 then (p, ks.len) :: (g, l + rs.len) :: r else (g, l + rs.len) :: r) = St52 S n (m + rs.size) (p + 1 + ks.size) (A ++ [(g : Int)] ++ For.par p (p + 1) ks) (zer Z' ++ (g, l + rs.len) :: r) ∧ Z'.length ≤ ks.size + 1 := by
      by_cases e : k = 0
      · rw [if_pos e]
        obtain ⟨Z', q1, q3⟩ := F52_for hs hn ks p (p + 1) gk hk (by omega) (m + rs.size) 0 [] (A ++ [(g : Int)]) ((g, l + rs.len) :: r) (by simp [hA]) (by simp only [List.length_nil, List.length_cons]; omega) (by omega)
        refine ⟨Z' ++ [p], ?_, by simp at q3 ⊢; omega⟩
        have e1 : zer [] ++ (p, 0 + ks.len) :: (g, l + rs.len) :: r = (p, ks.len) :: (g, l + rs.len) :: r := by simp [zer]
        rw [e1] at q1
        rw [q1]
        congr 1
        simp [zer]
      · rw [if_neg e]
        have := g4 e
        subst this
        exact ⟨[], by simp only [For.par, For.size, List.append_nil, Nat.add_zero]; rfl, by simp⟩
    obtain ⟨Z1, m1, m3⟩ := mid
    obtain ⟨Z2, r1, r3⟩ := F52_for hs hn rs g (p + 1 + ks.size) gr hr (by omega) m l Z1 (A ++ [(g : Int)] ++ For.par p (p + 1) ks) r (by simp only [List.length_append, List.length_singleton, hA, For.par_len]) (by omega) (by omega)
    refine ⟨Z2, ?_, by simp only [For.size]; omega⟩
    rw [show m + (For.cons nm rp k ks rs).size = (m + rs.size + ks.size) + 1 by simp only [For.size]; omega, show (For.cons nm rp k ks rs).len = rs.len + 1 from rfl, step, m1, r1, hsz]
    congr 1
    simp [For.par]

/-- The last look: whatever it says, the parents stand. -/
theorem F52_L6_eq (st : Stk) (hst : st.length < 1000) (x : Nat) (X : List PD) : ∀ (d i m : Nat) (b : Bool), i + d = st.length → d < m → ∃ b', F52_L6 st.length (prD st) x X m b i = some (b', x, X) := by
  intro d
  induction d with
  | zero =>
    intro i m b hi hm
    obtain ⟨m, rfl⟩ : ∃ k, m = k + 1 := ⟨m - 1, by omega⟩
    refine ⟨b, ?_⟩
    rw [F52_L6]
    have hc : decide ((i : Int) < (st.length : Int)) = false := decide_eq_false (by omega)
    rw [hc, cond_false]
  | succ d ih =>
    intro i m b hi hm
    obtain ⟨m, rfl⟩ : ∃ k, m = k + 1 := ⟨m - 1, by omega⟩
    rw [F52_L6]
    have hc : decide ((i : Int) < (st.length : Int)) = true := decide_eq_true (by omega)
    have hir : i < st.reverse.length := by rw [List.length_reverse]; omega
    have e0 : (prD st).getD (i * 2) .nil = .int .i64 (st.reverse[i].1 : Int) := by
      have := flat_get prOf 2 (fun _ => rfl) (s := st.reverse) (i := i) (o := 0) hir (by omega)
      rw [Nat.add_zero] at this
      rw [List.getD_eq_getElem?_getD]; unfold prD; rw [this]; rfl
    have e1 : (prD st).getD (i * 2 + 1) .nil = .int .i64 (st.reverse[i].2 : Int) := by
      have := flat_get prOf 2 (fun _ => rfl) (s := st.reverse) (i := i) (o := 1) hir (by omega)
      rw [List.getD_eq_getElem?_getD]; unfold prD; rw [this]; rfl
    rw [hc, cond_true]
    simp only [Int.toNat_natCast, getD_drop, Nat.add_zero, List.length_drop, prD_len, e0, e1, isI_int, intD_int, and_true]
    rw [gd_in (by omega), gd_in (by omega), gd_in (by omega)]
    unfold F52_K7
    rw [wrap_i64 (by omega) (by omega)]
    cases b
    · exact ih (i + 1) m _ (by omega) (by omega)
    · exact ih (i + 1) m _ (by omega) (by omega)

theorem F52_root {nm : List UInt8} {ks : For} (hs : (For.cons nm 0 0 ks .nil).flat.length < 100) (hG : ks.Good) (hk : 0 < ks.len) {n : Nat} (hn : 1000 ≤ n) :
    F37 n (schD (For.cons nm 0 0 ks .nil).flat) = some (pD (For.par (-1) 0 (.cons nm 0 0 ks .nil))) := by
  have hL := Loc_root (.cons nm 0 0 ks .nil)
  have hsz : (For.cons nm 0 0 ks .nil).flat.length = 1 + ks.size := by rw [For.flat_len]; rfl
  have hpar : For.par (-1) 0 (.cons nm 0 0 ks .nil) = -1 :: For.par 0 1 ks := by simp [For.par]
  generalize hSe : (For.cons nm 0 0 ks .nil).flat = S at *
  generalize hPe : For.par (-1) 0 (.cons nm 0 0 ks .nil) = P at *
  obtain ⟨h0, hS, hPg, hgp, hkl, hr, _⟩ := hL
  have hlen := For.len_le ks
  have hpl := For.par_len 0 1 ks
  have e0 : F52_L1 (schD S) n n 0 (0 : Int) 0 [] [] = St52 S n (n - 1) 1 [-1] [(0, ks.len)] := by
    obtain ⟨m, hm⟩ : ∃ k, n = k + 1 := ⟨n - 1, by omega⟩
    conv => lhs; rw [hm]
    rw [F52_L1]
    have hc : decide ((0 : Int) < (lenN (schD S) : Int)) = true := decide_eq_true (by rw [sch_len]; omega)
    rw [hc, cond_true, gd_in (show idxOK 4 (schD S) 0 from sch_idx (p := 0) h0)]
    have ez : (0 : Int).toNat = 0 := rfl
    have f0 := fl0' h0
    have f1 := fl1 h0
    have f2 := fl2 h0
    have f3 := fl3 h0
    simp only [sch_cells, ez, Nat.zero_mul, getD_drop, List.drop_zero, flds_len, isI_int, isS_str, and_true, Nat.zero_add] at f0 f1 f2 f3 ⊢
    simp only [f0, f1, f2, f3, isI_int, isS_str, and_true]
    rw [gd_in (by omega), gd_in (by omega), F52_L3]
    have hc : decide ((0 : Int) < ((0 : Nat) : Int)) = false := rfl
    rw [hc, cond_false]
    unfold F52_K4
    rw [cond_false, hc, cond_false]
    have := F52_K5_eq (n := n) (m := m) hs (i := 0) h0 (A := []) (st := []) (by simp) hS (-1) (by simp) rfl
    rw [if_pos rfl] at this
    rw [hm] at this ⊢
    exact this
  have hL' : Loc S P (0 : Nat) 1 ks := hkl
  obtain ⟨Z', q1, q3⟩ := F52_for hs hn ks 0 1 hG hL' (by omega) (n - 1 - ks.size) 0 [] [-1] [] rfl (by simp only [List.length_nil]; omega) (by omega)
  have e1 : zer [] ++ (0, 0 + ks.len) :: [] = [(0, ks.len)] := by simp [zer]
  rw [e1, show n - 1 - ks.size + ks.size = n - 1 by omega] at q1
  obtain ⟨m', hm'⟩ : ∃ k, n - 1 - ks.size = k + 1 := ⟨n - 1 - ks.size - 1, by omega⟩
  have e2 : ∃ b', F52 n (schD S) 0 [] = some (b', (-1 :: For.par 0 1 ks).length, isD (-1 :: For.par 0 1 ks)) := by
    unfold F52
    rw [gd_in sch_isSl, e0, q1]
    unfold St52
    rw [hm', F52_L1]
    have hc : decide (((1 + ks.size : Nat) : Int) < (lenN (schD S) : Int)) = false := decide_eq_false (by rw [sch_len]; omega)
    rw [hc, cond_false]
    exact F52_L6_eq (zer Z' ++ [(0, 0)]) (by simp [zer] at q3 ⊢; omega) _ _ (zer Z' ++ [(0, 0)]).length 0 n false (by omega) (by simp [zer] at q3 ⊢; omega)
  obtain ⟨b', e2⟩ := e2
  unfold F37
  rw [e2, bd_some, gd_in (by simp only [isD_length]; omega), F25_eq n _ _ (by simp) (by rw [isD_length]) (by simp only [List.length_cons]; omega), bd_some, hpar]
  rfl
end
end Go.Proofs.Ytfhpoffgnpgagaa

namespace Go.Proofs.Ytfhpoffgnpgagaa
open Go Go.Proofs Go.Abs
set_option linter.unusedVariables false
set_option linter.unusedSimpArgs false

/-- A slice of integers, nil or not. -/
structure Row (d : PD) (l : List Int) : Prop where
  sl : isSlD d = true
  len : lenN d = l.length
  cells : cellsD d = isD l
  idx : ∀ i : Nat, i < l.length → idxOK 1 d (i : Int)
  inr : ∀ z ∈ l, inR z

theorem Row_nil : Row .nil [] := ⟨rfl, rfl, rfl, fun i h => by simp at h, fun z h => by simp at h⟩
theorem Row_lst {l : List Int} (h : ∀ z ∈ l, inR z) : Row (.lst l.length (isD l)) l := ⟨rfl, rfl, rfl, fun i hi => idx_lst (by omega) (by omega) (by rw [isD_length]; simp only [Int.toNat_natCast]; omega), h⟩

section
variable {S : List Fld} {P : List Int} {Wy : List (List Nat)} {R : PD} {l : List Int}

theorem F49_eq (hR : Row R l) (n : Nat) (A B : PD) (kq : Bool) (pos : Nat) (hp : pos < 1000000000000) : ∃ (z : Int) (pos' : Nat), F49 n A B kq R (pos : Int) = some (z, (pos' : Int)) ∧ inR z ∧ pos' ≤ pos + 1 := by
  unfold F49
  rw [gd_in hR.sl]
  by_cases h : l.length ≤ pos
  · have : decide ((lenN R : Int) ≤ (pos : Int)) = true := decide_eq_true (by rw [hR.len]; omega)
    rw [this, cond_true]
    exact ⟨0, pos, rfl, ⟨by omega, by omega⟩, by omega⟩
  · have : decide ((lenN R : Int) ≤ (pos : Int)) = false := decide_eq_false (by rw [hR.len]; omega)
    have hl : pos < l.length := by omega
    have e1 : IntKind.wrap .i64 ((pos : Int) + 1) = ((pos + 1 : Nat) : Int) := by rw [wrap_i64 (by omega) (by omega)]; omega
    have e2 : IntKind.wrap .i64 (((pos + 1 : Nat) : Int) - 1) = (pos : Int) := by rw [wrap_i64 (by omega) (by omega)]; omega
    simp only [this, cond_false, e1, e2, hR.cells, Int.toNat_natCast, Nat.mul_one, getD_drop, Nat.add_zero, isD_at hl, isI_int, intD_int, List.length_drop, isD_length, and_true]
    rw [gd_in (hR.idx pos hl), gd_in (by omega)]
    exact ⟨_, pos + 1, rfl, hR.inr _ (getD_mem hl), by omega⟩

def For.cost : For → Nat
  | .nil => 0
  | .cons _ _ _ ks rs => 1 + 3 * (1 + ks.cost) + rs.cost

abbrev SelfB := Int → PD → PD → Bool → PD → Int → Option (Int × List UInt8 × PD × Int)
section
variable (self : SelfB) (n : Nat) (kq : Bool) (R : PD) (g : Int)
theorem F33_skip1 (hSP : S.length = P.length) (hs : S.length < 100) {j : Nat} (hj : j < S.length) (hne : P.getD j 0 ≠ g) (m : Nat) (pos : Int) (kc : Nat) (es : List PD) :
    F33_L1 (schD S) (pD P) g n kq R self (m + 1) (j : Int) pos kc es = F33_L1 (schD S) (pD P) g n kq R self m ((j + 1 : Nat) : Int) pos kc es := by
  rw [F33_L1, gd_in sch_isSl]
  have hc : decide ((j : Int) < (lenN (schD S) : Int)) = true := decide_eq_true (by rw [sch_len]; omega)
  rw [hc, cond_true, gd_in (p_idx (by omega))]
  simp only [p_cells, Int.toNat_natCast, getD_drop, intD_int, isI_int, List.length_drop, isD_length, and_true, true_and, and_self, Nat.mul_one, Nat.add_zero, isD_at (show j < P.length by omega)]
  rw [gd_in (by omega)]
  have : (P.getD j 0 != g) = true := by simpa using hne
  rw [this, cond_true]
  unfold F33_K2
  rw [wrap_i64 (by omega) (by omega)]; rfl
theorem F33_skip (hSP : S.length = P.length) (hs : S.length < 100) (m : Nat) (pos : Int) (kc : Nat) (es : List PD) : ∀ (e j : Nat), j + e ≤ S.length → (∀ q, j ≤ q → q < j + e → P.getD q 0 ≠ g) →
    F33_L1 (schD S) (pD P) g n kq R self (m + e) (j : Int) pos kc es = F33_L1 (schD S) (pD P) g n kq R self m ((j + e : Nat) : Int) pos kc es := by
  intro e
  induction e with
  | zero => intro j _ _; rfl
  | succ e ih =>
    intro j hj hne
    rw [show m + (e + 1) = (m + e) + 1 by omega, F33_skip1 self n kq R g hSP hs (by omega) (hne j (by omega) (by omega)), ih (j + 1) (by omega) (fun q a b => hne q (by omega) (by omega)), show j + 1 + e = j + (e + 1) by omega]
theorem F33_end (hSP : S.length = P.length) (hs : S.length < 100) (m : Nat) (pos : Int) (es : List PD) : F33_L1 (schD S) (pD P) g n kq R self (m + 1) ((S.length : Nat) : Int) pos es.length es = some (0, [], .lst es.length es, pos) := by
  rw [F33_L1, gd_in sch_isSl]
  have hc : decide ((S.length : Int) < (lenN (schD S) : Int)) = false := decide_eq_false (by rw [sch_len]; omega)
  rw [hc, cond_false, gd_in (by omega), gd_in isSlD_lst]
end

/-- The occurrences, one by one. -/
theorem F33_L5_eq (self : SelfB) (A B : PD) (kq : Bool) (R : PD) (Q : Vl → Prop) (C : Nat) (p : Nat) (hp : p < 1000) (lo1 : Int → Int → Nat → List PD → Option (Int × List UInt8 × PD × Int)) (c : Nat) (hc3 : c ≤ 3) (es : List PD) (hes : es.length < 1000)
    (H : ∀ pos : Nat, pos + C < 1000000000000 → ∃ (v : Vl) (pos' : Nat), self (p : Int) A B kq R (pos : Int) = some (v.1, v.2.1, v.2.2, (pos' : Int)) ∧ Q v ∧ isSlD v.2.2 = true ∧ pos' ≤ pos + C) :
    ∀ (k i m : Nat) (vs : List Vl) (pos : Nat), i + k = c → vs.length = i → (∀ v ∈ vs, Q v) → pos + k * C < 1000000000000 →
      ∃ (vs' : List Vl) (pos' : Nat), F33_L5 (c : Int) self (p : Int) A B kq R es.length es lo1 (m + k + 1) vs.length (i : Int) (pos : Int) (vs.flatMap vD) = lo1 ((p + 1 : Nat) : Int) (pos' : Int) (es.length + 1) (es ++ [.lst vs'.length (vs'.flatMap vD)]) ∧ vs'.length = c ∧ (∀ v ∈ vs', Q v) ∧ pos' ≤ pos + k * C := by
  intro k
  induction k with
  | zero =>
    intro i m vs pos hi hv hq hpos
    refine ⟨vs, pos, ?_, by omega, hq, by omega⟩
    rw [F33_L5]
    have h : decide ((i : Int) < (c : Int)) = false := decide_eq_false (by omega)
    rw [h, cond_false, gd_in (by rw [vDs_len]), gd_in isSlD_lst, gd_in ⟨ap_ok (by omega) (by omega), by omega⟩]
    unfold F33_K2
    rw [wrap_i64 (by omega) (by omega)]; rfl
  | succ k ih =>
    intro i m vs pos hi hv hq hpos
    have hsucc : (k + 1) * C = C + k * C := by rw [Nat.add_mul, Nat.one_mul]; omega
    obtain ⟨v, pos1, e1, e2, e3, e4⟩ := H pos (by omega)
    obtain ⟨vs', pos', q1, q2, q3, q4⟩ := ih (i + 1) m (vs ++ [v]) pos1 (by omega) (by simp [hv]) (fun w hw => by
      rcases List.mem_append.1 hw with h | h
      · exact hq w h
      · rw [List.mem_singleton] at h; subst h; exact e2) (by omega)
    refine ⟨vs', pos', ?_, q2, q3, by omega⟩
    rw [F33_L5]
    have h : decide ((i : Int) < (c : Int)) = true := decide_eq_true (by omega)
    rw [h, cond_true, e1, bd_some, gd_in e3, gd_in ⟨ap_ok (by omega) (by omega), by rw [vDs_len]⟩, wrap_i64 (by omega) (by omega)]
    have e5 : (vs ++ [v]).flatMap vD = vs.flatMap vD ++ vD v := by simp
    rw [e5, List.length_append, List.length_singleton] at q1
    exact q1

theorem letters_len (z : Int) (h0 : 0 ≤ z) (h1 : z ≤ 8) : ((([97, 98, 99, 97, 98, 99, 97, 98, 99, 97, 98, 99] : List UInt8).drop 0).take (z.toNat - 0)).length ≤ 100 := by
  rw [List.length_take]; simp; omega

theorem F33_eq (hSP : S.length = P.length) (hs : S.length < 100) (hR : Row R l) (kq : Bool) : ∀ (F : For) (g : Int) (p n : Nat), F.Good → Loc S P g p F → p ≤ S.length → 1000 + F.hgt ≤ n + 1 → ∀ (m pos : Nat) (es : List PD), es.length + F.len < 1000 → pos + F.cost < 1000000000000 →
    ∃ (ds : List PD) (pos' : Nat), F33_L1 (schD S) (pD P) g n kq R (F33 n) (m + F.size) (p : Int) (pos : Int) es.length es = F33_L1 (schD S) (pD P) g n kq R (F33 n) m ((p + F.size : Nat) : Int) (pos' : Int) (es ++ ds).length (es ++ ds) ∧ Conf F ds ∧ pos' ≤ pos + F.cost
  | .nil, g, p, n, _, _, _, _, m, pos, es, _, _ => ⟨[], pos, by simp [For.size], rfl, by omega⟩
  | .cons nm rp k ks rs, g, p, n, hG, hL, hp, hn, m, pos, es, hes, hpos => by
    have hkn := fun j => hL.kid_ne (j := j)
    have hen := fun j => hL.end_ne (j := j)
    obtain ⟨h0, hS, hPg, hgp, hk, hr, _⟩ := hL
    obtain ⟨g1, g2, g3, g4, gk, gr⟩ := hG
    have hfit := hk.fits (by omega)
    have hrfit := hr.fits (by omega)
    have hsz : p + (For.cons nm rp k ks rs).size = p + 1 + ks.size + rs.size := by simp only [For.size]; omega
    rw [hsz]
    have hlen2 := For.len_le ks
    have hf' : (S.getD p default).kind = k := by rw [hS]
    have hr' : (S.getD p default).rep = rp := by rw [hS]
    have hh1 : ks.hgt + 1 ≤ (For.cons nm rp k ks rs).hgt := by simp only [For.hgt]; omega
    have hh2 : rs.hgt ≤ (For.cons nm rp k ks rs).hgt := by simp only [For.hgt]; omega
    simp only [For.cost] at hpos ⊢
    simp only [For.len] at hes
    obtain ⟨n, rfl⟩ : ∃ k, n = k + 1 := ⟨n - 1, by omega⟩
    -- one occurrence
    have node : ∀ pos : Nat, pos + (1 + ks.cost) < 1000000000000 → ∃ (v : Vl) (pos' : Nat), F33 (n + 1) (p : Int) (schD S) (pD P) kq R (pos : Int) = some (v.1, v.2.1, v.2.2, (pos' : Int)) ∧ NodeV k ks v ∧ isSlD v.2.2 = true ∧ pos' ≤ pos + (1 + ks.cost) := by
      intro pos hpos
      obtain ⟨z, pos1, e1, e2, e3⟩ := F49_eq hR n (schD S) (pD P) kq pos (by omega)
      obtain ⟨z1, z2⟩ := e2
      rw [F33, e1, bd_some, gd_in (sch_idx h0)]
      simp only [sch_cells, Int.toNat_natCast, getD_drop, intD_int, isI_int, List.length_drop, flds_len, and_true, fl2 h0, hf']
      rw [gd_in (by omega), gd_in (by omega)]
      have hkk : k = 0 ∨ k = 1 ∨ k = 2 ∨ k = 3 ∨ k = 4 := by omega
      rcases hkk with h | h | h | h | h
      · have a1 : ((k : Int) == 1) = false := by rw [h]; rfl
        have a2 : ((k : Int) == 2) = false := by rw [h]; rfl
        have a3 : ((k : Int) == 3) = false := by rw [h]; rfl
        have a4 : ((k : Int) == 4) = false := by rw [h]; rfl
        rw [a1, cond_false, a2, cond_false, a3, cond_false, a4, cond_false, wrap_i64 (by omega) (by omega)]
        obtain ⟨ds, pos', q1, q2, q3⟩ := F33_eq hSP hs hR kq ks p (p + 1) n gk hk (by omega) (by omega) (n - ks.size) pos1 [] (by simp only [List.length_nil]; omega) (by omega)
        rw [show n - ks.size + ks.size = n by omega, List.nil_append] at q1
        refine ⟨(0, [], .lst ds.length ds), pos', ?_, ⟨fun _ => ⟨rfl, rfl, ds, rfl, q2⟩, fun hne => absurd h hne⟩, rfl, by omega⟩
        have q1 : F33_L1 (schD S) (pD P) (p : Int) n kq R (F33 n) n ((p + 1 : Nat) : Int) (pos1 : Int) 0 [] = _ := q1
        rw [show ((p : Int) + 1) = ((p + 1 : Nat) : Int) by omega, q1]
        have := F33_skip (P := P) (F33 n) n kq R (p : Int) hSP hs (n - ks.size - (S.length - (p + 1 + ks.size))) (pos' : Int) ds.length ds (S.length - (p + 1 + ks.size)) (p + 1 + ks.size) (by omega) (fun q a b => hen q a (by omega))
        rw [show n - ks.size - (S.length - (p + 1 + ks.size)) + (S.length - (p + 1 + ks.size)) = n - ks.size by omega] at this
        rw [this, show p + 1 + ks.size + (S.length - (p + 1 + ks.size)) = S.length by omega]
        obtain ⟨m', hm'⟩ : ∃ k, n - ks.size - (S.length - (p + 1 + ks.size)) = k + 1 := ⟨n - ks.size - (S.length - (p + 1 + ks.size)) - 1, by omega⟩
        rw [hm', F33_end (P := P) (F33 n) n kq R (p : Int) hSP hs]
      · have a1 : ((k : Int) == 1) = true := by rw [h]; rfl
        have b1 := Int.emod_nonneg z (by omega : (2 : Int) ≠ 0)
        have b2 := Int.emod_lt_of_pos z (by omega : (0 : Int) < 2)
        rw [a1, cond_true, F50_eq n z 2 (by omega) (by omega) ⟨z1, z2⟩, bd_some]
        exact ⟨(z % 2, [], .nil), pos1, rfl, ⟨fun hne => by omega, fun _ => ⟨rfl, ⟨fun _ => ⟨by simp only; omega, by simp only; omega⟩, fun hne => by omega, fun hne => by omega, fun _ => rfl, by simp, ⟨by simp only; omega, by simp only; omega⟩⟩⟩⟩, rfl, by omega⟩
      · have a1 : ((k : Int) == 1) = false := by rw [h]; rfl
        have a2 : ((k : Int) == 2) = true := by rw [h]; rfl
        have b1 := Int.emod_nonneg z (by omega : (300 : Int) ≠ 0)
        have b2 := Int.emod_lt_of_pos z (by omega : (0 : Int) < 300)
        rw [a1, cond_false, a2, cond_true, F50_eq n z 300 (by omega) (by omega) ⟨z1, z2⟩, bd_some, wrap_i64 (by omega) (by omega)]
        exact ⟨(z % 300 - 100, [], .nil), pos1, rfl, ⟨fun hne => by omega, fun _ => ⟨rfl, ⟨fun hne => by omega, fun _ => ⟨by simp only; omega, by simp only; omega⟩, fun hne => by omega, fun _ => rfl, by simp, ⟨by simp only; omega, by simp only; omega⟩⟩⟩⟩, rfl, by omega⟩
      · have a1 : ((k : Int) == 1) = false := by rw [h]; rfl
        have a2 : ((k : Int) == 2) = false := by rw [h]; rfl
        have a3 : ((k : Int) == 3) = true := by rw [h]; rfl
        rw [a1, cond_false, a2, cond_false, a3, cond_true]
        exact ⟨(z, [], .nil), pos1, rfl, ⟨fun hne => by omega, fun _ => ⟨rfl, ⟨fun hne => by omega, fun hne => by omega, fun hne => by omega, fun _ => rfl, by simp, ⟨z1, z2⟩⟩⟩⟩, rfl, by omega⟩
      · have a1 : ((k : Int) == 1) = false := by rw [h]; rfl
        have a2 : ((k : Int) == 2) = false := by rw [h]; rfl
        have a3 : ((k : Int) == 3) = false := by rw [h]; rfl
        have a4 : ((k : Int) == 4) = true := by rw [h]; rfl
        have b1 := Int.emod_nonneg z (by omega : (9 : Int) ≠ 0)
        have b2 := Int.emod_lt_of_pos z (by omega : (0 : Int) < 9)
        rw [a1, cond_false, a2, cond_false, a3, cond_false, a4, cond_true, F50_eq n z 9 (by omega) (by omega) ⟨z1, z2⟩, bd_some, gd_in ⟨by omega, by omega, by simp only [List.length_cons, List.length_nil]; omega⟩]
        exact ⟨(0, _, .nil), pos1, rfl, ⟨fun hne => by omega, fun _ => ⟨rfl, ⟨fun hne => by omega, fun hne => by omega, fun _ => rfl, fun hne => by omega, letters_len _ b1 (by omega), ⟨by simp only; omega, by simp only; omega⟩⟩⟩⟩, rfl, by omega⟩
    -- how many
    have k4 : ∀ (lo1 : Int → Int → Nat → List PD → Option (Int × List UInt8 × PD × Int)) (c pos : Nat), c ≤ 3 → pos + 3 * (1 + ks.cost) < 1000000000000 → ∃ (vs : List Vl) (pos' : Nat), F33_K4 (F33 (n + 1)) (p : Int) (schD S) (pD P) kq R es.length es lo1 (n + 1) (c : Int) (pos : Int) = lo1 ((p + 1 : Nat) : Int) (pos' : Int) (es.length + 1) (es ++ [.lst vs.length (vs.flatMap vD)]) ∧ vs.length = c ∧ (∀ v ∈ vs, NodeV k ks v) ∧ pos' ≤ pos + 3 * (1 + ks.cost) := by
      intro lo1 c pos hc hpos
      have hcC : c * (1 + ks.cost) ≤ 3 * (1 + ks.cost) := Nat.mul_le_mul_right _ hc
      obtain ⟨vs, pos', q1, q2, q3, q4⟩ := F33_L5_eq (F33 (n + 1)) (schD S) (pD P) kq R (NodeV k ks) (1 + ks.cost) p (by omega) lo1 c hc es (by omega) node c 0 (n - c) [] pos (by omega) rfl (by simp) (by omega)
      refine ⟨vs, pos', ?_, q2, q3, by omega⟩
      rw [show n - c + c + 1 = n + 1 by omega] at q1
      exact q1
    -- the field, at the loop
    have fld : ∀ m', ∃ (vs : List Vl) (pos' : Nat), F33_L1 (schD S) (pD P) g (n + 1) kq R (F33 (n + 1)) (m' + 1) (p : Int) (pos : Int) es.length es = F33_L1 (schD S) (pD P) g (n + 1) kq R (F33 (n + 1)) m' ((p + 1 : Nat) : Int) (pos' : Int) (es.length + 1) (es ++ [.lst vs.length (vs.flatMap vD)]) ∧ vs.length ≤ 3 ∧ (rp = 0 → vs.length = 1) ∧ (rp = 1 → vs.length ≤ 1) ∧ (∀ v ∈ vs, NodeV k ks v) ∧ pos' ≤ pos + (1 + 3 * (1 + ks.cost)) := by
      intro m'
      have hc1 : decide ((p : Int) < (lenN (schD S) : Int)) = true := decide_eq_true (by rw [sch_len]; omega)
      have hgg : (g != g) = false := by simp
      rw [F33_L1, gd_in sch_isSl, hc1, cond_true, gd_in (p_idx (by omega))]
      simp only [p_cells, Int.toNat_natCast, getD_drop, intD_int, isI_int, List.length_drop, isD_length, and_true, true_and, and_self, Nat.mul_one, Nat.add_zero, isD_at (show p < P.length by omega), hPg, hgg, cond_false, gd_in (sch_idx h0), sch_cells, flds_len, fl1 h0, hr']
      rw [gd_in (by omega), gd_in (by omega), gd_in (by omega)]
      have k3 : ∀ (lo1 : Int → Int → Nat → List PD → Option (Int × List UInt8 × PD × Int)) (a b : Int), F33_K3 (schD S) (p : Int) (n + 1) (pD P) kq R (F33 (n + 1)) es.length es lo1 a b = (bif ((rp : Int) == 2) then
          bd (F49 (n + 1) (schD S) (pD P) kq R b) fun x164 => bd (F50 (n + 1) x164.1 4) fun x169 => F33_K4 (F33 (n + 1)) (p : Int) (schD S) (pD P) kq R es.length es lo1 (n + 1) x169 x164.2
        else F33_K4 (F33 (n + 1)) (p : Int) (schD S) (pD P) kq R es.length es lo1 (n + 1) a b) := by
        intro lo1 a b
        unfold F33_K3
        simp only [Int.toNat_natCast, getD_drop, intD_int, isI_int, List.length_drop, and_true, gd_in (sch_idx h0), sch_cells, flds_len, fl1 h0, hr']
        rw [gd_in (by omega), gd_in (by omega)]
      have hrp : rp = 0 ∨ rp = 1 ∨ rp = 2 := by omega
      rcases hrp with h | h | h
      · have a1 : ((rp : Int) == 1) = false := by rw [h]; rfl
        have a2 : ((rp : Int) == 2) = false := by rw [h]; rfl
        rw [a1, cond_false, k3, a2, cond_false]
        obtain ⟨vs, pos', q1, q2, q3, q4⟩ := k4 (F33_L1 (schD S) (pD P) g (n + 1) kq R (F33 (n + 1)) m') 1 pos (by omega) (by omega)
        exact ⟨vs, pos', q1, by omega, fun _ => q2, fun _ => by omega, q3, by omega⟩
      · have a1 : ((rp : Int) == 1) = true := by rw [h]; rfl
        have a2 : ((rp : Int) == 2) = false := by rw [h]; rfl
        obtain ⟨z, pos1, e1, e2, e3⟩ := F49_eq hR (n + 1) (schD S) (pD P) kq pos (by omega)
        have b1 := Int.emod_nonneg z (by omega : (2 : Int) ≠ 0)
        have b2 := Int.emod_lt_of_pos z (by omega : (0 : Int) < 2)
        rw [a1, cond_true, e1, bd_some, F50_eq (n + 1) z 2 (by omega) (by omega) e2, bd_some, k3, a2, cond_false]
        obtain ⟨vs, pos', q1, q2, q3, q4⟩ := k4 (F33_L1 (schD S) (pD P) g (n + 1) kq R (F33 (n + 1)) m') (z % 2).toNat pos1 (by omega) (by omega)
        rw [show (((z % 2).toNat : Nat) : Int) = z % 2 by omega] at q1
        exact ⟨vs, pos', q1, by omega, fun _ => by omega, fun _ => by omega, q3, by omega⟩
      · have a1 : ((rp : Int) == 1) = false := by rw [h]; rfl
        have a2 : ((rp : Int) == 2) = true := by rw [h]; rfl
        obtain ⟨z, pos1, e1, e2, e3⟩ := F49_eq hR (n + 1) (schD S) (pD P) kq pos (by omega)
        have b1 := Int.emod_nonneg z (by omega : (4 : Int) ≠ 0)
        have b2 := Int.emod_lt_of_pos z (by omega : (0 : Int) < 4)
        rw [a1, cond_false, k3, a2, cond_true, e1, bd_some, F50_eq (n + 1) z 4 (by omega) (by omega) e2, bd_some]
        obtain ⟨vs, pos', q1, q2, q3, q4⟩ := k4 (F33_L1 (schD S) (pD P) g (n + 1) kq R (F33 (n + 1)) m') (z % 4).toNat pos1 (by omega) (by omega)
        rw [show (((z % 4).toNat : Nat) : Int) = z % 4 by omega] at q1
        exact ⟨vs, pos', q1, by omega, fun _ => by omega, fun _ => by omega, q3, by omega⟩
    obtain ⟨vs, pos1, n1, n2, n3, n4, n5, n6⟩ := fld (m + rs.size + ks.size)
    obtain ⟨ds, pos', r1, r2, r3⟩ := F33_eq hSP hs hR kq rs g (p + 1 + ks.size) (n + 1) gr hr (by omega) (by omega) m pos1 (es ++ [.lst vs.length (vs.flatMap vD)]) (by simp only [List.length_append, List.length_singleton]; omega) (by omega)
    refine ⟨.lst vs.length (vs.flatMap vD) :: ds, pos', ?_, ⟨vs, ds, rfl, n2, n3, n4, n5, r2⟩, by omega⟩
    rw [show m + (For.cons nm rp k ks rs).size = (m + rs.size + ks.size) + 1 by simp only [For.size]; omega, n1, F33_skip (P := P) (F33 (n + 1)) (n + 1) kq R g hSP hs (m + rs.size) _ _ _ ks.size (p + 1) (by omega) (fun q a b => hkn q a b)]
    rw [List.length_append, List.length_singleton] at r1
    rw [r1]
    simp only [List.append_assoc, List.singleton_append]

theorem F33_node (hSP : S.length = P.length) (hs : S.length < 100) (hR : Row R l) (kq : Bool) {nm : List UInt8} {rp k : Nat} {ks rs : For} {g : Int} {p n : Nat} (hG : For.Good (.cons nm rp k ks rs)) (hL : Loc S P g p (.cons nm rp k ks rs)) (hn : 1000 + ks.hgt ≤ n + 1) (pos : Nat) (hpos : pos + (1 + ks.cost) < 1000000000000) :
    ∃ (v : Vl) (pos' : Nat), F33 (n + 1) (p : Int) (schD S) (pD P) kq R (pos : Int) = some (v.1, v.2.1, v.2.2, (pos' : Int)) ∧ NodeV k ks v ∧ isSlD v.2.2 = true ∧ pos' ≤ pos + (1 + ks.cost) := by
  have hen := fun j => hL.end_ne (j := j)
  obtain ⟨h0, hS, hPg, hgp, hk, hr, _⟩ := hL
  obtain ⟨g1, g2, g3, g4, gk, gr⟩ := hG
  have hfit := hk.fits (by omega)
  have hlen2 := For.len_le ks
  have hf' : (S.getD p default).kind = k := by rw [hS]
  obtain ⟨z, pos1, e1, e2, e3⟩ := F49_eq hR n (schD S) (pD P) kq pos (by omega)
  obtain ⟨z1, z2⟩ := e2
  rw [F33, e1, bd_some, gd_in (sch_idx h0)]
  simp only [sch_cells, Int.toNat_natCast, getD_drop, intD_int, isI_int, List.length_drop, flds_len, and_true, fl2 h0, hf']
  rw [gd_in (by omega), gd_in (by omega)]
  have hkk : k = 0 ∨ k = 1 ∨ k = 2 ∨ k = 3 ∨ k = 4 := by omega
  rcases hkk with h | h | h | h | h
  · have a1 : ((k : Int) == 1) = false := by rw [h]; rfl
    have a2 : ((k : Int) == 2) = false := by rw [h]; rfl
    have a3 : ((k : Int) == 3) = false := by rw [h]; rfl
    have a4 : ((k : Int) == 4) = false := by rw [h]; rfl
    rw [a1, cond_false, a2, cond_false, a3, cond_false, a4, cond_false, wrap_i64 (by omega) (by omega)]
    obtain ⟨ds, pos', q1, q2, q3⟩ := F33_eq hSP hs hR kq ks p (p + 1) n gk hk (by omega) (by omega) (n - ks.size) pos1 [] (by simp only [List.length_nil]; omega) (by omega)
    rw [show n - ks.size + ks.size = n by omega, List.nil_append] at q1
    refine ⟨(0, [], .lst ds.length ds), pos', ?_, ⟨fun _ => ⟨rfl, rfl, ds, rfl, q2⟩, fun hne => absurd h hne⟩, rfl, by omega⟩
    have q1 : F33_L1 (schD S) (pD P) (p : Int) n kq R (F33 n) n ((p + 1 : Nat) : Int) (pos1 : Int) 0 [] = _ := q1
    rw [show ((p : Int) + 1) = ((p + 1 : Nat) : Int) by omega, q1]
    have := F33_skip (P := P) (F33 n) n kq R (p : Int) hSP hs (n - ks.size - (S.length - (p + 1 + ks.size))) (pos' : Int) ds.length ds (S.length - (p + 1 + ks.size)) (p + 1 + ks.size) (by omega) (fun q a b => hen q a (by omega))
    rw [show n - ks.size - (S.length - (p + 1 + ks.size)) + (S.length - (p + 1 + ks.size)) = n - ks.size by omega] at this
    rw [this, show p + 1 + ks.size + (S.length - (p + 1 + ks.size)) = S.length by omega]
    obtain ⟨m', hm'⟩ : ∃ k, n - ks.size - (S.length - (p + 1 + ks.size)) = k + 1 := ⟨n - ks.size - (S.length - (p + 1 + ks.size)) - 1, by omega⟩
    rw [hm', F33_end (P := P) (F33 n) n kq R (p : Int) hSP hs]
  · have a1 : ((k : Int) == 1) = true := by rw [h]; rfl
    have b1 := Int.emod_nonneg z (by omega : (2 : Int) ≠ 0)
    have b2 := Int.emod_lt_of_pos z (by omega : (0 : Int) < 2)
    rw [a1, cond_true, F50_eq n z 2 (by omega) (by omega) ⟨z1, z2⟩, bd_some]
    exact ⟨(z % 2, [], .nil), pos1, rfl, ⟨fun hne => by omega, fun _ => ⟨rfl, ⟨fun _ => ⟨by simp only; omega, by simp only; omega⟩, fun hne => by omega, fun hne => by omega, fun _ => rfl, by simp, ⟨by simp only; omega, by simp only; omega⟩⟩⟩⟩, rfl, by omega⟩
  · have a1 : ((k : Int) == 1) = false := by rw [h]; rfl
    have a2 : ((k : Int) == 2) = true := by rw [h]; rfl
    have b1 := Int.emod_nonneg z (by omega : (300 : Int) ≠ 0)
    have b2 := Int.emod_lt_of_pos z (by omega : (0 : Int) < 300)
    rw [a1, cond_false, a2, cond_true, F50_eq n z 300 (by omega) (by omega) ⟨z1, z2⟩, bd_some, wrap_i64 (by omega) (by omega)]
    exact ⟨(z % 300 - 100, [], .nil), pos1, rfl, ⟨fun hne => by omega, fun _ => ⟨rfl, ⟨fun hne => by omega, fun _ => ⟨by simp only; omega, by simp only; omega⟩, fun hne => by omega, fun _ => rfl, by simp, ⟨by simp only; omega, by simp only; omega⟩⟩⟩⟩, rfl, by omega⟩
  · have a1 : ((k : Int) == 1) = false := by rw [h]; rfl
    have a2 : ((k : Int) == 2) = false := by rw [h]; rfl
    have a3 : ((k : Int) == 3) = true := by rw [h]; rfl
    rw [a1, cond_false, a2, cond_false, a3, cond_true]
    exact ⟨(z, [], .nil), pos1, rfl, ⟨fun hne => by omega, fun _ => ⟨rfl, ⟨fun hne => by omega, fun hne => by omega, fun hne => by omega, fun _ => rfl, by simp, ⟨z1, z2⟩⟩⟩⟩, rfl, by omega⟩
  · have a1 : ((k : Int) == 1) = false := by rw [h]; rfl
    have a2 : ((k : Int) == 2) = false := by rw [h]; rfl
    have a3 : ((k : Int) == 3) = false := by rw [h]; rfl
    have a4 : ((k : Int) == 4) = true := by rw [h]; rfl
    have b1 := Int.emod_nonneg z (by omega : (9 : Int) ≠ 0)
    have b2 := Int.emod_lt_of_pos z (by omega : (0 : Int) < 9)
    rw [a1, cond_false, a2, cond_false, a3, cond_false, a4, cond_true, F50_eq n z 9 (by omega) (by omega) ⟨z1, z2⟩, bd_some, gd_in ⟨by omega, by omega, by simp only [List.length_cons, List.length_nil]; omega⟩]
    exact ⟨(0, _, .nil), pos1, rfl, ⟨fun hne => by omega, fun _ => ⟨rfl, ⟨fun hne => by omega, fun hne => by omega, fun _ => rfl, fun hne => by omega, letters_len _ b1 (by omega), ⟨by simp only; omega, by simp only; omega⟩⟩⟩⟩, rfl, by omega⟩
end
end Go.Proofs.Ytfhpoffgnpgagaa

namespace Go.Proofs.Ytfhpoffgnpgagaa
open Go Go.Proofs Go.Abs
set_option linter.unusedVariables false
set_option linter.unusedSimpArgs false

namespace For
def snoc : For → List UInt8 → Nat → Nat → For → For
  | nil, nm, r, k, ks => cons nm r k ks nil
  | cons a b c d e, nm, r, k, ks => cons a b c d (e.snoc nm r k ks)
theorem snoc_len : ∀ (F : For) (nm : List UInt8) (r k : Nat) (ks : For), (F.snoc nm r k ks).len = F.len + 1
  | nil, _, _, _, _ => rfl
  | cons _ _ _ _ e, _, _, _, _ => by simp only [snoc, len, snoc_len e]
theorem snoc_flat : ∀ (F : For) (nm : List UInt8) (r k : Nat) (ks : For), (F.snoc nm r k ks).flat = F.flat ++ ⟨nm, r, k, ks.len⟩ :: ks.flat
  | nil, _, _, _, _ => by simp [snoc, flat]
  | cons _ _ _ _ e, _, _, _, _ => by simp [snoc, flat, snoc_flat e]
theorem snoc_hgt : ∀ (F : For) (nm : List UInt8) (r k : Nat) (ks : For), (F.snoc nm r k ks).hgt = max F.hgt (ks.hgt + 1)
  | nil, _, _, _, _ => by simp only [snoc, hgt]; omega
  | cons _ _ _ _ e, _, _, _, _ => by simp only [snoc, hgt, snoc_hgt e]; omega
theorem snoc_good : ∀ (F : For) (nm : List UInt8) (r k : Nat) (ks : For), F.Good → r < 3 → k < 5 → (k = 0 → 0 < ks.len) → (k ≠ 0 → ks = nil) → ks.Good → (F.snoc nm r k ks).Good
  | nil, _, _, _, _, _, h1, h2, h3, h4, h5 => ⟨h1, h2, h3, h4, h5, trivial⟩
  | cons _ _ _ _ e, nm, r, k, ks, ⟨a, b, c, d, f, g⟩, h1, h2, h3, h4, h5 => ⟨a, b, c, d, f, snoc_good e nm r k ks g h1 h2 h3 h4 h5⟩
end For

/-- The open groups, the innermost first: name, how repeated, its fields so far. -/
abbrev Frs := List (List UInt8 × Nat × For)
def flatZ : Frs → Nat → List Fld
  | [], _ => []
  | x :: fs, c => flatZ fs 1 ++ ⟨x.1, x.2.1, 0, x.2.2.len + c⟩ :: x.2.2.flat
def plc : Frs → List Nat
  | [] => []
  | x :: fs => (flatZ fs 1).length :: plc fs
def FrI : Frs → Prop
  | [] => True
  | x :: fs => x.2.2.Good ∧ x.2.1 < 3 ∧ x.2.2.hgt + (fs.length + 1) ≤ 6 ∧ (fs = [] → x.2.1 = 0) ∧ FrI fs
theorem plc_len : ∀ (fs : Frs), (plc fs).length = fs.length
  | [] => rfl
  | _ :: fs => by simp only [plc, List.length_cons, plc_len fs]

theorem flatZ_pop (x y : List UInt8 × Nat × For) (fs : Frs) : flatZ (x :: y :: fs) 0 = flatZ ((y.1, y.2.1, y.2.2.snoc x.1 x.2.1 0 x.2.2) :: fs) 0 := by
  simp only [flatZ, For.snoc_flat, For.snoc_len, Nat.add_zero, List.append_assoc, List.cons_append]
theorem FrI_pop {x y : List UInt8 × Nat × For} {fs : Frs} (h : FrI (x :: y :: fs)) (hx : 0 < x.2.2.len) : FrI ((y.1, y.2.1, y.2.2.snoc x.1 x.2.1 0 x.2.2) :: fs) := by
  obtain ⟨a1, a2, a3, _, b1, b2, b3, b4, c⟩ := h
  refine ⟨For.snoc_good _ _ _ _ _ b1 a2 (by omega) (fun _ => hx) (fun h => absurd rfl h) a1, b2, ?_, b4, c⟩
  simp only [For.snoc_hgt]
  simp only [List.length_cons] at a3
  omega
theorem close_ok : ∀ (fs : Frs) (x : List UInt8 × Nat × For), FrI (x :: fs) → 0 < x.2.2.len → ∃ nm ks, flatZ (x :: fs) 0 = (For.cons nm 0 0 ks .nil).flat ∧ ks.Good ∧ 0 < ks.len ∧ ks.hgt ≤ 5
  | [], x, ⟨a1, a2, a3, a4, _⟩, hx => ⟨x.1, x.2.2, by simp [flatZ, For.flat, a4 rfl], a1, hx, by simp at a3; omega⟩
  | y :: fs, x, h, hx => by
    rw [flatZ_pop]
    exact close_ok fs _ (FrI_pop h hx) (by simp only [For.snoc_len]; omega)

/-- One more field in the innermost group. -/
theorem flatZ_set (x : List UInt8 × Nat × For) (fs : Frs) : (flatZ (x :: fs) 0).set (flatZ fs 1).length ⟨x.1, x.2.1, 0, x.2.2.len + 1⟩ = flatZ (x :: fs) 1 := by
  simp only [flatZ]
  rw [List.set_append_right _ _ (Nat.le_refl _), Nat.sub_self]; rfl
theorem flatZ_top (x : List UInt8 × Nat × For) (fs : Frs) (c : Nat) : (flatZ (x :: fs) c).getD (flatZ fs 1).length default = ⟨x.1, x.2.1, 0, x.2.2.len + c⟩ := by
  simp only [flatZ]
  rw [getD_app]; rfl
theorem flatZ_lt (x : List UInt8 × Nat × For) (fs : Frs) (c : Nat) : (flatZ fs 1).length < (flatZ (x :: fs) c).length := by
  simp only [flatZ, List.length_append, List.length_cons]; omega
theorem flatZ_leaf (x : List UInt8 × Nat × For) (fs : Frs) (nm : List UInt8) (r k : Nat) : flatZ (x :: fs) 1 ++ [⟨nm, r, k, 0⟩] = flatZ ((x.1, x.2.1, x.2.2.snoc nm r k .nil) :: fs) 0 := by
  simp only [flatZ, For.snoc_flat, For.snoc_len, Nat.add_zero, List.append_assoc, List.cons_append, For.flat, For.len]
theorem flatZ_group (x : List UInt8 × Nat × For) (fs : Frs) (nm : List UInt8) (r : Nat) : flatZ (x :: fs) 1 ++ [⟨nm, r, 0, 0⟩] = flatZ ((nm, r, .nil) :: x :: fs) 0 := by
  simp only [flatZ, Nat.add_zero, For.flat, For.len]
theorem FrI_leaf {x : List UInt8 × Nat × For} {fs : Frs} (h : FrI (x :: fs)) (nm : List UInt8) {r k : Nat} (hr : r < 3) (hk : k < 5) (hk0 : k ≠ 0) (hl : fs.length < 5) : FrI ((x.1, x.2.1, x.2.2.snoc nm r k .nil) :: fs) := by
  obtain ⟨a1, a2, a3, a4, c⟩ := h
  refine ⟨For.snoc_good _ _ _ _ _ a1 hr hk (fun h => absurd h hk0) (fun _ => rfl) trivial, a2, ?_, a4, c⟩
  simp only [For.snoc_hgt, For.hgt]; omega
theorem FrI_group {x : List UInt8 × Nat × For} {fs : Frs} (h : FrI (x :: fs)) (nm : List UInt8) {r : Nat} (hr : r < 3) (hl : fs.length < 4) : FrI ((nm, r, .nil) :: x :: fs) :=
  ⟨trivial, hr, by simp only [For.hgt, List.length_cons]; omega, fun h => (List.cons_ne_nil _ _ h).elim, h⟩

theorem setD_kids {L : List Fld} {i c : Nat} (h : i < L.length) : setD (L.flatMap fldD) (i * 4 + 3) [.int .i64 (c : Int)] = (L.set i ⟨(L.getD i default).name, (L.getD i default).rep, (L.getD i default).kind, c⟩).flatMap fldD := by
  have e : L = L.take i ++ L[i] :: L.drop (i + 1) := by rw [← List.drop_eq_getElem_cons h, List.take_append_drop]
  have eg : L.getD i default = L[i] := by rw [List.getD_eq_getElem?_getD, List.getElem?_eq_getElem h]; rfl
  rw [eg]
  have hs : ∀ x, L.set i x = L.take i ++ x :: L.drop (i + 1) := fun x => by rw [List.set_eq_take_append_cons_drop, if_pos h]
  have h1 : ((L.take i).flatMap fldD).length = i * 4 := by rw [flds_len, List.length_take, Nat.min_eq_left (Nat.le_of_lt h)]
  have e1 : L.flatMap fldD = ((L.take i).flatMap fldD ++ [.str L[i].name, .int .i64 L[i].rep, .int .i64 L[i].kind]) ++ (.int .i64 L[i].kids :: (L.drop (i + 1)).flatMap fldD) := by
    have := congrArg (fun q => List.flatMap fldD q) e
    simp only [List.flatMap_append, List.flatMap_cons] at this
    rw [this]; simp [fldD]
  have h2 : ((L.take i).flatMap fldD ++ [PD.str L[i].name, .int .i64 L[i].rep, .int .i64 L[i].kind]).length = i * 4 + 3 := by rw [List.length_append, h1]; rfl
  unfold setD
  rw [hs, e1, List.take_left' h2, ← List.drop_drop, List.drop_left' h2, List.flatMap_append, List.flatMap_cons]
  simp [fldD]

def opD (fs : Frs) : List PD := isD (natI (plc fs).reverse)
theorem opD_len {fs : Frs} : (opD fs).length = fs.length := by simp [opD, natI_lenD, plc_len]
theorem opD_cons {x : List UInt8 × Nat × For} {fs : Frs} : opD (x :: fs) = opD fs ++ [.int .i64 ((flatZ fs 1).length : Int)] := by simp [opD, plc, isD, natI, iD]
theorem opD_take {x : List UInt8 × Nat × For} {fs : Frs} : (opD (x :: fs)).take fs.length = opD fs := by rw [opD_cons, List.take_left' opD_len]
theorem opD_top {x : List UInt8 × Nat × For} {fs : Frs} : (opD (x :: fs)).getD fs.length .nil = .int .i64 ((flatZ fs 1).length : Int) := by rw [opD_cons, getD_last opD_len]

section
variable {R : PD} {l : List Int}
abbrev Lo6 := Nat → Nat → Int → List PD → List PD → Option PD

theorem F6_pop (hR : Row R l) (n : Nat) (lo1 : Lo6) (i : Int) (L : List Fld) (hL : L.length < 1000) : ∀ (u m : Nat) (x : List UInt8 × Nat × For) (fs : Frs), u < 1000 → u < m → FrI (x :: fs) → flatZ (x :: fs) 0 = L → fs.length < 5 →
    ∃ x' fs', FrI (x' :: fs') ∧ flatZ (x' :: fs') 0 = L ∧ fs'.length < 5 ∧ F6_L4 L.length (L.flatMap fldD) i R n lo1 m (fs.length + 1) (u : Int) (opD (x :: fs)) = F6_K5 (fs'.length + 1) (fun _ _ _ => none) 0 (opD (x' :: fs')) i R n L.length (L.flatMap fldD) lo1 false := by
  intro u
  induction u with
  | zero =>
    intro m x fs hu hm hI hZ hl
    obtain ⟨m, rfl⟩ : ∃ k, m = k + 1 := ⟨m - 1, by omega⟩
    refine ⟨x, fs, hI, hZ, hl, ?_⟩
    rw [F6_L4]
    have : decide ((0 : Int) < ((0 : Nat) : Int)) = false := rfl
    rw [this, cond_false]; rfl
  | succ u ih =>
    intro m x fs hu hm hI hZ hl
    obtain ⟨m, rfl⟩ : ∃ k, m = k + 1 := ⟨m - 1, by omega⟩
    rw [F6_L4]
    have : decide ((0 : Int) < ((u + 1 : Nat) : Int)) = true := decide_eq_true (by omega)
    rw [this, cond_true]
    cases fs with
    | nil => exact ⟨x, [], hI, hZ, hl, rfl⟩
    | cons y fs =>
      simp only [List.length_cons] at hl ⊢
      have h1 : decide ((1 : Int) < ((fs.length + 1 + 1 : Nat) : Int)) = true := decide_eq_true (by omega)
      have ew : IntKind.wrap .i64 (((fs.length + 1 + 1 : Nat) : Int) - 1) = ((fs.length + 1 : Nat) : Int) := by rw [wrap_i64 (by omega) (by omega)]; omega
      have ht : (opD (x :: y :: fs)).getD (fs.length + 1) .nil = .int .i64 ((flatZ (y :: fs) 1).length : Int) := opD_top (fs := y :: fs)
      have hlt : (flatZ (y :: fs) 1).length < L.length := by rw [← hZ]; exact flatZ_lt x (y :: fs) 0
      have hk : (L.getD (flatZ (y :: fs) 1).length default).kids = x.2.2.len := by rw [← hZ, flatZ_top]; rfl
      have hol : (opD (x :: y :: fs)).length = fs.length + 1 + 1 := by rw [opD_len]; rfl
      simp only [h1, cond_true, ew, Int.toNat_natCast, Nat.mul_one, ht, isI_int, intD_int, and_true, hol, flds_len, fl3 hlt, hk]
      rw [gd_in (by omega), gd_in (by omega), gd_in (by omega), gd_in (by omega)]
      by_cases hx : 0 < x.2.2.len
      · have : decide ((0 : Int) < (x.2.2.len : Int)) = true := decide_eq_true (by omega)
        rw [this]
        obtain ⟨x', fs', a1, a2, a3, a4⟩ := ih m (y.1, y.2.1, y.2.2.snoc x.1 x.2.1 0 x.2.2) fs (by omega) (by omega) (FrI_pop hI hx) (by rw [← flatZ_pop]; exact hZ) (by omega)
        refine ⟨x', fs', a1, a2, a3, ?_⟩
        rw [← a4]
        unfold F6_K5
        have htk : (opD (x :: y :: fs)).take (fs.length + 1) = opD (y :: fs) := opD_take (fs := y :: fs)
        simp only [cond_true, ew, Int.toNat_natCast, Nat.mul_one, htk]
        rw [gd_in (by omega), wrap_i64 (by omega) (by omega), show ((u + 1 : Nat) : Int) - 1 = (u : Int) by omega]
        have hop : opD (y :: fs) = opD ((y.1, y.2.1, y.2.2.snoc x.1 x.2.1 0 x.2.2) :: fs) := by rw [opD_cons, opD_cons]
        rw [hop]
      · have : decide ((0 : Int) < (x.2.2.len : Int)) = false := decide_eq_false (by omega)
        rw [this]
        exact ⟨x, y :: fs, hI, hZ, by simp only [List.length_cons]; omega, rfl⟩

theorem tdiv_in {a : Int} (h : inR a) (c : Nat) (hc : 0 < c) : inR (a.tdiv (c : Int)) := by
  obtain ⟨h1, h2⟩ := h
  have e : (a.tdiv (c : Int)).natAbs = a.natAbs / c := by rw [Int.natAbs_tdiv]; rfl
  have e2 : a.natAbs / c ≤ a.natAbs := Nat.div_le_self _ _
  rcases Nat.lt_or_ge 1 c with h | h
  · have : a.natAbs / c ≤ a.natAbs / 2 := Nat.div_le_div_left h (by omega)
    constructor <;> omega
  · have : c = 1 := by omega
    subst this
    have : a.tdiv ((1 : Nat) : Int) = a := Int.tdiv_one a
    rw [this]; exact ⟨h1, h2⟩

/-- One field is added. -/
theorem F6_K6_eq (n : Nat) (i : Int) (lo1 : Lo6) {L : List Fld} (hL : L.length < 100) {x : List UInt8 × Nat × For} {fs : Frs} (hI : FrI (x :: fs)) (hZ : flatZ (x :: fs) 0 = L) (hl : fs.length < 5) {r k : Nat} (hr : r < 3) (hk : k < 5) (hk0 : k = 0 → fs.length < 4) :
    ∃ x' fs', FrI (x' :: fs') ∧ (flatZ (x' :: fs') 0).length = L.length + 1 ∧ fs'.length < 5 ∧ F6_K6 (fs.length + 1) (opD (x :: fs)) L.length (L.flatMap fldD) lo1 i (r : Int) (k : Int) = lo1 (L.length + 1) (fs'.length + 1) (IntKind.wrap .i64 (i + 1)) ((flatZ (x' :: fs') 0).flatMap fldD) (opD (x' :: fs')) := by
  have ew : IntKind.wrap .i64 (((fs.length + 1 : Nat) : Int) - 1) = (fs.length : Int) := by rw [wrap_i64 (by omega) (by omega)]; omega
  have ew2 : IntKind.wrap .i64 (((L.length + 1 : Nat) : Int) - 1) = (L.length : Int) := by rw [wrap_i64 (by omega) (by omega)]; omega
  have hlt : (flatZ fs 1).length < L.length := by rw [← hZ]; exact flatZ_lt x fs 0
  have htop : L.getD (flatZ fs 1).length default = ⟨x.1, x.2.1, 0, x.2.2.len⟩ := by rw [← hZ, flatZ_top]; rfl
  have hk1 : (L.getD (flatZ fs 1).length default).kids = x.2.2.len := by rw [htop]
  have hol : (opD (x :: fs)).length = fs.length + 1 := by rw [opD_len]; rfl
  have hxl : x.2.2.len < 100 := by
    have h1 := For.len_le x.2.2
    have h2 := congrArg List.length hZ
    simp only [flatZ, List.length_append, List.length_cons, For.flat_len] at h2
    omega
  have hset : setD (L.flatMap fldD) ((flatZ fs 1).length * 4 + 3) [.int .i64 ((x.2.2.len : Int) + 1)] = (flatZ (x :: fs) 1).flatMap fldD := by
    rw [show ((x.2.2.len : Int) + 1) = ((x.2.2.len + 1 : Nat) : Int) by omega, setD_kids hlt, htop, ← flatZ_set, hZ]
  have hlen1 : (flatZ (x :: fs) 1).length = L.length := by rw [← flatZ_set, List.length_set, hZ]
  unfold F6_K6
  simp only [ew, Int.toNat_natCast, Nat.mul_one, opD_top, isI_int, intD_int, and_true, hol, flds_len, fl3 hlt, hk1]
  rw [gd_in (by omega), gd_in (by omega), gd_in (by omega), gd_in (by omega), gd_in (by omega), gd_in (by omega), wrap_i64 (show -9223372036854775808 ≤ (x.2.2.len : Int) + 1 by omega) (by omega)]
  simp only [hset, flds_len, hlen1]
  rw [gd_in ⟨ap_ok (by omega) (by omega), trivial⟩]
  generalize bytesD [PD.int .u8 (IntKind.wrap .u8 (IntKind.wrap .i64 (97 + i)))] = nm
  have happ : (flatZ (x :: fs) 1).flatMap fldD ++ [.str nm, .int .i64 (r : Int), .int .i64 (k : Int), .int .i64 0] = (flatZ (x :: fs) 1 ++ [(⟨nm, r, k, 0⟩ : Fld)]).flatMap fldD := by
    rw [List.flatMap_append]; rfl
  by_cases e : k = 0
  · have : ((k : Int) == 0) = true := by rw [e]; rfl
    rw [this, cond_true, gd_in (ap_ok (by omega) (by omega))]
    refine ⟨(nm, r, .nil), x :: fs, FrI_group hI nm hr (hk0 e), ?_, by simp only [List.length_cons]; have := hk0 e; omega, ?_⟩
    · rw [← flatZ_group, List.length_append, hlen1]; rfl
    · unfold F6_K3
      rw [happ, e, flatZ_group, opD_cons (x := (nm, r, For.nil)) (fs := x :: fs), hlen1]
      simp only [List.length_cons]
      have : IntKind.wrap .i64 ((L.length : Int) + 1 - 1) = (L.length : Int) := by rw [wrap_i64 (by omega) (by omega)]; omega
      rw [this]
  · have : ((k : Int) == 0) = false := by simp only [beq_eq_false_iff_ne, ne_eq]; omega
    rw [this, cond_false]
    refine ⟨(x.1, x.2.1, x.2.2.snoc nm r k .nil), fs, FrI_leaf hI nm hr hk e hl, ?_, hl, ?_⟩
    · rw [← flatZ_leaf, List.length_append, hlen1]; rfl
    · unfold F6_K3
      rw [happ, flatZ_leaf, opD_cons, opD_cons]

theorem F6_end (hR : Row R l) (n : Nat) (i : Int) (lo1 : Lo6) {L : List Fld} (hL : L.length < 99) {x : List UInt8 × Nat × For} {fs : Frs} (hI : FrI (x :: fs)) (hZ : flatZ (x :: fs) 0 = L) (hl : fs.length < 5) :
    ∃ nm ks, F6_K2 R i n L.length (L.flatMap fldD) lo1 (fs.length + 1) (opD (x :: fs)) false = some (schD (For.cons nm 0 0 ks .nil).flat) ∧ ks.Good ∧ 0 < ks.len ∧ ks.hgt ≤ 5 ∧ (For.cons nm 0 0 ks .nil).flat.length ≤ L.length + 1 := by
  have ew : IntKind.wrap .i64 (((fs.length + 1 : Nat) : Int) - 1) = (fs.length : Int) := by rw [wrap_i64 (by omega) (by omega)]; omega
  have hlt : (flatZ fs 1).length < L.length := by rw [← hZ]; exact flatZ_lt x fs 0
  have htop : L.getD (flatZ fs 1).length default = ⟨x.1, x.2.1, 0, x.2.2.len⟩ := by rw [← hZ, flatZ_top]; rfl
  have hk1 : (L.getD (flatZ fs 1).length default).kids = x.2.2.len := by rw [htop]
  have hol : (opD (x :: fs)).length = fs.length + 1 := by rw [opD_len]; rfl
  unfold F6_K2
  simp only [cond_false, ew, Int.toNat_natCast, Nat.mul_one, opD_top, isI_int, intD_int, and_true, hol, flds_len, fl3 hlt, hk1]
  rw [gd_in (by omega), gd_in (by omega), gd_in (by omega), gd_in (by omega)]
  by_cases hx : 0 < x.2.2.len
  · have : ((x.2.2.len : Int) == 0) = false := by simp only [beq_eq_false_iff_ne, ne_eq]; omega
    rw [this, cond_false]
    obtain ⟨nm, ks, c1, c2, c3, c4⟩ := close_ok fs x hI hx
    refine ⟨nm, ks, ?_, c2, c3, c4, by rw [← c1, hZ]; omega⟩
    unfold F6_K8
    rw [gd_in (by rw [flds_len]), ← c1, hZ]; rfl
  · have h0 : x.2.2.len = 0 := by omega
    have : ((x.2.2.len : Int) == 0) = true := by rw [h0]; rfl
    have hset : setD (L.flatMap fldD) ((flatZ fs 1).length * 4 + 3) [.int .i64 ((x.2.2.len : Int) + 1)] = (flatZ (x :: fs) 1).flatMap fldD := by
      rw [show ((x.2.2.len : Int) + 1) = ((x.2.2.len + 1 : Nat) : Int) by omega, setD_kids hlt, htop, ← flatZ_set, hZ]
    have hlen1 : (flatZ (x :: fs) 1).length = L.length := by rw [← flatZ_set, List.length_set, hZ]
    rw [this, cond_true, gd_in (by omega), gd_in (by omega), gd_in (by omega), gd_in (by omega), gd_in (by omega), gd_in (by omega), wrap_i64 (show -9223372036854775808 ≤ (x.2.2.len : Int) + 1 by omega) (by omega)]
    simp only [hset, flds_len, hlen1]
    rw [gd_in ⟨ap_ok (by omega) (by omega), trivial⟩]
    have happ : (flatZ (x :: fs) 1).flatMap fldD ++ [.str [122], .int .i64 0, .int .i64 4, .int .i64 0] = (flatZ (x :: fs) 1 ++ [(⟨[122], 0, 4, 0⟩ : Fld)]).flatMap fldD := by
      rw [List.flatMap_append]; rfl
    have hI' := FrI_leaf hI [122] (r := 0) (k := 4) (by omega) (by omega) (by omega) hl
    obtain ⟨nm, ks, c1, c2, c3, c4⟩ := close_ok fs _ hI' (by simp only [For.snoc_len]; omega)
    have hl2 : (flatZ ((x.1, x.2.1, x.2.2.snoc [122] 0 4 .nil) :: fs) 0).length = L.length + 1 := by rw [← flatZ_leaf, List.length_append, hlen1]; rfl
    refine ⟨nm, ks, ?_, c2, c3, c4, by rw [← c1, hl2]; exact Nat.le_refl _⟩
    rw [happ, flatZ_leaf]
    unfold F6_K8
    rw [gd_in (by rw [flds_len, hl2]), ← c1]
    unfold schD
    rw [hl2]

theorem F6_eq (hR : Row R l) (kq : Bool) {n : Nat} (hn : 1000 ≤ n) : ∃ nm ks, F6 n kq R = some (schD (For.cons nm 0 0 ks .nil).flat) ∧ ks.Good ∧ 0 < ks.len ∧ ks.hgt ≤ 5 ∧ (For.cons nm 0 0 ks .nil).flat.length ≤ 14 := by
  have key : ∀ (e i m : Nat) (x : List UInt8 × Nat × For) (fs : Frs), i + e = 12 → e < m → FrI (x :: fs) → (flatZ (x :: fs) 0).length = i + 1 → fs.length < 5 →
      ∃ nm ks, F6_L1 R n m (flatZ (x :: fs) 0).length (fs.length + 1) (i : Int) ((flatZ (x :: fs) 0).flatMap fldD) (opD (x :: fs)) = some (schD (For.cons nm 0 0 ks .nil).flat) ∧ ks.Good ∧ 0 < ks.len ∧ ks.hgt ≤ 5 ∧ (For.cons nm 0 0 ks .nil).flat.length ≤ 14 := by
    intro e
    induction e with
    | zero =>
      intro i m x fs hi hm hI hz hl
      obtain ⟨m, rfl⟩ : ∃ k, m = k + 1 := ⟨m - 1, by omega⟩
      rw [F6_L1, gd_in hR.sl]
      obtain ⟨nm, ks, c1, c2, c3, c4, c5⟩ := F6_end hR n (i : Int) (F6_L1 R n m) (by omega) hI rfl hl
      refine ⟨nm, ks, ?_, c2, c3, c4, by omega⟩
      have h12 : decide ((i : Int) < 12) = false := decide_eq_false (by omega)
      rw [h12]
      cases decide ((i : Int) < (lenN R : Int)) <;> exact c1
    | succ e ih =>
      intro i m x fs hi hm hI hz hl
      obtain ⟨m, rfl⟩ : ∃ k, m = k + 1 := ⟨m - 1, by omega⟩
      rw [F6_L1, gd_in hR.sl]
      have h12 : decide ((i : Int) < 12) = true := decide_eq_true (by omega)
      rw [h12]
      by_cases hil : i < l.length
      · have : decide ((i : Int) < (lenN R : Int)) = true := decide_eq_true (by rw [hR.len]; omega)
        rw [this, cond_true]
        have hz' := hR.inr _ (getD_mem hil)
        have q1 : inR ((l.getD i 0).tdiv 64) := tdiv_in hz' 64 (by omega)
        have q2 : inR ((l.getD i 0).tdiv 8) := tdiv_in hz' 8 (by omega)
        unfold F6_K2
        simp only [cond_true, hR.cells, Int.toNat_natCast, Nat.mul_one, getD_drop, Nat.add_zero, isD_at hil, isI_int, intD_int, List.length_drop, isD_length, and_true]
        generalize hzz : l.getD i 0 = z at hz' q1 q2 ⊢
        have b1 := Int.emod_nonneg (z.tdiv 64) (by omega : (3 : Int) ≠ 0)
        have b2 := Int.emod_lt_of_pos (z.tdiv 64) (by omega : (0 : Int) < 3)
        rw [gd_in (hR.idx i hil), gd_in (by omega), gd_in (by omega), wrap_i64 q1.1 q1.2, F14_eq n _ 3 (by omega) (by omega) q1, bd_some]
        obtain ⟨x1, fs1, p1, p2, p3, p4⟩ := F6_pop hR n (F6_L1 R n m) (i : Int) (flatZ (x :: fs) 0) (by omega) (z.tdiv 64 % 3).toNat n x fs (by omega) (by omega) hI rfl hl
        rw [show (((z.tdiv 64 % 3).toNat : Nat) : Int) = z.tdiv 64 % 3 by omega] at p4
        have p4 : F6_L4 (flatZ (x :: fs) 0).length ((flatZ (x :: fs) 0).flatMap fldD) (i : Int) R n (F6_L1 R n m) n (fs.length + 1) (z.tdiv 64 % 3) (opD (x :: fs)) = _ := p4
        rw [p4]
        unfold F6_K5
        have d1 := Int.emod_nonneg (z.tdiv 8) (by omega : (3 : Int) ≠ 0)
        have d2 := Int.emod_lt_of_pos (z.tdiv 8) (by omega : (0 : Int) < 3)
        have e1 := Int.emod_nonneg z (by omega : (8 : Int) ≠ 0)
        have e2 := Int.emod_lt_of_pos z (by omega : (0 : Int) < 8)
        simp only [cond_false, hR.cells, Int.toNat_natCast, Nat.mul_one, getD_drop, Nat.add_zero, isD_at hil, isI_int, intD_int, List.length_drop, isD_length, and_true, hzz]
        rw [gd_in (by simp [areU8, isI]), gd_in (hR.idx i hil), gd_in (by omega), gd_in (by omega), wrap_i64 q2.1 q2.2, F14_eq n _ 3 (by omega) (by omega) q2, bd_some, gd_in (hR.idx i hil), gd_in (by omega), F14_eq n z 8 (by omega) (by omega) hz', bd_some, gd_in (by omega)]
        have et : Int.tmod (z % 8) 5 = z % 8 % 5 := Int.tmod_eq_emod_of_nonneg e1
        rw [et]
        have fin : ∀ k : Nat, k < 5 → (k = 0 → fs1.length < 4) → ∃ nm ks, F6_K6 (fs1.length + 1) (opD (x1 :: fs1)) (flatZ (x :: fs) 0).length ((flatZ (x :: fs) 0).flatMap fldD) (F6_L1 R n m) (i : Int) (z.tdiv 8 % 3) (k : Int) = some (schD (For.cons nm 0 0 ks .nil).flat) ∧ ks.Good ∧ 0 < ks.len ∧ ks.hgt ≤ 5 ∧ (For.cons nm 0 0 ks .nil).flat.length ≤ 14 := by
          intro k hk hk0
          obtain ⟨x2, fs2, r1, r2, r3, r4⟩ := F6_K6_eq n (i : Int) (F6_L1 R n m) (by omega) p1 p2 p3 (r := (z.tdiv 8 % 3).toNat) (k := k) (by omega) hk hk0
          rw [show (((z.tdiv 8 % 3).toNat : Nat) : Int) = z.tdiv 8 % 3 by omega] at r4
          obtain ⟨nm, ks, s1, s2⟩ := ih (i + 1) m x2 fs2 (by omega) (by omega) r1 (by rw [r2]; omega) r3
          refine ⟨nm, ks, ?_, s2⟩
          rw [r4, wrap_i64 (by omega) (by omega), ← r2]
          exact s1
        have f1 : F6_K7 (fs1.length + 1) (opD (x1 :: fs1)) (flatZ (x :: fs) 0).length ((flatZ (x :: fs) 0).flatMap fldD) (F6_L1 R n m) (i : Int) (z.tdiv 8 % 3) (z % 8) true = F6_K6 (fs1.length + 1) (opD (x1 :: fs1)) (flatZ (x :: fs) 0).length ((flatZ (x :: fs) 0).flatMap fldD) (F6_L1 R n m) (i : Int) (z.tdiv 8 % 3) ((2 : Nat) : Int) := rfl
        have f2 : F6_K7 (fs1.length + 1) (opD (x1 :: fs1)) (flatZ (x :: fs) 0).length ((flatZ (x :: fs) 0).flatMap fldD) (F6_L1 R n m) (i : Int) (z.tdiv 8 % 3) (z % 8) false = F6_K6 (fs1.length + 1) (opD (x1 :: fs1)) (flatZ (x :: fs) 0).length ((flatZ (x :: fs) 0).flatMap fldD) (F6_L1 R n m) (i : Int) (z.tdiv 8 % 3) (((z % 8 % 5).toNat : Nat) : Int) := by
          unfold F6_K7
          rw [cond_false, et, show (((z % 8 % 5).toNat : Nat) : Int) = z % 8 % 5 by omega]
        by_cases h4 : 4 < fs1.length + 1
        · have : decide ((4 : Int) < ((fs1.length + 1 : Nat) : Int)) = true := decide_eq_true (by omega)
          rw [this, cond_true]
          by_cases h5 : z % 8 % 5 = 0
          · have : (z % 8 % 5 == 0) = true := by simpa using h5
            rw [this, f1]
            exact fin 2 (by omega) (fun h => by omega)
          · have : (z % 8 % 5 == 0) = false := by simpa using h5
            rw [this, f2]
            exact fin _ (by omega) (fun h => by omega)
        · have : decide ((4 : Int) < ((fs1.length + 1 : Nat) : Int)) = false := decide_eq_false (by omega)
          rw [this, cond_false, f2]
          exact fin _ (by omega) (fun h => by omega)
      · have : decide ((i : Int) < (lenN R : Int)) = false := decide_eq_false (by rw [hR.len]; omega)
        rw [this, cond_false]
        obtain ⟨nm, ks, c1, c2, c3, c4, c5⟩ := F6_end hR n (i : Int) (F6_L1 R n m) (by omega) hI rfl hl
        exact ⟨nm, ks, c1, c2, c3, c4, by omega⟩
  unfold F6
  exact key 12 0 n ([109], 0, .nil) [] rfl (by omega) ⟨trivial, by simp, by simp [For.hgt], fun _ => rfl, trivial⟩ rfl (by simp)
end
end Go.Proofs.Ytfhpoffgnpgagaa

namespace Go.Proofs.Ytfhpoffgnpgagaa
open Go Go.Proofs Go.Abs
set_option linter.unusedVariables false
set_option linter.unusedSimpArgs false

abbrev rootF (nm : List UInt8) (ks : For) : For := .cons nm 0 0 ks .nil
abbrev rootS (nm : List UInt8) (ks : For) : List Fld := (rootF nm ks).flat
abbrev rootP (nm : List UInt8) (ks : For) : List Int := For.par (-1) 0 (rootF nm ks)

theorem root_len {nm : List UInt8} {ks : For} : (rootS nm ks).length = 1 + ks.size := by rw [For.flat_len]; rfl
theorem rootP_len {nm : List UInt8} {ks : For} : (rootP nm ks).length = 1 + ks.size := by rw [For.par_len]; rfl
theorem root_good {nm : List UInt8} {ks : For} (hG : ks.Good) (hk : 0 < ks.len) : (rootF nm ks).Good := ⟨by omega, by omega, fun _ => hk, fun h => absurd rfl h, hG, trivial⟩
theorem root_ways {nm : List UInt8} {ks : For} : Ways (rootP nm ks) (wayOf (rootP nm ks)) := by
  refine ways_of fun j hj => ?_
  rw [rootP_len] at hj
  have hL := Loc_root (rootF nm ks)
  have hs : (rootF nm ks).size = 1 + ks.size := rfl
  have h1 : (rootP nm ks).getD j 0 = -1 ∨ ((0 : Nat) : Int) ≤ (rootP nm ks).getD j 0 := hL.par_in j (by omega) (by omega)
  have h2 := hL.lo j (by omega) (by omega)
  refine ⟨?_, h2⟩
  omega

theorem root_nL {nm : List UInt8} {ks : For} (hG : ks.Good) (hk : 0 < ks.len) : nL (rootS nm ks) = ks.lc := by
  have hL := Loc_root (rootF nm ks)
  have h1 := hL.lx_end (root_good hG hk)
  have hs : 0 + (rootF nm ks).size = (rootS nm ks).length := by rw [root_len, Nat.zero_add]; rfl
  rw [hs] at h1
  have h0 : lx (rootS nm ks) 0 = 0 := rfl
  unfold nL
  rw [h1, h0]
  simp only [For.lc, if_true]; omega
theorem root_sc {nm : List UInt8} {ks : For} (hs : (rootS nm ks).length < 100) (hG : ks.Good) (hk : 0 < ks.len) : Sc (rootS nm ks) (rootP nm ks) (wayOf (rootP nm ks)) :=
  ⟨root_ways, by rw [root_len, rootP_len], hs, by rw [root_nL hG hk]; exact For.lc_pos ks hG hk, fun n hn => F52_root hs hG hk hn, fun n hn => F48_root hs hG hk hn⟩

section
variable {S : List Fld} {P : List Int} {Wy : List (List Nat)}

def lnI (S : List Fld) (i : Nat) : List Int := (List.range i).map fun p => if (fat S p).kind = 0 then -1 else (lx S p : Int)
def lvI (S : List Fld) (Wy : List (List Nat)) (i : Nat) : List Int := (List.range i).map fun p => (cntR S (Wy.getD p []) : Int)
theorem lnI_len {i : Nat} : (lnI S i).length = i := by simp [lnI]
theorem lvI_len {i : Nat} : (lvI S Wy i).length = i := by simp [lvI]
theorem lnI_succ {i : Nat} : lnI S (i + 1) = lnI S i ++ [if (fat S i).kind = 0 then -1 else (lx S i : Int)] := by simp [lnI, List.range_succ]
theorem lvI_succ {i : Nat} : lvI S Wy (i + 1) = lvI S Wy i ++ [(cntR S (Wy.getD i []) : Int)] := by simp [lvI, List.range_succ]

theorem F17_L3_eq (hw : Ways P Wy) (hSP : S.length = P.length) (hs : S.length < 100) (n : Nat) (i : Nat) (hi : i < S.length) (lo1 : Int → Int → Nat → Nat → Nat → List PD → List PD → List PD → Option (PD × PD × Nat × Nat × Nat × List PD × List PD × List PD)) :
    ∀ (j acc m : Nat), j < S.length → j + 1 < m → acc + j ≤ 1000 →
      F17_L3 (schD S) (pD P) i (isD (lvI S Wy i)) i i (isD (lnI S i)) lo1 (lx S i : Int) (lx S i) (List.replicate (lx S i * 3) .nil) m (acc : Int) (j : Int) =
      F17_L3 (schD S) (pD P) i (isD (lvI S Wy i)) i i (isD (lnI S i)) lo1 (lx S i : Int) (lx S i) (List.replicate (lx S i * 3) .nil) 1 ((acc + cntR S (Wy.getD j []) : Nat) : Int) (-1) := by
  intro j
  induction j using Nat.strongRecOn with
  | _ j ih =>
    intro acc m hj hm hacc
    obtain ⟨m, rfl⟩ : ∃ k, m = k + 1 := ⟨m - 1, by omega⟩
    obtain ⟨l1, l2⟩ := hw.lo j (by omega)
    rw [F17_L3]
    have hc : decide ((0 : Int) ≤ (j : Int)) = true := decide_eq_true (by omega)
    rw [hc, cond_true, gd_in (sch_idx hj)]
    simp only [sch_cells, Int.toNat_natCast, getD_drop, intD_int, isI_int, List.length_drop, flds_len, and_true, fl1 hj]
    rw [gd_in (by omega), gd_in (by omega)]
    have k4 : ∀ a : Nat, a + (if P.getD j 0 < 0 then 0 else cntR S (Wy.getD (P.getD j 0).toNat [])) = acc + cntR S (Wy.getD j []) → a ≤ acc + 1 →
        F17_K4 (pD P) (j : Int) (F17_L3 (schD S) (pD P) i (isD (lvI S Wy i)) i i (isD (lnI S i)) lo1 (lx S i : Int) (lx S i) (List.replicate (lx S i * 3) .nil) m) (a : Int) = F17_L3 (schD S) (pD P) i (isD (lvI S Wy i)) i i (isD (lnI S i)) lo1 (lx S i : Int) (lx S i) (List.replicate (lx S i * 3) .nil) 1 ((acc + cntR S (Wy.getD j []) : Nat) : Int) (-1) := by
      intro a ha ha2
      unfold F17_K4
      rw [gd_in (p_idx (by omega))]
      simp only [p_cells, Int.toNat_natCast, getD_drop, intD_int, isI_int, List.length_drop, isD_length, and_true, Nat.mul_one, Nat.add_zero, isD_at (show j < P.length by omega)]
      rw [gd_in (by omega)]
      by_cases hp : P.getD j 0 < 0
      · rw [if_pos hp] at ha
        have : P.getD j 0 = -1 := by omega
        rw [this, show acc + cntR S (Wy.getD j []) = a by omega]
        obtain ⟨m', hm'⟩ : ∃ k, m = k + 1 := ⟨m - 1, by omega⟩
        have hc : decide ((0 : Int) ≤ -1) = false := rfl
        rw [hm', F17_L3, F17_L3]
        simp only [hc, cond_false]
      · rw [if_neg hp] at ha
        have h3 := ih (P.getD j 0).toNat (by omega) a m (by omega) (by omega) (by omega)
        rw [show (((P.getD j 0).toNat : Nat) : Int) = P.getD j 0 by omega] at h3
        rw [h3, ha]
    have hway : cntR S (Wy.getD j []) = (if P.getD j 0 < 0 then 0 else cntR S (Wy.getD (P.getD j 0).toNat [])) + (if (fat S j).rep = 2 then 1 else 0) := by
      rw [hw.way j (by omega), cntR_app, cntR_one]
      split <;> rfl
    by_cases h2 : (fat S j).rep = 2
    · have e : (((S.getD j default).rep : Int) == 2) = true := by
        have h2 : (S.getD j default).rep = 2 := h2
        rw [h2]; rfl
      rw [if_pos h2] at hway
      rw [e, cond_true, wrap_i64 (by omega) (by omega), show ((acc : Int) + 1) = ((acc + 1 : Nat) : Int) by omega]
      exact k4 (acc + 1) (by omega) (by omega)
    · have e : (((S.getD j default).rep : Int) == 2) = false := by
        have h2 : ¬ (S.getD j default).rep = 2 := h2
        simp only [beq_eq_false_iff_ne, ne_eq]; omega
      rw [if_neg h2] at hway
      rw [e, cond_false]
      exact k4 acc (by omega) (by omega)

theorem F17_eq (h : Sc S P Wy) {n : Nat} (hn : 1000 ≤ n) : F17 n (schD S) = some (schD S, pD P, S.length, S.length, nL S, isD (lnums S), isD (lvls S Wy), List.replicate (nL S * 3) .nil) := by
  have hs := h.hs
  have hps := h.hps
  have hw := h.hw
  have key : ∀ (e i m : Nat), i + e = S.length → e < m → F17_L1 (schD S) (pD P) n m (lx S i : Int) (i : Int) i i (lx S i) (isD (lnI S i)) (isD (lvI S Wy i)) (List.replicate (lx S i * 3) .nil) = some (schD S, pD P, S.length, S.length, nL S, isD (lnums S), isD (lvls S Wy), List.replicate (nL S * 3) .nil) := by
    intro e
    induction e with
    | zero =>
      intro i m hi hm
      obtain ⟨m, rfl⟩ : ∃ k, m = k + 1 := ⟨m - 1, by omega⟩
      have : i = S.length := by omega
      subst this
      rw [F17_L1, gd_in sch_isSl]
      have hc : decide ((S.length : Int) < (lenN (schD S) : Int)) = false := decide_eq_false (by rw [sch_len]; omega)
      rw [hc, cond_false]; rfl
    | succ e ih =>
      intro i m hi hm
      obtain ⟨m, rfl⟩ : ∃ k, m = k + 1 := ⟨m - 1, by omega⟩
      have hiS : i < S.length := by omega
      have hlx : lx S i ≤ S.length := Nat.le_trans (lplaces_len S i) (by omega)
      rw [F17_L1, gd_in sch_isSl]
      have hc : decide ((i : Int) < (lenN (schD S) : Int)) = true := decide_eq_true (by rw [sch_len]; omega)
      rw [hc, cond_true]
      have h3 := F17_L3_eq hw (by omega) hs n i hiS (F17_L1 (schD S) (pD P) n m) i 0 n hiS (by omega) (by omega)
      have h3 : F17_L3 (schD S) (pD P) i (isD (lvI S Wy i)) i i (isD (lnI S i)) (F17_L1 (schD S) (pD P) n m) (lx S i : Int) (lx S i) (List.replicate (lx S i * 3) .nil) n 0 (i : Int) = _ := h3
      rw [h3, F17_L3]
      have hc : decide ((0 : Int) ≤ -1) = false := rfl
      have hk : (S.getD i default).kind = (fat S i).kind := rfl
      simp only [hc, cond_false, gd_in (sch_idx hiS), sch_cells, Int.toNat_natCast, getD_drop, intD_int, isI_int, List.length_drop, flds_len, isD_length, lnI_len, lvI_len, List.length_replicate, and_true, fl2 hiS, hk, Nat.zero_add, Nat.mul_one]
      rw [gd_in (ap_ok (by omega) (by omega)), gd_in (by omega), gd_in (by omega), wrap_i64 (show -9223372036854775808 ≤ (lx S i : Int) + 1 by omega) (by omega)]
      have ev : isD (lvI S Wy i) ++ [.int .i64 (cntR S (Wy.getD i []) : Int)] = isD (lvI S Wy (i + 1)) := by rw [lvI_succ]; simp [isD, iD]
      have ih' := ih (i + 1) m (by omega) (by omega)
      rw [lx_succ] at ih'
      by_cases e0 : (fat S i).kind = 0
      · have : (((fat S i).kind : Int) == 0) = true := by rw [e0]; rfl
        rw [if_pos e0, Nat.add_zero] at ih'
        rw [this, cond_true, gd_in (ap_ok (by omega) (by omega))]
        unfold F17_K2
        have en : isD (lnI S i) ++ [.int .i64 (-1)] = isD (lnI S (i + 1)) := by rw [lnI_succ, if_pos e0]; simp [isD, iD]
        rw [en, ev, wrap_i64 (by omega) (by omega)]
        exact ih'
      · have : (((fat S i).kind : Int) == 0) = false := by simp only [beq_eq_false_iff_ne, ne_eq]; omega
        rw [if_neg e0] at ih'
        rw [this, cond_false, gd_in (ap_ok (by omega) (by omega)), gd_in (ap_ok (by omega) (by omega))]
        unfold F17_K2
        have en : isD (lnI S i) ++ [.int .i64 (lx S i : Int)] = isD (lnI S (i + 1)) := by rw [lnI_succ, if_neg e0]; simp [isD, iD]
        have er : List.replicate (lx S i * 3) PD.nil ++ [.nil, .nil, .nil] = List.replicate ((lx S i + 1) * 3) .nil := by
          rw [Nat.add_mul, Nat.one_mul, ← List.replicate_append_replicate]; rfl
        rw [en, ev, er, wrap_i64 (by omega) (by omega)]
        exact ih'
  unfold F17
  rw [h.f32 n hn, bd_some]
  have := key S.length 0 n (by omega) (by omega)
  rw [gd_in ⟨sch_isSl, rfl⟩, gd_in ⟨sch_isSl, rfl⟩]
  exact this
end
end Go.Proofs.Ytfhpoffgnpgagaa

namespace Go.Proofs.Ytfhpoffgnpgagaa
open Go Go.Proofs Go.Abs
set_option linter.unusedVariables false
set_option linter.unusedSimpArgs false

/-- Rows: slices of integers. -/
structure RowsI (d : PD) (c : Nat) : Prop where
  sl : isSlD d = true
  len : lenN d = c
  clen : (cellsD d).length = c
  idx : ∀ i : Nat, i < c → idxOK 1 d (i : Int)
  each : ∀ i : Nat, i < c → ∃ l, Row ((cellsD d).getD i .nil) l

theorem cost_le : ∀ F : For, F.cost ≤ 4 * F.size * 3 ^ F.hgt
  | .nil => Nat.le_refl _
  | .cons _ _ _ ks rs => by
    have h1 := cost_le ks
    have h2 := cost_le rs
    have p1 : 3 * 3 ^ ks.hgt ≤ 3 ^ (max (ks.hgt + 1) rs.hgt) := by rw [Nat.mul_comm, ← Nat.pow_succ]; exact Nat.pow_le_pow_right (by omega) (by omega)
    have p2 : 3 ^ rs.hgt ≤ 3 ^ (max (ks.hgt + 1) rs.hgt) := Nat.pow_le_pow_right (by omega) (by omega)
    have p0 : 0 < 3 ^ (max (ks.hgt + 1) rs.hgt) := Nat.pow_pos (by omega)
    simp only [For.cost, For.size, For.hgt]
    generalize 3 ^ (max (ks.hgt + 1) rs.hgt) = X at *
    have q1 : 4 * ks.size * (3 * 3 ^ ks.hgt) ≤ 4 * ks.size * X := Nat.mul_le_mul_left _ p1
    have q2 : 4 * rs.size * 3 ^ rs.hgt ≤ 4 * rs.size * X := Nat.mul_le_mul_left _ p2
    have q3 : 4 * ks.size * (3 * 3 ^ ks.hgt) = 3 * (4 * ks.size * 3 ^ ks.hgt) := by rw [Nat.mul_left_comm]
    have q4 : 4 * (1 + ks.size + rs.size) * X = 4 * X + 4 * ks.size * X + 4 * rs.size * X := by rw [Nat.mul_add, Nat.mul_add, Nat.add_mul, Nat.add_mul]
    omega

/-- A schema of the law: a tree within bounds. -/
structure Tree (nm : List UInt8) (ks : For) : Prop where
  good : ks.Good
  pos : 0 < ks.len
  hgt : ks.hgt ≤ 5
  small : (rootS nm ks).length ≤ 14

section
variable {nm : List UInt8} {ks : For}

theorem Tree.sc (t : Tree nm ks) : Sc (rootS nm ks) (rootP nm ks) (wayOf (rootP nm ks)) := root_sc (by have := t.small; omega) t.good t.pos
theorem Tree.size (t : Tree nm ks) : ks.size ≤ 13 := by have h := t.small; rw [root_len] at h; omega
theorem Tree.pw (t : Tree nm ks) : 3 ^ ks.hgt ≤ 243 := Nat.pow_le_pow_right (by omega) t.hgt
theorem Tree.cost (t : Tree nm ks) : ks.cost ≤ 100000 := by
  have h1 := cost_le ks
  have h2 := t.pw
  have h3 := t.size
  have h4 : 4 * ks.size * 3 ^ ks.hgt ≤ 52 * 243 := Nat.mul_le_mul (by omega) h2
  omega
theorem Tree.nL (t : Tree nm ks) : nL (rootS nm ks) ≤ 13 := by rw [root_nL t.good t.pos]; have := For.lc_le ks; have := t.size; omega

theorem F15_eq (t : Tree nm ks) {R : PD} {l : List Int} (hR : Row R l) (kq : Bool) {n : Nat} (hn : 2000 ≤ n) : ∃ v : Vl, F15 n (schD (rootS nm ks)) kq R = some (v.1, v.2.1, v.2.2) ∧ NodeV 0 ks v ∧ isSlD v.2.2 = true := by
  have hc := t.cost
  have hs := t.small
  have hh := t.hgt
  obtain ⟨n, rfl⟩ : ∃ k, n = k + 1 := ⟨n - 1, by omega⟩
  obtain ⟨v, pos', e1, e2, e3, e4⟩ := F33_node (S := rootS nm ks) (P := rootP nm ks) (by rw [root_len, rootP_len]) (by omega) hR kq (root_good t.good t.pos) (Loc_root (rootF nm ks)) (show 1000 + ks.hgt ≤ n + 1 by omega) 0 (by omega)
  refine ⟨v, ?_, e2, e3⟩
  have e1 : F33 (n + 1) 0 (schD (rootS nm ks)) (pD (rootP nm ks)) kq R 0 = some (v.1, v.2.1, v.2.2, (pos' : Int)) := e1
  unfold F15
  rw [t.sc.f32 (n + 1) (by omega), bd_some, gd_in ⟨sch_isSl, rfl, hR.sl⟩, gd_in ⟨sch_isSl, rfl, hR.sl⟩]
  have : PD.lst (rootP nm ks).length (isD (rootP nm ks)) = pD (rootP nm ks) := rfl
  rw [this, e1, bd_some, gd_in e3]

theorem F7_eq (t : Tree nm ks) {D : PD} {c : Nat} (hD : RowsI D c) (kq : Bool) {n : Nat} (hn : 2000 ≤ n) : ∃ vs : List Vl, F7 n (schD (rootS nm ks)) kq D = some (.lst vs.length (vs.flatMap vD)) ∧ vs.length ≤ 16 ∧ ∀ v ∈ vs, NodeV 0 ks v ∧ isSlD v.2.2 = true := by
  have fin : ∀ (vs : List Vl) (i : Int) (lo : Nat → Int → List PD → Option PD), F7_K2 D i n (schD (rootS nm ks)) kq vs.length (vs.flatMap vD) lo false = some (.lst vs.length (vs.flatMap vD)) := by
    intro vs i lo
    unfold F7_K2
    rw [cond_false, gd_in (by rw [vDs_len])]
  have key : ∀ (e i m : Nat) (vs : List Vl), i + e = 16 → e < m → vs.length = i → (∀ v ∈ vs, NodeV 0 ks v ∧ isSlD v.2.2 = true) →
      ∃ vs' : List Vl, F7_L1 D n (schD (rootS nm ks)) kq m vs.length (i : Int) (vs.flatMap vD) = some (.lst vs'.length (vs'.flatMap vD)) ∧ vs'.length ≤ 16 ∧ ∀ v ∈ vs', NodeV 0 ks v ∧ isSlD v.2.2 = true := by
    intro e
    induction e with
    | zero =>
      intro i m vs hi hm hv hq
      obtain ⟨m, rfl⟩ : ∃ k, m = k + 1 := ⟨m - 1, by omega⟩
      refine ⟨vs, ?_, by omega, hq⟩
      have h16 : decide ((i : Int) < 16) = false := decide_eq_false (by omega)
      rw [F7_L1, gd_in hD.sl, h16]
      cases decide ((i : Int) < (lenN D : Int)) <;> exact fin vs i (F7_L1 D n (schD (rootS nm ks)) kq m)
    | succ e ih =>
      intro i m vs hi hm hv hq
      obtain ⟨m, rfl⟩ : ∃ k, m = k + 1 := ⟨m - 1, by omega⟩
      by_cases hic : i < c
      · obtain ⟨l, hl⟩ := hD.each i hic
        obtain ⟨v, e1, e2, e3⟩ := F15_eq t hl kq hn
        obtain ⟨vs', q1, q2, q3⟩ := ih (i + 1) m (vs ++ [v]) (by omega) (by omega) (by simp [hv]) (fun w hw => by
          rcases List.mem_append.1 hw with h | h
          · exact hq w h
          · rw [List.mem_singleton] at h; subst h; exact ⟨e2, e3⟩)
        refine ⟨vs', ?_, q2, q3⟩
        have h16 : decide ((i : Int) < 16) = true := decide_eq_true (by omega)
        have hc : decide ((i : Int) < (lenN D : Int)) = true := decide_eq_true (by rw [hD.len]; omega)
        rw [F7_L1, gd_in hD.sl, hc, cond_true, h16]
        unfold F7_K2
        have hcl := hD.clen
        simp only [cond_true, Int.toNat_natCast, Nat.mul_one, getD_drop, Nat.add_zero, List.length_drop]
        rw [gd_in (hD.idx i hic), gd_in (by omega), e1, bd_some, gd_in e3, gd_in ⟨ap_ok (by omega) (by omega), by rw [vDs_len]⟩, wrap_i64 (by omega) (by omega)]
        have e5 : (vs ++ [v]).flatMap vD = vs.flatMap vD ++ vD v := by simp
        rw [e5, List.length_append, List.length_singleton] at q1
        exact q1
      · refine ⟨vs, ?_, by omega, hq⟩
        have hc : decide ((i : Int) < (lenN D : Int)) = false := decide_eq_false (by rw [hD.len]; omega)
        rw [F7_L1, gd_in hD.sl, hc, cond_false]
        exact fin vs i (F7_L1 D n (schD (rootS nm ks)) kq m)
  unfold F7
  exact key 16 0 n [] rfl (by omega) rfl (by simp)

theorem F16_eq (t : Tree nm ks) {v : Vl} (hv : NodeV 0 ks v) {n : Nat} (hn : 2000 ≤ n) : F16 n (schD (rootS nm ks)) v.1 v.2.1 v.2.2 = some 0 := by
  have hs := t.small
  have hh := t.hgt
  obtain ⟨n, rfl⟩ : ∃ k, n = k + 1 := ⟨n - 1, by omega⟩
  obtain ⟨e1, e2⟩ := F34_node (S := rootS nm ks) (P := rootP nm ks) t.sc.hw (by rw [root_len, rootP_len]) (by omega) (root_good t.good t.pos) (Loc_root (rootF nm ks)) (show 1000 + ks.hgt ≤ n + 1 by omega) hv
  have e2 : F34 (n + 1) (schD (rootS nm ks)) (pD (rootP nm ks)) 0 v.1 v.2.1 v.2.2 = some 0 := e2
  unfold F16
  rw [gd_in e1, t.sc.f32 (n + 1) (by omega), bd_some]
  have : PD.lst (rootP nm ks).length (isD (rootP nm ks)) = pD (rootP nm ks) := rfl
  rw [this, e2, bd_some]

/-- All that the records lay, one behind the other. -/
def catC (Es : List Cs) : Cs := fun j => Es.flatMap fun E => E j
theorem catC_snoc (Es : List Cs) (E : Cs) : catC (Es ++ [E]) = appC (catC Es) E := by funext j; simp [catC, appC]
theorem catC_len {Es : List Cs} {B : Nat} (h : ∀ E ∈ Es, ∀ j, (E j).length ≤ B) (j : Nat) : (catC Es j).length ≤ Es.length * B := by
  induction Es with
  | nil => simp [catC]
  | cons E Es ih =>
    have h1 := ih fun E' hE' => h E' (by simp [hE'])
    have h2 := h E (by simp) j
    simp only [catC, List.flatMap_cons, List.length_append, List.length_cons, Nat.add_mul, Nat.one_mul] at h1 ⊢
    omega

/-- What is told of the columns behind some records. -/
structure CR (nm : List UInt8) (ks : For) (Es : List Cs) (cols : List Col) : Prop where
  ci : CI (rootS nm ks) cols
  em : ∀ E ∈ Es, Em (rootS nm ks) (wayOf (rootP nm ks)) 0 (nL (rootS nm ks)) 0 0 243 E
  col : ∀ j, j < nL (rootS nm ks) → (cols.getD j default).r = natI (catC Es j)

theorem CR.bound {Es : List Cs} {cols : List Col} (h : CR nm ks Es cols) {j : Nat} (hj : j < nL (rootS nm ks)) : (cols.getD j default).r.length ≤ Es.length * 243 := by
  rw [h.col j hj, natI_len]
  exact catC_len (fun E hE j => (h.em E hE).len j) j

theorem rec_eq (t : Tree nm ks) {v : Vl} (hv : NodeV 0 ks v) {Es : List Cs} {cols : List Col} (h : CR nm ks Es cols) (hE : Es.length ≤ 16) {n : Nat} (hn : 2000 ≤ n) :
    ∃ E c1, F18 n 0 0 0 v.1 v.2.1 v.2.2 (schD (rootS nm ks)) (pD (rootP nm ks)) (lnD (rootS nm ks)) (lvD (rootS nm ks) (wayOf (rootP nm ks))) cols = some c1 ∧ CR nm ks (Es ++ [E]) c1 := by
  have hs := t.small
  have hh := t.hgt
  have hpw := t.pw
  have hsz := t.size
  have hSP : (rootS nm ks).length = (rootP nm ks).length := by rw [root_len, rootP_len]
  obtain ⟨n, rfl⟩ : ∃ k, n = k + 1 := ⟨n - 1, by omega⟩
  have hL := Loc_root (rootF nm ks)
  have hlast : lx (rootS nm ks) (0 + 1 + ks.size) = nL (rootS nm ks) := by unfold nL; rw [root_len]
  have hB : BN (lx (rootS nm ks) 0) (lx (rootS nm ks) (0 + 1 + ks.size)) 5000 cols := fun j a b => by
    rw [hlast] at b
    have := h.bound b
    omega
  obtain ⟨_, c1, e1, e2⟩ := F18_node (S := rootS nm ks) (P := rootP nm ks) t.sc.hw hSP (by omega) (root_good t.good t.pos) hL (show 1000 + ks.hgt ≤ n + 1 by omega) hv 0 5000 0 cols h.ci hB (by omega) (by omega)
  have hR : cntR (rootS nm ks) ((wayOf (rootP nm ks)).getD 0 []) = 0 := by
    have := cntR_wayG t.sc.hw hSP hL
    rw [this]; rfl
  rw [hlast, hR] at e2
  obtain ⟨⟨E, a1, m1⟩, ci⟩ := e2
  refine ⟨E, c1, e1, ci, fun E' hE' => ?_, fun j hj => ?_⟩
  · rcases List.mem_append.1 hE' with h' | h'
    · exact h.em E' h'
    · rw [List.mem_singleton] at h'; subst h'; exact m1.weak (Nat.le_refl _) hpw
  · rw [a1 j hj, h.col j hj, catC_snoc, ← natI_app]; rfl

theorem F8_L3_eq {Es : List Cs} {cols : List Col} (t : Tree nm ks) (h : CR nm ks Es cols) (hE : Es.length ≤ 16) (lo2 : Int → List Col → Option (PD × Int)) (x : Int) : ∀ (e i m : Nat), i + e = nL (rootS nm ks) → e < m → F8_L3 cols lo2 x m (i : Int) = lo2 (IntKind.wrap .i64 (x + 1)) cols := by
  have hn := t.nL
  have hl := h.ci.len
  intro e
  induction e with
  | zero =>
    intro i m hi hm
    obtain ⟨m, rfl⟩ : ∃ k, m = k + 1 := ⟨m - 1, by omega⟩
    rw [F8_L3]
    have hc : decide ((i : Int) < (cols.length : Int)) = false := decide_eq_false (by omega)
    rw [hc, cond_false]
  | succ e ih =>
    intro i m hi hm
    obtain ⟨m, rfl⟩ : ∃ k, m = k + 1 := ⟨m - 1, by omega⟩
    have := h.bound (show i < nL (rootS nm ks) by omega)
    rw [F8_L3]
    have hc : decide ((i : Int) < (cols.length : Int)) = true := decide_eq_true (by omega)
    have hc2 : decide ((4000 : Int) < ((cols.getD i default).r.length : Int)) = false := decide_eq_false (by omega)
    rw [hc, cond_true, gd_in (by omega), gd_in (by omega), Int.toNat_natCast, hc2, cond_false, wrap_i64 (by omega) (by omega)]
    exact ih (i + 1) m (by omega) (by omega)

theorem F8_eq (t : Tree nm ks) {vs : List Vl} (hvs : vs.length ≤ 16) (hq : ∀ v ∈ vs, NodeV 0 ks v ∧ isSlD v.2.2 = true) {n : Nat} (hn : 2000 ≤ n) :
    ∃ Es cols, F8 n (schD (rootS nm ks)) (.lst vs.length (vs.flatMap vD)) = some (.lst (nL (rootS nm ks)) (colsPD cols), 0) ∧ CR nm ks Es cols ∧ Es.length = vs.length := by
  have hnL := t.nL
  have hidx : ∀ i : Nat, i < vs.length → idxOK 3 (.lst vs.length (vs.flatMap vD)) (i : Int) := fun i hi => idx_lst (by omega) (by omega) (by rw [vDs_len]; simp only [Int.toNat_natCast]; omega)
  -- the records into the columns
  have lay : ∀ (e i m : Nat) (Es : List Cs) (cols : List Col), i + e = vs.length → e < m → CR nm ks Es cols → Es.length = i →
      ∃ Es' cols', F8_L2 (.lst vs.length (vs.flatMap vD)) n (schD (rootS nm ks), pD (rootP nm ks), (rootS nm ks).length, (rootS nm ks).length, nL (rootS nm ks), isD (lnums (rootS nm ks)), isD (lvls (rootS nm ks) (wayOf (rootP nm ks))), List.replicate (nL (rootS nm ks) * 3) .nil) m (i : Int) cols = some (.lst (nL (rootS nm ks)) (colsPD cols'), 0) ∧ CR nm ks Es' cols' ∧ Es'.length = vs.length := by
    intro e
    induction e with
    | zero =>
      intro i m Es cols hi hm hcr hE
      obtain ⟨m, rfl⟩ : ∃ k, m = k + 1 := ⟨m - 1, by omega⟩
      refine ⟨Es, cols, ?_, hcr, by omega⟩
      rw [F8_L2, gd_in isSlD_lst]
      have hc : decide ((i : Int) < (lenN (.lst vs.length (vs.flatMap vD)) : Int)) = false := decide_eq_false (by rw [lenN_lst]; omega)
      rw [hc, cond_false]
    | succ e ih =>
      intro i m Es cols hi hm hcr hE
      obtain ⟨m, rfl⟩ : ∃ k, m = k + 1 := ⟨m - 1, by omega⟩
      have hiv : i < vs.length := by omega
      obtain ⟨hv, hsl⟩ := hq vs[i] (List.getElem_mem hiv)
      obtain ⟨E, c1, e1, e2⟩ := rec_eq t hv hcr (by omega) hn
      obtain ⟨Es', cols', q1, q2, q3⟩ := ih (i + 1) m (Es ++ [E]) c1 (by omega) (by omega) e2 (by simp [hE])
      refine ⟨Es', cols', ?_, q2, q3⟩
      rw [F8_L2, gd_in isSlD_lst]
      have hc : decide ((i : Int) < (lenN (.lst vs.length (vs.flatMap vD)) : Int)) = true := decide_eq_true (by rw [lenN_lst]; omega)
      rw [hc, cond_true, gd_in (hidx i hiv)]
      simp only [cellsD_lst, Int.toNat_natCast, getD_drop, Nat.add_zero, v0 vs hiv, v1 vs hiv, v2 vs hiv, isI_int, isS_str, intD_int, strD_str, hsl, List.length_drop, vDs_len, and_true]
      rw [gd_in (by omega), gd_in (by omega)]
      have e1 : F18 n 0 0 0 vs[i].1 vs[i].2.1 vs[i].2.2 (schD (rootS nm ks)) (pD (rootP nm ks)) (.lst (rootS nm ks).length (isD (lnums (rootS nm ks)))) (.lst (rootS nm ks).length (isD (lvls (rootS nm ks) (wayOf (rootP nm ks))))) cols = some c1 := e1
      have h3 : ∀ lo2 x, F8_L3 c1 lo2 x n 0 = lo2 (IntKind.wrap .i64 (x + 1)) c1 := fun lo2 x => F8_L3_eq t e2 (by simp; omega) lo2 x (nL (rootS nm ks)) 0 n (by omega) (by omega)
      rw [e1, bd_some, h3, wrap_i64 (by omega) (by omega)]
      exact q1
  -- all fit
  have fit : ∀ (e i m : Nat), i + e = vs.length → e < m →
      ∃ Es' cols', F8_L1 (.lst vs.length (vs.flatMap vD)) n (schD (rootS nm ks)) m (i : Int) = some (.lst (nL (rootS nm ks)) (colsPD cols'), 0) ∧ CR nm ks Es' cols' ∧ Es'.length = vs.length := by
    intro e
    induction e with
    | zero =>
      intro i m hi hm
      obtain ⟨m, rfl⟩ : ∃ k, m = k + 1 := ⟨m - 1, by omega⟩
      have hcr : CR nm ks [] (List.replicate (nL (rootS nm ks)) default) := by
        have hg : ∀ j, (List.replicate (nL (rootS nm ks)) (default : Col)).getD j default = default := fun j => by
          rw [List.getD_eq_getElem?_getD, List.getElem?_replicate]; split <;> rfl
        exact ⟨⟨by simp, fun j _ => by rw [hg]; exact ⟨rfl, Nat.le_refl _⟩⟩, by simp, fun j _ => by rw [hg]; rfl⟩
      obtain ⟨Es', cols', q1, q2, q3⟩ := lay vs.length 0 n [] _ (by omega) (by omega) hcr rfl
      refine ⟨Es', cols', ?_, q2, q3⟩
      rw [F8_L1, gd_in isSlD_lst]
      have hc : decide ((i : Int) < (lenN (.lst vs.length (vs.flatMap vD)) : Int)) = false := decide_eq_false (by rw [lenN_lst]; omega)
      rw [hc, cond_false, F17_eq t.sc (by omega), bd_some, gd_in ⟨by rw [isD_length, lnums_len], by rw [isD_length, lvls_len], by simp [List.all_replicate, isNilD], by simp only [List.length_replicate]; omega⟩]
      exact q1
    | succ e ih =>
      intro i m hi hm
      obtain ⟨m, rfl⟩ : ∃ k, m = k + 1 := ⟨m - 1, by omega⟩
      have hiv : i < vs.length := by omega
      obtain ⟨hv, hsl⟩ := hq vs[i] (List.getElem_mem hiv)
      rw [F8_L1, gd_in isSlD_lst]
      have hc : decide ((i : Int) < (lenN (.lst vs.length (vs.flatMap vD)) : Int)) = true := decide_eq_true (by rw [lenN_lst]; omega)
      rw [hc, cond_true, gd_in (hidx i hiv)]
      simp only [cellsD_lst, Int.toNat_natCast, getD_drop, Nat.add_zero, v0 vs hiv, v1 vs hiv, v2 vs hiv, isI_int, isS_str, intD_int, strD_str, hsl, List.length_drop, vDs_len, and_true]
      rw [gd_in (by omega), gd_in (by omega), F16_eq t hv hn, bd_some]
      have : ((0 : Int) != 0) = false := rfl
      rw [this, cond_false, wrap_i64 (by omega) (by omega)]
      exact ih (i + 1) m (by omega) (by omega)
  unfold F8
  have hc : decide ((200 : Int) < (lenN (.lst vs.length (vs.flatMap vD)) : Int)) = false := decide_eq_false (by rw [lenN_lst]; omega)
  rw [gd_in isSlD_lst, hc, cond_false]
  exact fit vs.length 0 n (by omega) (by omega)
end
end Go.Proofs.Ytfhpoffgnpgagaa

namespace Go.Proofs.Ytfhpoffgnpgagaa
open Go Go.Proofs Go.Abs
set_option linter.unusedVariables false
set_option linter.unusedSimpArgs false

theorem colPD_len (c : Col) : (colPD c).length = 3 := rfl
theorem col_at {cols : List Col} {i : Nat} (h : i < cols.length) : (colsPD cols).getD (i * 3) .nil = .lst (cols.getD i default).r.length (isD (cols.getD i default).r) := flat_at colPD 3 colPD_len (o := 0) h (by omega)
theorem cols_len {cols : List Col} : (colsPD cols).length = cols.length * 3 := flat_length colPD 3 colPD_len cols

/-- How many cells of each column are read. -/
def cD (L : Nat) (pre : Cs) : List PD := isD ((List.range L).map fun j => ((pre j).length : Int))
theorem cD_len {L : Nat} {pre : Cs} : (cD L pre).length = L := by simp [cD, isD_length]
theorem cD_at {L i : Nat} {pre : Cs} (h : i < L) : (cD L pre).getD i .nil = .int .i64 ((pre i).length : Int) := by
  unfold cD
  rw [isD_at (by simpa using h), List.getD_eq_getElem?_getD, List.getElem?_map, List.getElem?_range h]; rfl
theorem cD_set {L i : Nat} {pre : Cs} (x : Nat) (h : i < L) : setD (cD L pre) i [.int .i64 (((pre i).length : Int) + 1)] = cD L (updC pre i (pre i ++ [x])) := by
  unfold cD
  rw [setD_isD (by simpa using h)]
  congr 1
  apply List.ext_getElem?
  intro j
  by_cases hj : j < L
  · by_cases e : j = i
    · subst e
      rw [List.getElem?_set_self (by simpa using hj), List.getElem?_map, List.getElem?_range hj]
      simp [updC]
    · rw [List.getElem?_set_ne (Ne.symm e), List.getElem?_map, List.getElem?_map, List.getElem?_range hj]
      simp [updC, e]
  · rw [List.getElem?_eq_none (by simp; omega), List.getElem?_eq_none (by simp; omega)]

section
variable {nm : List UInt8} {ks : For}

def nxD (S : List Fld) (Wy : List (List Nat)) : PD := .lst (nL S) ((List.range (nL S)).map (nxRow S Wy))
theorem nxD_at {S : List Fld} {Wy : List (List Nat)} {i : Nat} (h : i < nL S) : ((List.range (nL S)).map (nxRow S Wy)).getD i .nil = nxRow S Wy i := by
  rw [List.getD_eq_getElem?_getD, List.getElem?_map, List.getElem?_range h]; rfl
theorem nxRow_at {S : List Fld} {Wy : List (List Nat)} {i r : Nat} (h : r ≤ Rl S Wy i) : (isD (natI ((List.range ((leafOf S Wy (lp S i)).r + 1)).map (nx S Wy i)))).getD r .nil = .int .i64 (nx S Wy i r : Int) := by
  have h' : r < (leafOf S Wy (lp S i)).r + 1 := by have : Rl S Wy i = (leafOf S Wy (lp S i)).r := rfl
                                                   omega
  rw [natI_at (by simpa using h'), List.getD_eq_getElem?_getD, List.getElem?_map, List.getElem?_range h']; rfl

/-- One step of the walk. -/
theorem F3_step (t : Tree nm ks) {Es : List Cs} {cols : List Col} (hcr : CR nm ks Es cols) (hE : Es.length ≤ 16) (lo1 : Int → List PD → Option Bool) (x39 : Int) {i x : Nat} {tl : List Nat} (hi : i < nL (rootS nm ks)) {pre : Cs} (hp : catC Es i = pre i ++ x :: tl) (hr : hd0 tl ≤ Rl (rootS nm ks) (wayOf (rootP nm ks)) i) {st : Nat} (hst : st < 4000) (m : Nat) :
    F3_L2 (.lst (nL (rootS nm ks)) (colsPD cols), 0) (nxD (rootS nm ks) (wayOf (rootP nm ks))) lo1 x39 (m + 1) (i : Int) (st : Int) (cD (nL (rootS nm ks)) pre) =
    F3_L2 (.lst (nL (rootS nm ks)) (colsPD cols), 0) (nxD (rootS nm ks) (wayOf (rootP nm ks))) lo1 x39 m (nx (rootS nm ks) (wayOf (rootP nm ks)) i (hd0 tl) : Int) ((st + 1 : Nat) : Int) (cD (nL (rootS nm ks)) (updC pre i (pre i ++ [x]))) := by
  have hb := hcr.bound hi
  have hcol := hcr.col i hi
  have hl := hcr.ci.len
  have hnL := t.nL
  generalize wayOf (rootP nm ks) = Wy at *
  generalize hS : rootS nm ks = S at *
  have hlenc : (cols.getD i default).r.length = (pre i).length + tl.length + 1 := by rw [hcol, natI_len, hp]; simp; omega
  have hic : i < cols.length := by omega
  have hrl : ((leafOf S Wy (lp S i)).r : Int) = (Rl S Wy i : Int) := rfl
  rw [F3_L2, gd_in isSlD_lst]
  have a1 : decide ((i : Int) < (lenN ((PD.lst (nL S) (colsPD cols), (0 : Int)) : PD × Int).1 : Int)) = true := decide_eq_true (by simp only [lenN_lst]; omega)
  rw [a1, cond_true]
  have a2 : decide ((i : Int) < 0) = false := decide_eq_false (by omega)
  have a3 : decide ((4000 : Int) < (st : Int)) = false := decide_eq_false (by omega)
  have a4 : decide (((cols.getD i default).r.length : Int) ≤ ((pre i).length : Int)) = false := decide_eq_false (by omega)
  have hidx : idxOK 3 (.lst (nL S) (colsPD cols)) (i : Int) := idx_lst (by omega) (by omega) (by rw [cols_len]; simp only [Int.toNat_natCast]; omega)
  simp only [isSlD_lst, lenN_lst, cellsD_lst, a2, a3, cond_true, cond_false, Int.toNat_natCast, Nat.mul_one, cD_at hi, isI_int, intD_int, cD_len, getD_drop, Nat.add_zero, Nat.zero_add, List.drop_zero, List.length_drop, cols_len, col_at hic, and_true, gd_in hidx, a4]
  rw [gd_in (by omega), gd_in (by omega), gd_in (Nat.zero_le _), gd_in (by omega), gd_in trivial]
  unfold F3_K3
  have hw : IntKind.wrap .i64 (((pre i).length : Int) + 1) = ((pre i).length : Int) + 1 := wrap_i64 (by omega) (by omega)
  have hcat : ((updC pre i (pre i ++ [x])) i).length = (pre i).length + 1 := by simp [updC]
  simp only [isSlD_lst, lenN_lst, cellsD_lst, cond_false, Int.toNat_natCast, Nat.mul_one, cD_at hi, isI_int, intD_int, cD_len, getD_drop, Nat.add_zero, Nat.zero_add, List.drop_zero, List.length_drop, cols_len, col_at hic, and_true, gd_in hidx, hw, cD_set x hi, hcat]
  rw [gd_in (by omega), gd_in (by omega), gd_in (by omega), gd_in (by omega), gd_in (by omega), gd_in (by omega), gd_in (Nat.zero_le _), gd_in (by omega), gd_in trivial]
  -- where it goes on
  have k4 : F3_K4 (nxD S Wy) (i : Int) (F3_L2 (.lst (nL S) (colsPD cols), 0) (nxD S Wy) lo1 x39 m) (st : Int) (cD (nL S) pre) (hd0 tl : Int) = F3_L2 (.lst (nL S) (colsPD cols), 0) (nxD S Wy) lo1 x39 m (nx S Wy i (hd0 tl) : Int) ((st + 1 : Nat) : Int) (cD (nL S) (updC pre i (pre i ++ [x]))) := by
    have hidx2 : idxOK 1 (nxD S Wy) (i : Int) := idx_lst (by omega) (by omega) (by simp only [Int.toNat_natCast, List.length_map, List.length_range]; omega)
    have hcl : cellsD (nxD S Wy) = (List.range (nL S)).map (nxRow S Wy) := rfl
    have hrow : nxRow S Wy i = .lst ((leafOf S Wy (lp S i)).r + 1) (isD (natI ((List.range ((leafOf S Wy (lp S i)).r + 1)).map (nx S Wy i)))) := rfl
    have hidx3 : idxOK 1 (.lst ((leafOf S Wy (lp S i)).r + 1) (isD (natI ((List.range ((leafOf S Wy (lp S i)).r + 1)).map (nx S Wy i))))) (hd0 tl : Int) := idx_lst (by omega) (by omega) (by rw [natI_lenD]; simp only [Int.toNat_natCast, List.length_map, List.length_range]; omega)
    have a5 : decide ((((leafOf S Wy (lp S i)).r + 1 : Nat) : Int) ≤ (hd0 tl : Int)) = false := decide_eq_false (by omega)
    unfold F3_K4
    simp only [hcl, isSlD_lst, lenN_lst, cellsD_lst, Int.toNat_natCast, Nat.mul_one, getD_drop, Nat.add_zero, List.length_drop, List.length_map, List.length_range, nxD_at hi, hrow, nxRow_at hr, isI_int, intD_int, and_true, gd_in hidx2, gd_in hidx3, a5, cond_false, natI_lenD, cD_at hi, hw, cD_set x hi]
    rw [gd_in (by omega), gd_in trivial, gd_in (by omega), gd_in (by omega), wrap_i64 (by omega) (by omega)]; rfl
  by_cases htl : tl = []
  · subst htl
    have a5 : decide (((((pre i).length + 1 : Nat) : Int)) < ((cols.getD i default).r.length : Int)) = false := decide_eq_false (by rw [hlenc]; simp)
    rw [a5, cond_false]
    exact k4
  · have htl2 : 0 < tl.length := List.length_pos_iff.2 htl
    have a5 : decide (((((pre i).length + 1 : Nat) : Int)) < ((cols.getD i default).r.length : Int)) = true := decide_eq_true (by omega)
    have hidx4 : idxOK 1 (.lst (cols.getD i default).r.length (isD (cols.getD i default).r)) (((pre i).length + 1 : Nat) : Int) := idx_lst (by omega) (by omega) (by rw [isD_length]; simp only [Int.toNat_natCast]; omega)
    have hval : (isD (cols.getD i default).r).getD ((pre i).length + 1) .nil = .int .i64 (hd0 tl : Int) := by
      rw [isD_at (by omega), hcol, hp]
      congr 1
      cases tl with
      | nil => exact absurd rfl htl
      | cons y tl =>
        have : natI (pre i ++ x :: y :: tl) = natI (pre i ++ [x]) ++ (y : Int) :: natI tl := by simp [natI]
        have hl2 : (natI (pre i ++ [x])).length = (pre i).length + 1 := by rw [natI_len]; simp
        rw [this, ← hl2, getD_app]; rfl
    rw [a5, cond_true]
    simp only [gd_in hidx4, Int.toNat_natCast, hval, isI_int, intD_int, isD_length, and_true, Nat.mul_one]
    rw [gd_in (Nat.zero_le _), gd_in (by omega), gd_in (by omega), gd_in (by omega), gd_in (by omega)]
    exact k4

theorem F3_run (t : Tree nm ks) {Es : List Cs} {cols : List Col} (hcr : CR nm ks Es cols) (hE : Es.length ≤ 16) (lo1 : Int → List PD → Option Bool) (x39 : Int) (m : Nat) {k i : Nat} {c : Cs} {j : Nat} {c' : Cs} (hrun : Run (rootS nm ks) (wayOf (rootP nm ks)) k i c j c') :
    ∀ (pre : Cs) (st : Nat), (∀ q, q < nL (rootS nm ks) → catC Es q = pre q ++ c q) → st + k ≤ 4000 →
      ∃ pre', F3_L2 (.lst (nL (rootS nm ks)) (colsPD cols), 0) (nxD (rootS nm ks) (wayOf (rootP nm ks))) lo1 x39 (m + k) (i : Int) (st : Int) (cD (nL (rootS nm ks)) pre) =
        F3_L2 (.lst (nL (rootS nm ks)) (colsPD cols), 0) (nxD (rootS nm ks) (wayOf (rootP nm ks))) lo1 x39 m (j : Int) ((st + k : Nat) : Int) (cD (nL (rootS nm ks)) pre') ∧ ∀ q, q < nL (rootS nm ks) → catC Es q = pre' q ++ c' q := by
  induction hrun with
  | done i c => intro pre st hp hst; exact ⟨pre, rfl, hp⟩
  | step i c x tl k j c' h1 h2 h3 _ ih =>
    intro pre st hp hst
    have hpi := hp i h1
    rw [h2] at hpi
    obtain ⟨pre', e1, e2⟩ := ih (updC pre i (pre i ++ [x])) (st + 1) (fun q hq => by
      unfold updC
      by_cases e : q = i
      · subst e; simp [hpi]
      · rw [if_neg e, if_neg e]; exact hp q hq) (by omega)
    refine ⟨pre', ?_, e2⟩
    rw [show m + (k + 1) = (m + k) + 1 by omega, F3_step t hcr hE lo1 x39 h1 hpi h3 (by omega) (m + k), e1, show st + 1 + k = st + (k + 1) by omega]

theorem F3_L5_eq (t : Tree nm ks) {Es : List Cs} {cols : List Col} (hcr : CR nm ks Es cols) {pre : Cs} (hp : ∀ q, q < nL (rootS nm ks) → catC Es q = pre q) : ∀ (e i m : Nat), i + e = nL (rootS nm ks) → e < m →
    F3_L5 (.lst (nL (rootS nm ks)) (colsPD cols), 0) (cD (nL (rootS nm ks)) pre) m (i : Int) = some true := by
  have hnL := t.nL
  have hl := hcr.ci.len
  intro e
  induction e with
  | zero =>
    intro i m hi hm
    obtain ⟨m, rfl⟩ : ∃ k, m = k + 1 := ⟨m - 1, by omega⟩
    rw [F3_L5, gd_in isSlD_lst]
    have a1 : decide ((i : Int) < (lenN ((PD.lst (nL (rootS nm ks)) (colsPD cols), (0 : Int)) : PD × Int).1 : Int)) = false := decide_eq_false (by simp only [lenN_lst]; omega)
    rw [a1, cond_false]
  | succ e ih =>
    intro i m hi hm
    obtain ⟨m, rfl⟩ : ∃ k, m = k + 1 := ⟨m - 1, by omega⟩
    have hiL : i < nL (rootS nm ks) := by omega
    have hic : i < cols.length := by omega
    have hlenc : (cols.getD i default).r.length = (pre i).length := by rw [hcr.col i hiL, natI_len, hp i hiL]
    rw [F3_L5, gd_in isSlD_lst]
    have a1 : decide ((i : Int) < (lenN ((PD.lst (nL (rootS nm ks)) (colsPD cols), (0 : Int)) : PD × Int).1 : Int)) = true := decide_eq_true (by simp only [lenN_lst]; omega)
    rw [a1, cond_true]
    have hidx : idxOK 3 (.lst (nL (rootS nm ks)) (colsPD cols)) (i : Int) := idx_lst (by omega) (by omega) (by rw [cols_len]; simp only [Int.toNat_natCast]; omega)
    have a2 : (((pre i).length : Int) != ((cols.getD i default).r.length : Int)) = false := by rw [hlenc]; simp
    simp only [isSlD_lst, lenN_lst, cellsD_lst, Int.toNat_natCast, Nat.mul_one, cD_at hiL, isI_int, intD_int, cD_len, getD_drop, Nat.add_zero, Nat.zero_add, List.drop_zero, List.length_drop, cols_len, col_at hic, and_true, gd_in hidx, a2, cond_false]
    rw [gd_in (by omega), gd_in (by omega), gd_in (Nat.zero_le _), gd_in (by omega), gd_in trivial, wrap_i64 (by omega) (by omega)]
    exact ih (i + 1) m (by omega) (by omega)

theorem nx_last {S : List Fld} {Wy : List (List Nat)} (i : Nat) : nx S Wy i 0 = i + 1 := by
  unfold nx; rw [if_pos (Nat.zero_le _)]

theorem F3_L1_eq (t : Tree nm ks) {Es : List Cs} {cols : List Col} (hcr : CR nm ks Es cols) {vs : List Vl} (hE : Es.length = vs.length) (h16 : vs.length ≤ 16) {n : Nat} (hn : 5000 ≤ n) :
    ∀ (e i m : Nat) (pre : Cs), i + e = vs.length → e < m → (∀ q, q < nL (rootS nm ks) → catC Es q = pre q ++ catC (Es.drop i) q) →
      F3_L1 (.lst vs.length (vs.flatMap vD)) (.lst (nL (rootS nm ks)) (colsPD cols), 0) (nxD (rootS nm ks) (wayOf (rootP nm ks))) n m (i : Int) (cD (nL (rootS nm ks)) pre) = some true := by
  have hnL := t.nL
  have hpos := t.sc.hl
  intro e
  induction e with
  | zero =>
    intro i m pre hi hm hp
    obtain ⟨m, rfl⟩ : ∃ k, m = k + 1 := ⟨m - 1, by omega⟩
    rw [F3_L1, gd_in isSlD_lst]
    have a1 : decide ((i : Int) < (lenN (.lst vs.length (vs.flatMap vD)) : Int)) = false := decide_eq_false (by rw [lenN_lst]; omega)
    rw [a1, cond_false]
    refine F3_L5_eq t hcr (fun q hq => ?_) (nL (rootS nm ks)) 0 n (by omega) (by omega)
    rw [hp q hq, List.drop_eq_nil_of_le (by omega)]; simp [catC]
  | succ e ih =>
    intro i m pre hi hm hp
    obtain ⟨m, rfl⟩ : ∃ k, m = k + 1 := ⟨m - 1, by omega⟩
    have hiE : i < Es.length := by omega
    have hem := hcr.em Es[i] (List.getElem_mem hiE)
    have hdrop : catC (Es.drop i) = appC Es[i] (catC (Es.drop (i + 1))) := by
      rw [List.drop_eq_getElem_cons hiE]; rfl
    obtain ⟨k, hk, hrun⟩ := hem.run (catC (Es.drop (i + 1))) 0 (Nat.le_refl _) fun j _ hj => by
      rcases Nat.lt_or_ge (i + 1) Es.length with h | h
      · have h2 := hcr.em Es[i + 1] (List.getElem_mem h)
        obtain ⟨tl, htl⟩ := h2.hd j (by omega) hj
        rw [List.drop_eq_getElem_cons h]
        simp only [catC, List.flatMap_cons, htl]; rfl
      · rw [List.drop_eq_nil_of_le h]; rfl
    rw [nx_last, show nL (rootS nm ks) - 1 + 1 = nL (rootS nm ks) by omega] at hrun
    have hk2 : k ≤ 3200 := by
      have : 243 * (nL (rootS nm ks) - 0) ≤ 243 * 13 := Nat.mul_le_mul_left _ (by omega)
      omega
    rw [F3_L1, gd_in isSlD_lst]
    have a1 : decide ((i : Int) < (lenN (.lst vs.length (vs.flatMap vD)) : Int)) = true := decide_eq_true (by rw [lenN_lst]; omega)
    rw [a1, cond_true]
    obtain ⟨pre', e1, e2⟩ := F3_run t hcr (by omega) (F3_L1 (.lst vs.length (vs.flatMap vD)) (.lst (nL (rootS nm ks)) (colsPD cols), 0) (nxD (rootS nm ks) (wayOf (rootP nm ks))) n m) (i : Int) (n - k) hrun pre 0 (fun q hq => by rw [hp q hq, hdrop]) (by omega)
    rw [show n - k + k = n by omega] at e1
    have e1 : F3_L2 (.lst (nL (rootS nm ks)) (colsPD cols), 0) (nxD (rootS nm ks) (wayOf (rootP nm ks))) (F3_L1 (.lst vs.length (vs.flatMap vD)) (.lst (nL (rootS nm ks)) (colsPD cols), 0) (nxD (rootS nm ks) (wayOf (rootP nm ks))) n m) (i : Int) n 0 0 (cD (nL (rootS nm ks)) pre) = _ := e1
    rw [e1]
    obtain ⟨m', hm'⟩ : ∃ q, n - k = q + 1 := ⟨n - k - 1, by omega⟩
    rw [hm', F3_L2, gd_in isSlD_lst]
    have a2 : decide ((nL (rootS nm ks) : Int) < (lenN ((PD.lst (nL (rootS nm ks)) (colsPD cols), (0 : Int)) : PD × Int).1 : Int)) = false := decide_eq_false (by simp only [lenN_lst]; omega)
    rw [a2, cond_false, wrap_i64 (by omega) (by omega)]
    exact ih (i + 1) m pre' (by omega) (by omega) e2

abbrev knownK : For := .cons [97] 0 1 .nil .nil
theorem knownT : Tree [109] knownK := ⟨⟨by omega, by omega, fun h => by omega, fun _ => rfl, trivial, trivial⟩, by simp [For.len], by simp [For.hgt], by simp [For.flat]⟩

theorem F5_eq {n : Nat} (hn : 1000 ≤ n) : F5 n = some true := by
  have h9 := F9_eq knownT.sc hn
  have hl : nL (rootS [109] knownK) = 1 := by rw [root_nL knownT.good knownT.pos]; rfl
  have hR : (leafOf (rootS [109] knownK) (wayOf (rootP [109] knownK)) (lp (rootS [109] knownK) 0)).r = 0 := by rfl
  have hrow : nxRow (rootS [109] knownK) (wayOf (rootP [109] knownK)) 0 = .lst 1 [.int .i64 1] := by
    unfold nxRow
    rw [hR]
    have : (List.range (0 + 1)).map (nx (rootS [109] knownK) (wayOf (rootP [109] knownK)) 0) = [1] := by
      simp [nx_last, List.range_succ]
    rw [this]; rfl
  have h9 : F9 n (.lst 2 [.str [109], .int .i64 0, .int .i64 0, .int .i64 1, .str [97], .int .i64 0, .int .i64 1, .int .i64 0]) = some (.lst 1 [.lst 1 [.int .i64 1]]) := by
    have e : (List.range (nL (rootS [109] knownK))).map (nxRow (rootS [109] knownK) (wayOf (rootP [109] knownK))) = [.lst 1 [.int .i64 1]] := by
      rw [hl]; simp [List.range_succ, hrow]
    rw [e, hl] at h9
    exact h9
  unfold F5
  rw [h9, bd_some]
  rfl

theorem F3_eq {R : PD} {l : List Int} (hR : Row R l) {D : PD} {c : Nat} (hD : RowsI D c) (k1 k2 : Bool) {n : Nat} (hn : 5000 ≤ n) : F3 n k1 R k2 D = some true := by
  unfold F3
  rw [F5_eq (by omega), bd_some]
  have : (!true) = false := rfl
  rw [this, cond_false]
  obtain ⟨nm, ks, e6, g1, g2, g3, g4⟩ := F6_eq hR k1 (show 1000 ≤ n by omega)
  have t : Tree nm ks := ⟨g1, g2, g3, g4⟩
  rw [e6, bd_some]
  obtain ⟨vs, e7, h16, hq⟩ := F7_eq t hD k2 (show 2000 ≤ n by omega)
  have e7 : F7 n (schD (For.cons nm 0 0 ks .nil).flat) k2 D = _ := e7
  rw [e7, bd_some]
  obtain ⟨Es, cols, e8, hcr, hE⟩ := F8_eq t h16 hq (show 2000 ≤ n by omega)
  have e8 : F8 n (schD (For.cons nm 0 0 ks .nil).flat) (.lst vs.length (vs.flatMap vD)) = _ := e8
  rw [e8, bd_some]
  have e9 : F9 n (schD (For.cons nm 0 0 ks .nil).flat) = some (nxD (rootS nm ks) (wayOf (rootP nm ks))) := F9_eq t.sc (show 1000 ≤ n by omega)
  rw [e9, bd_some, gd_in (show isSlD (nxD (rootS nm ks) (wayOf (rootP nm ks))) = true from rfl), gd_in isSlD_lst]
  have hl : lenN (nxD (rootS nm ks) (wayOf (rootP nm ks))) = nL (rootS nm ks) := rfl
  have hnL := t.nL
  have hne : ((lenN (nxD (rootS nm ks) (wayOf (rootP nm ks))) : Int) != (lenN ((PD.lst (nL (rootS nm ks)) (colsPD cols), (0 : Int)) : PD × Int).1 : Int)) = false := by rw [hl]; simp [lenN_lst]
  rw [hne, cond_false, gd_in isSlD_lst, gd_in (show mkOK 8 (lenN ((PD.lst (nL (rootS nm ks)) (colsPD cols), (0 : Int)) : PD × Int).1 : Int) from mk_ok (by simp only [lenN_lst]; omega) (by simp only [lenN_lst]; omega) (by simp only [lenN_lst]; omega))]
  have hz0 : ∀ L : Nat, rowZD [PD.int .i64 0] L = cD L (fun _ => []) := by
    intro L
    have e1 : rowZD [PD.int .i64 0] L = List.replicate L (.int .i64 0) := by
      unfold rowZD
      induction L with
      | zero => rfl
      | succ k ih => rw [List.replicate_succ, List.flatten_cons, ih, List.replicate_succ]; rfl
    have e2 : (List.range L).map (fun j => ((([] : List Nat).length : Nat) : Int)) = List.replicate L 0 := by
      apply List.ext_getElem <;> simp
    unfold cD
    rw [e1, e2]
    simp [isD, iD]
  have hz : rowZD [PD.int .i64 0] ((lenN ((PD.lst (nL (rootS nm ks)) (colsPD cols), (0 : Int)) : PD × Int).1 : Int)).toNat = cD (nL (rootS nm ks)) (fun _ => []) := hz0 _
  rw [hz]
  exact F3_L1_eq t hcr hE h16 hn vs.length 0 n (fun _ => []) (by omega) (by omega) (fun q _ => rfl)
end
end Go.Proofs.Ytfhpoffgnpgagaa

namespace Go.Proofs.Ytfhpoffgnpgagaa
open Go Go.Proofs Go.Abs
set_option linter.unusedVariables false

theorem Row_slcD {ns : Option (List Int)} (h : ∀ l, ns = some l → inI l) : ∃ l, Row (slcD ns) l := by
  cases ns with
  | none => exact ⟨[], Row_nil⟩
  | some l => exact ⟨l, Row_lst (fun z hz => h l rfl z hz)⟩

theorem law : Law := by
  intro ns rows hns hrows
  obtain ⟨l, hR⟩ := Row_slcD hns
  refine ⟨5000, ?_⟩
  cases rows with
  | none =>
    exact F3_eq hR (c := 0) ⟨rfl, rfl, rfl, fun i h => by omega, fun i h => by omega⟩ false false (Nat.le_refl _)
  | some L =>
    refine F3_eq hR (D := rowsD (some L)) (c := L.length) ⟨rfl, rfl, by simp [rowsD, cellsD], fun i h => idx_lst (by omega) (by omega) (by simp only [Int.toNat_natCast, List.length_map]; omega), fun i h => ?_⟩ false false (Nat.le_refl _)
    have e : (cellsD (rowsD (some L))).getD i .nil = slcD L[i] := by
      show (L.map slcD).getD i .nil = slcD L[i]
      rw [List.getD_eq_getElem?_getD, List.getElem?_map, List.getElem?_eq_getElem h]; rfl
    rw [e]
    exact Row_slcD fun l hl => hrows L rfl l (hl ▸ List.getElem_mem h)

theorem fsm_said : Rows.FsmWalksSaid := fsm_of_law law
end Go.Proofs.Ytfhpoffgnpgagaa
