/- The plain law, sixth part: a run over the columns. No program in sight. No condition. -/
import Derived.Test.YtfhpoffgnpgagaaLa
set_option linter.unusedSimpArgs false
set_option linter.unusedVariables false
namespace Go.Proofs.Ytfhpoffgnpgagaa
open Go Go.Proofs Go.Abs
set_option linter.unusedVariables false
set_option linter.unusedSimpArgs false

section
variable {S : List Fld} {P : List Int} {Wy : List (List Nat)}

theorem lp_in {i p q : Nat} (hi : i < nL S) (h1 : lx S p ≤ i) (h2 : i < lx S q) : p ≤ lp S i ∧ lp S i < q := by
  obtain ⟨a, b, c⟩ := lp_lt hi
  constructor
  · rcases Nat.lt_or_ge (lp S i) p with h | h
    · have := lx_mono S (show lp S i + 1 ≤ p by omega)
      rw [lx_succ, if_neg b] at this; omega
    · exact h
  · rcases Nat.lt_or_ge (lp S i) q with h | h
    · exact h
    · have := lx_mono S h; omega

/-- Neighbours in one group: the next leaf is the next. -/
theorem nx_next (hw : Ways P Wy) (hSP : S.length = P.length) {F : For} {g : Int} {p : Nat} (h : Loc S P g p F) (hp : p ≤ S.length) {i r : Nat} (h1 : lx S p ≤ i) (h2 : i + 1 < lx S (p + F.size)) (hr : r ≤ cntR S (wayG Wy g)) : nx S Wy i r = i + 1 := by
  have hf := h.fits hp
  have hL : lx S (p + F.size) ≤ nL S := lx_mono S hf
  obtain ⟨a1, a2⟩ := lp_in (show i < nL S by omega) h1 (show i < lx S (p + F.size) by omega)
  obtain ⟨b1, b2⟩ := lp_in (show i + 1 < nL S by omega) (show lx S p ≤ i + 1 by omega) h2
  have hc : r ≤ Com S Wy i (i + 1) := by
    unfold Com
    rw [if_pos ⟨by omega, by omega⟩]
    exact Nat.le_trans hr (cntR_pre (pre_cpre (h.way_in hw hSP _ a1 a2) (h.way_in hw hSP _ b1 b2)))
  unfold nx
  rw [if_pos hc]

theorem pre_short : ∀ {w : List Nat} {x : Nat} {c a : List Nat}, c <+: a → (w ++ [x]) <+: a → c <+: w ∨ (w ++ [x]) <+: c
  | w, x, c, a, h1, h2 => by
    rcases Nat.lt_or_ge w.length c.length with h | h
    · right; exact List.prefix_of_prefix_length_le h2 h1 (by simp; omega)
    · left; exact List.prefix_of_prefix_length_le h1 ((List.prefix_append w [x]).trans h2) h

/-- Another occurrence: the next leaf is the field's first. -/
theorem nx_again (hw : Ways P Wy) (hSP : S.length = P.length) {nm : List UInt8} {k : Nat} {ks rs : For} {g : Int} {p : Nat} (h : Loc S P g p (.cons nm 2 k ks rs)) (hlt : lx S p < lx S (p + 1 + ks.size)) :
    nx S Wy (lx S (p + 1 + ks.size) - 1) (cntR S (wayG Wy g) + 1) = lx S p := by
  have hwp := h.way hw hSP
  have hout := h.way_out hw
  have hL := h
  obtain ⟨h0, hS, _, _, hk, _, _⟩ := h
  have hf := hk.fits (by omega)
  have hlim : lx S (p + 1 + ks.size) ≤ nL S := lx_mono S hf
  have hin : ∀ i, lx S p ≤ i → i < lx S (p + 1 + ks.size) → (wayG Wy g ++ [p]) <+: Wy.getD (lp S i) [] := by
    intro i h1 h2
    obtain ⟨a1, a2⟩ := lp_in (show i < nL S by omega) h1 h2
    by_cases e : lp S i = p
    · rw [e, hwp]; exact List.prefix_refl _
    · have := hk.way_in hw hSP _ (show p + 1 ≤ lp S i by omega) a2
      rw [wayG_nat, hwp] at this; exact this
  have hcnt : cntR S (wayG Wy g ++ [p]) = cntR S (wayG Wy g) + 1 := by
    rw [cntR_app, cntR_one]
    have : (fat S p).rep = 2 := by unfold fat; rw [hS]
    rw [if_pos this]
  have hno : ∀ q, (q < lx S p ∨ lx S (p + 1 + ks.size) ≤ q) → ¬ cntR S (wayG Wy g) + 1 ≤ Com S Wy (lx S (p + 1 + ks.size) - 1) q := by
    intro q hq hc
    unfold Com at hc
    split at hc
    · rename_i hh
      have h1 := hin (lx S (p + 1 + ks.size) - 1) (by omega) (by omega)
      rcases pre_short (cpre_l _ (Wy.getD (lp S q) [])) h1 with h2 | h2
      · have := cntR_pre (S := S) h2; omega
      · have h3 := h2.trans (cpre_r _ _)
        have hm : p ∈ Wy.getD (lp S q) [] := h3.subset (by simp)
        obtain ⟨a, b, c⟩ := lp_lt hh.2
        obtain ⟨b1, b2⟩ := hout (lp S q) (by omega) hm
        have m1 := lx_mono S b1
        have m2 := lx_mono S (show lp S q + 1 ≤ p + 1 + ks.size by omega)
        rw [lx_succ, if_neg b] at m2
        omega
    · omega
  refine nx_first ?_ (by omega) ?_ ?_
  · rw [show lx S (p + 1 + ks.size) - 1 + 1 = lx S (p + 1 + ks.size) by omega]; exact hno _ (by omega)
  · unfold Com
    rw [if_pos ⟨by omega, by omega⟩, ← hcnt]
    exact cntR_pre (pre_cpre (hin _ (by omega) (by omega)) (hin _ (by omega) (by omega)))
  · intro q hq; exact hno q (.inl hq)
end

/-- What is yet to come in each column. -/
abbrev Cs := Nat → List Nat
def updC (c : Cs) (i : Nat) (l : List Nat) : Cs := fun j => if j = i then l else c j
def hd0 : List Nat → Nat
  | [] => 0
  | x :: _ => x
def Rl (S : List Fld) (Wy : List (List Nat)) (i : Nat) : Nat := (leafOf S Wy (lp S i)).r
def appC (a b : Cs) : Cs := fun j => a j ++ b j

inductive Run (S : List Fld) (Wy : List (List Nat)) : Nat → Nat → Cs → Nat → Cs → Prop
  | done (i : Nat) (c : Cs) : Run S Wy 0 i c i c
  | step (i : Nat) (c : Cs) (x : Nat) (t : List Nat) (k j : Nat) (c' : Cs) : i < nL S → c i = x :: t → hd0 t ≤ Rl S Wy i → Run S Wy k (nx S Wy i (hd0 t)) (updC c i t) j c' → Run S Wy (k + 1) i c j c'

section
variable {S : List Fld} {P : List Int} {Wy : List (List Nat)}
theorem Run.trans {k i : Nat} {c : Cs} {j : Nat} {c' : Cs} (h : Run S Wy k i c j c') : ∀ {k' l : Nat} {c'' : Cs}, Run S Wy k' j c' l c'' → Run S Wy (k + k') i c l c'' := by
  induction h with
  | done i c => intro k' l c'' h; rw [Nat.zero_add]; exact h
  | step i c x t k j c' h1 h2 h3 _ ih => intro k' l c'' h; rw [show k + 1 + k' = (k + k') + 1 by omega]; exact .step i c x t _ _ _ h1 h2 h3 (ih h)

/-- What a part of a record lays into its columns. -/
structure Em (S : List Fld) (Wy : List (List Nat)) (lo hi R r B : Nat) (E : Cs) : Prop where
  out : ∀ j, (j < lo ∨ hi ≤ j) → E j = []
  hd : ∀ j, lo ≤ j → j < hi → ∃ t, E j = r :: t
  len : ∀ j, (E j).length ≤ B
  run : ∀ (T : Cs) (q : Nat), q ≤ R → (∀ j, lo ≤ j → j < hi → hd0 (T j) = q) → ∃ k, k ≤ B * (hi - lo) ∧ Run S Wy k lo (appC E T) (nx S Wy (hi - 1) q) T

theorem Em.weak {lo hi R R' r B B' : Nat} {E : Cs} (h : Em S Wy lo hi R r B E) (hR : R' ≤ R) (hB : B ≤ B') : Em S Wy lo hi R' r B' E :=
  ⟨h.out, h.hd, fun j => Nat.le_trans (h.len j) hB, fun T q hq hT => by
    obtain ⟨k, hk, hr⟩ := h.run T q (by omega) hT
    exact ⟨k, Nat.le_trans hk (Nat.mul_le_mul_right _ hB), hr⟩⟩

def oneC (i r : Nat) : Cs := fun j => if j = i then [r] else []
theorem Em.leaf {i R r : Nat} (hi : i < nL S) (hR : R ≤ Rl S Wy i) : Em S Wy i (i + 1) R r 1 (oneC i r) := by
  refine ⟨fun j hj => ?_, fun j h1 h2 => ?_, fun j => ?_, fun T q hq hT => ?_⟩
  · unfold oneC; rw [if_neg (by omega)]
  · unfold oneC; rw [if_pos (by omega)]; exact ⟨[], rfl⟩
  · unfold oneC; split <;> simp
  · have h0 := hT i (by omega) (by omega)
    refine ⟨1, by omega, ?_⟩
    refine .step i _ r (T i) 0 _ _ hi (by simp [appC, oneC]) (by omega) ?_
    have : updC (appC (oneC i r) T) i (T i) = T := by
      funext j
      unfold updC appC oneC
      split
      · rename_i e; rw [e]
      · rfl
    rw [this, h0, show i + 1 - 1 = i by omega]
    exact .done _ _

theorem appC_assoc (a b c : Cs) : appC (appC a b) c = appC a (appC b c) := by funext j; simp [appC]
theorem Em.seq {lo mid hi R r B : Nat} {E1 E2 : Cs} (h1 : Em S Wy lo mid R r B E1) (h2 : Em S Wy mid hi R r B E2) (hl : lo < mid) (hm : mid < hi) (hn : ∀ q, q ≤ R → nx S Wy (mid - 1) q = mid) : Em S Wy lo hi R r B (appC E1 E2) := by
  refine ⟨fun j hj => ?_, fun j a b => ?_, fun j => ?_, fun T q hq hT => ?_⟩
  · unfold appC; rw [h1.out j (by omega), h2.out j (by omega)]; rfl
  · unfold appC
    rcases Nat.lt_or_ge j mid with h | h
    · obtain ⟨t, ht⟩ := h1.hd j a h
      rw [ht]; exact ⟨_, rfl⟩
    · rw [h1.out j (.inr h)]; exact h2.hd j h b
  · unfold appC
    rcases Nat.lt_or_ge j mid with h | h
    · rw [h2.out j (.inl h), List.append_nil]; exact h1.len j
    · rw [h1.out j (.inr h)]; exact h2.len j
  · obtain ⟨k1, hk1, r1⟩ := h1.run (appC E2 T) q hq fun j a b => by
      unfold appC; rw [h2.out j (.inl b)]; exact hT j a (by omega)
    obtain ⟨k2, hk2, r2⟩ := h2.run T q hq fun j a b => hT j (by omega) b
    rw [hn q hq] at r1
    refine ⟨k1 + k2, ?_, ?_⟩
    · have : B * (hi - lo) = B * (mid - lo) + B * (hi - mid) := by rw [← Nat.mul_add]; congr 1; omega
      omega
    · rw [appC_assoc]; exact r1.trans r2
theorem Em.again {lo hi R r B B' : Nat} {E1 E2 : Cs} (h1 : Em S Wy lo hi R r B E1) (h2 : Em S Wy lo hi R R B' E2) (hn : nx S Wy (hi - 1) R = lo) : Em S Wy lo hi R r (B + B') (appC E1 E2) := by
  refine ⟨fun j hj => ?_, fun j a b => ?_, fun j => ?_, fun T q hq hT => ?_⟩
  · unfold appC; rw [h1.out j hj, h2.out j hj]; rfl
  · unfold appC
    obtain ⟨t, ht⟩ := h1.hd j a b
    rw [ht]; exact ⟨_, rfl⟩
  · unfold appC
    rw [List.length_append]
    have := h1.len j; have := h2.len j; omega
  · obtain ⟨k1, hk1, r1⟩ := h1.run (appC E2 T) R (Nat.le_refl _) fun j a b => by
      unfold appC; obtain ⟨t, ht⟩ := h2.hd j a b; rw [ht]; rfl
    obtain ⟨k2, hk2, r2⟩ := h2.run T q hq hT
    rw [hn] at r1
    refine ⟨k1 + k2, ?_, ?_⟩
    · rw [Nat.add_mul]; omega
    · rw [appC_assoc]; exact r1.trans r2
end
end Go.Proofs.Ytfhpoffgnpgagaa

namespace Go.Proofs.Ytfhpoffgnpgagaa
open Go Go.Proofs Go.Abs
set_option linter.unusedVariables false
set_option linter.unusedSimpArgs false

/-- Each field's leaf number, and how deep it is repeated. -/
def lnums (S : List Fld) : List Int := (List.range S.length).map fun p => if (fat S p).kind = 0 then -1 else (lx S p : Int)
def lvls (S : List Fld) (Wy : List (List Nat)) : List Int := (List.range S.length).map fun p => (cntR S (Wy.getD p []) : Int)
def pD (P : List Int) : PD := .lst P.length (isD P)
def lnD (S : List Fld) : PD := .lst S.length (isD (lnums S))
def lvD (S : List Fld) (Wy : List (List Nat)) : PD := .lst S.length (isD (lvls S Wy))
theorem lnums_len {S : List Fld} : (lnums S).length = S.length := by simp [lnums]
theorem lvls_len {S : List Fld} {Wy : List (List Nat)} : (lvls S Wy).length = S.length := by simp [lvls]
theorem lnums_at {S : List Fld} {p : Nat} (h : p < S.length) : (lnums S).getD p 0 = if (fat S p).kind = 0 then -1 else (lx S p : Int) := by
  unfold lnums
  rw [List.getD_eq_getElem?_getD, List.getElem?_map, List.getElem?_range h]; rfl
theorem lvls_at {S : List Fld} {Wy : List (List Nat)} {p : Nat} (h : p < S.length) : (lvls S Wy).getD p 0 = (cntR S (Wy.getD p []) : Int) := by
  unfold lvls
  rw [List.getD_eq_getElem?_getD, List.getElem?_map, List.getElem?_range h]; rfl

theorem sch_isSl {S : List Fld} : isSlD (schD S) = true := rfl
theorem sch_len {S : List Fld} : lenN (schD S) = S.length := rfl
theorem sch_cells {S : List Fld} : cellsD (schD S) = S.flatMap fldD := rfl
theorem sch_idx {S : List Fld} {p : Nat} (h : p < S.length) : idxOK 4 (schD S) (p : Int) := idx_lst (by omega) (by omega) (by rw [flds_len]; simp only [Int.toNat_natCast]; omega)
theorem p_cells {P : List Int} : cellsD (pD P) = isD P := rfl
theorem p_idx {P : List Int} {p : Nat} (h : p < P.length) : idxOK 1 (pD P) (p : Int) := idx_lst (by omega) (by omega) (by rw [isD_length]; simp only [Int.toNat_natCast]; omega)
theorem ln_cells {S : List Fld} : cellsD (lnD S) = isD (lnums S) := rfl
theorem ln_idx {S : List Fld} {p : Nat} (h : p < S.length) : idxOK 1 (lnD S) (p : Int) := idx_lst (by omega) (by omega) (by rw [isD_length, lnums_len]; simp only [Int.toNat_natCast]; omega)
theorem lv_cells {S : List Fld} {Wy : List (List Nat)} : cellsD (lvD S Wy) = isD (lvls S Wy) := rfl
theorem lv_idx {S : List Fld} {Wy : List (List Nat)} {p : Nat} (h : p < S.length) : idxOK 1 (lvD S Wy) (p : Int) := idx_lst (by omega) (by omega) (by rw [isD_length, lvls_len]; simp only [Int.toNat_natCast]; omega)

def ColI (c : Col) : Prop := c.d.length = c.r.length ∧ c.v.length ≤ c.r.length
/-- Columns within bounds. -/
structure CI (S : List Fld) (cols : List Col) : Prop where
  len : cols.length = nL S
  each : ∀ j, j < nL S → ColI (cols.getD j default)
/-- How long the columns of a part are at most. -/
def BN (lo hi N : Nat) (cols : List Col) : Prop := ∀ j, lo ≤ j → j < hi → (cols.getD j default).r.length ≤ N
def Adds (S : List Fld) (cols cols' : List Col) (E : Cs) : Prop := ∀ j, j < nL S → (cols'.getD j default).r = (cols.getD j default).r ++ natI (E j)

section
variable {S : List Fld} {P : List Int} {Wy : List (List Nat)}
theorem natI_app (a b : List Nat) : natI (a ++ b) = natI a ++ natI b := by simp [natI]
theorem Adds.trans {a b c : List Col} {E F : Cs} (h1 : Adds S a b E) (h2 : Adds S b c F) : Adds S a c (appC E F) := by
  intro j hj
  rw [h2 j hj, h1 j hj]; unfold appC; rw [natI_app, List.append_assoc]
theorem BN.sub {lo hi lo' hi' N N' : Nat} {c : List Col} (h : BN lo hi N c) (h1 : lo ≤ lo') (h2 : hi' ≤ hi) (hN : N ≤ N') : BN lo' hi' N' c := fun j a b => Nat.le_trans (h j (by omega) (by omega)) hN
theorem BN.adds {lo hi N B : Nat} {c c' : List Col} {E : Cs} (h : BN lo hi N c) (ha : Adds S c c' E) (hE : ∀ j, lo ≤ j → j < hi → (E j).length ≤ B) (hh : hi ≤ nL S) : BN lo hi (N + B) c' := fun j a b => by
  rw [ha j (by omega), List.length_append, natI_len]
  have := h j a b; have := hE j a b; omega

theorem F35w_eq (n : Nat) {p r d N : Nat} (hp : p < S.length) (hk : (fat S p).kind ≠ 0) {cols : List Col} (hc : CI S cols) (hB : (cols.getD (lx S p) default).r.length ≤ N) (hN : N ≤ 1000000) (z : Int) (b : List UInt8) (f : Bool) (X Y Z : PD) :
    ∃ cols', F35w n (p : Int) (r : Int) (d : Int) z b f X Y (lnD S) Z cols = some cols' ∧ Adds S cols cols' (oneC (lx S p) r) ∧ CI S cols' := by
  obtain ⟨e1, e2⟩ := lp_lx hp hk
  obtain ⟨c1, c2⟩ := hc.each _ e2
  have hl := hc.len
  have hat : (isD (lnums S)).getD p .nil = .int .i64 (lx S p : Int) := by rw [isD_at (by rw [lnums_len]; exact hp), lnums_at hp, if_neg hk]
  refine ⟨cols.set (lx S p) ⟨(cols.getD (lx S p) default).r ++ [(r : Int)], (cols.getD (lx S p) default).d ++ [(d : Int)], bif f then (cols.getD (lx S p) default).v ++ [(z, b)] else (cols.getD (lx S p) default).v⟩, ?_, ?_, ?_⟩
  · unfold F35w
    rw [gd_in (ln_idx hp)]
    simp only [ln_cells, Int.toNat_natCast, getD_drop, intD_int, isI_int, List.length_drop, isD_length, lnums_len, and_true, true_and, and_self, Nat.mul_one, Nat.add_zero, hat]
    rw [gd_in (by omega), gd_in (by omega), gd_in ⟨ap_ok (by omega) (by omega), ap_ok (by omega) (by omega), ap_ok (by omega) (by omega)⟩]
  · intro j hj
    by_cases e : j = lx S p
    · subst e
      rw [List.getD_eq_getElem?_getD, List.getElem?_set_self (by omega)]
      simp [oneC, natI]
    · rw [List.getD_eq_getElem?_getD, List.getElem?_set_ne (Ne.symm e), ← List.getD_eq_getElem?_getD]
      simp [oneC, natI, e]
  · refine ⟨by rw [List.length_set]; exact hl, fun j hj => ?_⟩
    obtain ⟨d1, d2⟩ := hc.each j hj
    by_cases e : j = lx S p
    · subst e
      rw [List.getD_eq_getElem?_getD, List.getElem?_set_self (by omega)]
      simp only [Option.getD_some, ColI, List.length_append, List.length_singleton]
      refine ⟨by omega, ?_⟩
      cases f
      · simp only [cond_false]; omega
      · simp only [cond_true, List.length_append, List.length_singleton]; omega
    · rw [List.getD_eq_getElem?_getD, List.getElem?_set_ne (Ne.symm e), ← List.getD_eq_getElem?_getD]
      exact ⟨d1, d2⟩

section
variable (self : Int → Int → Int → PD → PD → PD → PD → (List Col) → Option (List Col)) (r d : Nat) (LN LV : PD) (g : Int)

theorem F36_skip1 (hSP : S.length = P.length) (hs : S.length < 100) {j : Nat} (hj : j < S.length) (hne : P.getD j 0 ≠ g) (m : Nat) (cols : List Col) :
    F36_L1 (schD S) (pD P) g self r d LN LV (m + 1) (j : Int) cols = F36_L1 (schD S) (pD P) g self r d LN LV m ((j + 1 : Nat) : Int) cols := by
  rw [F36_L1, gd_in sch_isSl]
  have hc : decide ((j : Int) < (lenN (schD S) : Int)) = true := decide_eq_true (by rw [sch_len]; omega)
  rw [hc, cond_true, gd_in (p_idx (by omega))]
  simp only [p_cells, Int.toNat_natCast, getD_drop, intD_int, isI_int, List.length_drop, isD_length, and_true, true_and, and_self, Nat.mul_one, Nat.add_zero, isD_at (show j < P.length by omega)]
  rw [gd_in (by omega)]
  have : (P.getD j 0 == g) = false := by simpa using hne
  rw [this, cond_false]
  unfold F36_K2
  rw [wrap_i64 (by omega) (by omega)]; rfl
theorem F36_skip (hSP : S.length = P.length) (hs : S.length < 100) (m : Nat) (cols : List Col) : ∀ (e j : Nat), j + e ≤ S.length → (∀ q, j ≤ q → q < j + e → P.getD q 0 ≠ g) →
    F36_L1 (schD S) (pD P) g self r d LN LV (m + e) (j : Int) cols = F36_L1 (schD S) (pD P) g self r d LN LV m ((j + e : Nat) : Int) cols := by
  intro e
  induction e with
  | zero => intro j _ _; rfl
  | succ e ih =>
    intro j hj hne
    rw [show m + (e + 1) = (m + e) + 1 by omega, F36_skip1 self r d LN LV g hSP hs (by omega) (hne j (by omega) (by omega)), ih (j + 1) (by omega) (fun q a b => hne q (by omega) (by omega)), show j + 1 + e = j + (e + 1) by omega]
theorem F36_end (hSP : S.length = P.length) (hs : S.length < 100) (m : Nat) (cols : List Col) : F36_L1 (schD S) (pD P) g self r d LN LV (m + 1) ((S.length : Nat) : Int) cols = some cols := by
  rw [F36_L1, gd_in sch_isSl]
  have hc : decide ((S.length : Int) < (lenN (schD S) : Int)) = false := decide_eq_false (by rw [sch_len]; omega)
  rw [hc, cond_false]
end

theorem appC_nil (E : Cs) : appC E (fun _ => []) = E := by funext j; simp [appC]
theorem nil_appC (E : Cs) : appC (fun _ => []) E = E := by funext j; simp [appC]
theorem Good_len0 : ∀ {F : For}, F.len = 0 → F = .nil
  | .nil, _ => rfl
  | .cons _ _ _ _ _, h => by simp [For.len] at h

/-- What a part lays, in sum. -/
structure Lays (S : List Fld) (Wy : List (List Nat)) (lo hi R r B : Nat) (cols cols' : List Col) : Prop where
  ex : ∃ E, Adds S cols cols' E ∧ Em S Wy lo hi R r B E
  ci : CI S cols'
theorem Lays.far {lo hi R r B : Nat} {c c' : List Col} (h : Lays S Wy lo hi R r B c c') {lo' hi' N : Nat} (hb : BN lo' hi' N c) (ho : hi ≤ lo') (hh : hi' ≤ nL S) : BN lo' hi' N c' := by
  obtain ⟨E, a, m⟩ := h.ex
  exact hb.adds (B := 0) a (fun j x y => by rw [m.out j (by omega)]; exact Nat.le_refl _) hh
theorem Lays.near {lo hi R r B : Nat} {c c' : List Col} (h : Lays S Wy lo hi R r B c c') {lo' hi' N : Nat} (hb : BN lo' hi' N c) (hh : hi' ≤ nL S) : BN lo' hi' (N + B) c' := by
  obtain ⟨E, a, m⟩ := h.ex
  exact hb.adds a (fun j x y => m.len j) hh
theorem Lays.weak {lo hi R R' r B B' : Nat} {c c' : List Col} (h : Lays S Wy lo hi R r B c c') (hR : R' ≤ R) (hB : B ≤ B') : Lays S Wy lo hi R' r B' c c' := by
  obtain ⟨⟨E, a, m⟩, ci⟩ := h
  exact ⟨⟨E, a, m.weak hR hB⟩, ci⟩

theorem lc_lt (hSP : S.length = P.length) {nm : List UInt8} {rp k : Nat} {ks rs : For} {g : Int} {p : Nat} (hG : For.Good (.cons nm rp k ks rs)) (h : Loc S P g p (.cons nm rp k ks rs)) : lx S p < lx S (p + 1 + ks.size) := by
  obtain ⟨h0, hS, _, _, hk, _, _⟩ := h
  obtain ⟨_, _, g0, g1, gk, _⟩ := hG
  rw [hk.lx_end gk, lx_succ]
  have hf : (fat S p).kind = k := by unfold fat; rw [hS]
  rw [hf]
  by_cases e : k = 0
  · have := For.lc_pos ks gk (g0 e); rw [if_pos e]; omega
  · rw [if_neg e]; omega

theorem cntR_wayG (hw : Ways P Wy) (hSP : S.length = P.length) {nm : List UInt8} {rp k : Nat} {ks rs : For} {g : Int} {p : Nat} (h : Loc S P g p (.cons nm rp k ks rs)) : cntR S (Wy.getD p []) = cntR S (wayG Wy g) + if rp = 2 then 1 else 0 := by
  rw [h.way hw hSP, cntR_app, cntR_one]
  have hf : (fat S p).rep = rp := by unfold fat; rw [h.2.1]
  rw [hf]

theorem Rl_lx {p : Nat} (hp : p < S.length) (hk : (fat S p).kind ≠ 0) : Rl S Wy (lx S p) = cntR S (Wy.getD p []) := by
  unfold Rl; rw [(lp_lx hp hk).1]; rfl

/-- Two parts, side by side. -/
theorem Lays.seq (hw : Ways P Wy) (hSP : S.length = P.length) {nm : List UInt8} {rp k : Nat} {ks rs : For} {g : Int} {p : Nat} (hG : For.Good (.cons nm rp k ks rs)) (h : Loc S P g p (.cons nm rp k ks rs)) {r B : Nat} {c0 c1 c2 : List Col}
    (h1 : Lays S Wy (lx S p) (lx S (p + 1 + ks.size)) (cntR S (wayG Wy g)) r B c0 c1) (hn : rs.len = 0 → c2 = c1) (h2 : 0 < rs.len → Lays S Wy (lx S (p + 1 + ks.size)) (lx S (p + 1 + ks.size + rs.size)) (cntR S (wayG Wy g)) r B c1 c2) (hci : CI S c2) :
    Lays S Wy (lx S p) (lx S (p + 1 + ks.size + rs.size)) (cntR S (wayG Wy g)) r B c0 c2 := by
  have hlt := lc_lt hSP hG h
  rcases Nat.eq_zero_or_pos rs.len with h0 | h0
  · have e := Good_len0 h0
    subst e
    rw [hn h0]; exact h1
  · obtain ⟨E1, a1, m1⟩ := h1.ex
    obtain ⟨E2, a2, m2⟩ := (h2 h0).ex
    have hlc := For.lc_pos rs hG.2.2.2.2.2 h0
    have hle := h.2.2.2.2.2.1.lx_end hG.2.2.2.2.2
    refine ⟨⟨appC E1 E2, a1.trans a2, m1.seq m2 hlt (by omega) fun q hq => ?_⟩, hci⟩
    have := nx_next hw hSP h (by have := h.1; omega) (i := lx S (p + 1 + ks.size) - 1) (r := q) (by omega) (by simp only [For.size]; rw [show p + (1 + ks.size + rs.size) = p + 1 + ks.size + rs.size by omega]; omega) hq
    rw [this]; omega

theorem F36_eq (hw : Ways P Wy) (hSP : S.length = P.length) (hs : S.length < 100) (d : Nat) (LV : PD) : ∀ (F : For) (g : Int) (p n : Nat), F.Good → Loc S P g p F → p ≤ S.length → 1000 + F.hgt ≤ n + 1 → ∀ (r N m : Nat) (cols : List Col), CI S cols → BN (lx S p) (lx S (p + F.size)) N cols → N ≤ 1000000 →
    ∃ cols', F36_L1 (schD S) (pD P) g (F36 n) r d (lnD S) LV (m + F.size) (p : Int) cols = F36_L1 (schD S) (pD P) g (F36 n) r d (lnD S) LV m ((p + F.size : Nat) : Int) cols' ∧
      (F.len = 0 → cols' = cols) ∧ (0 < F.len → Lays S Wy (lx S p) (lx S (p + F.size)) (cntR S (wayG Wy g)) r 1 cols cols') ∧ CI S cols'
  | .nil, g, p, n, _, _, _, _, r, N, m, cols, hc, _, _ => ⟨cols, rfl, fun _ => rfl, fun h => by simp [For.len] at h, hc⟩
  | .cons nm rp k ks rs, g, p, n, hG, hL, hp, hn, r, N, m, cols, hc, hB, hN => by
    have hlt := lc_lt hSP hG hL
    have hcw := cntR_wayG hw hSP hL
    have hkn := fun j => hL.kid_ne (j := j)
    have hen := fun j => hL.end_ne (j := j)
    have hL0 := hL
    obtain ⟨h0, hS, hPg, hgp, hk, hr, _⟩ := hL
    obtain ⟨g1, g2, g3, g4, gk, gr⟩ := hG
    have hfit := hk.fits (by omega)
    simp only [For.hgt] at hn
    obtain ⟨n, rfl⟩ : ∃ k, n = k + 1 := ⟨n - 1, by omega⟩
    have hrfit := hr.fits (by omega)
    have hsz : p + (For.cons nm rp k ks rs).size = p + 1 + ks.size + rs.size := by simp only [For.size]; omega
    rw [hsz] at hB ⊢
    have hm1 := lx_mono S (show p + 1 + ks.size ≤ p + 1 + ks.size + rs.size by omega)
    have hm2 := lx_mono S hrfit
    have hm3 := lx_mono S (show p ≤ p + 1 by omega)
    have hf : (fat S p).kind = k := by unfold fat; rw [hS]
    have hf' : (S.getD p default).kind = k := hf
    -- the field itself
    have node : ∃ c1, F36 (n + 1) (p : Int) r d (schD S) (pD P) (lnD S) LV cols = some c1 ∧ Lays S Wy (lx S p) (lx S (p + 1 + ks.size)) (cntR S (wayG Wy g)) r 1 cols c1 := by
      rw [F36, gd_in (sch_idx h0)]
      simp only [sch_cells, Int.toNat_natCast, getD_drop, intD_int, isI_int, List.length_drop, flds_len, and_true, true_and, and_self, Nat.mul_one, Nat.add_zero, fl2 h0, hf']
      rw [gd_in (by omega), gd_in (by omega)]
      by_cases e : k = 0
      · have : ((k : Int) != 0) = false := by subst e; rfl
        rw [this, cond_false, wrap_i64 (by omega) (by omega)]
        obtain ⟨c1, q1, q2, q3, q4⟩ := F36_eq hw hSP hs d LV ks p (p + 1) n gk hk (by omega) (by omega) r N (n - ks.size) cols hc (hB.sub hm3 hm1 (Nat.le_refl _)) hN
        rw [show n - ks.size + ks.size = n by omega] at q1
        refine ⟨c1, ?_, ?_⟩
        · rw [show ((p : Int) + 1) = ((p + 1 : Nat) : Int) by omega, q1]
          have := F36_skip (P := P) (F36 n) r d (lnD S) LV (p : Int) hSP hs (n - ks.size - (S.length - (p + 1 + ks.size))) c1 (S.length - (p + 1 + ks.size)) (p + 1 + ks.size) (by omega) (fun q a b => hen q a (by omega))
          rw [show n - ks.size - (S.length - (p + 1 + ks.size)) + (S.length - (p + 1 + ks.size)) = n - ks.size by omega] at this
          rw [this, show p + 1 + ks.size + (S.length - (p + 1 + ks.size)) = S.length by omega]
          obtain ⟨m', hm'⟩ : ∃ k, n - ks.size - (S.length - (p + 1 + ks.size)) = k + 1 := ⟨n - ks.size - (S.length - (p + 1 + ks.size)) - 1, by omega⟩
          rw [hm', F36_end (P := P) (F36 n) r d (lnD S) LV (p : Int) hSP hs]
        · obtain ⟨⟨E, a1, m1⟩, ci⟩ := q3 (g3 e)
          have el : lx S (p + 1) = lx S p := by rw [lx_succ, hf, if_pos e]; rfl
          rw [el] at m1
          exact ⟨⟨E, a1, m1.weak (by rw [wayG_nat]; omega) (Nat.le_refl _)⟩, ci⟩
      · have : ((k : Int) != 0) = true := by simp only [bne_iff_ne, ne_eq]; omega
        have hk0 : (fat S p).kind ≠ 0 := by omega
        have ek := g4 e
        subst ek
        obtain ⟨c1, q1, q2, q3⟩ := F35w_eq n (r := r) (d := d) h0 hk0 hc (hB _ (Nat.le_refl _) (by omega)) hN 0 [] false (schD S) (pD P) LV
        rw [this, cond_true, q1, bd_some]
        refine ⟨c1, rfl, ⟨⟨_, q2, ?_⟩, q3⟩⟩
        have el : lx S (p + 1 + For.size .nil) = lx S p + 1 := by simp only [For.size]; rw [Nat.add_zero, lx_succ, hf, if_neg e]
        rw [el]
        exact Em.leaf (lp_lx h0 hk0).2 (by rw [Rl_lx h0 hk0]; omega)
    obtain ⟨c1, n1, n2⟩ := node
    obtain ⟨c2, r1, r2, r3, r4⟩ := F36_eq hw hSP hs d LV rs g (p + 1 + ks.size) (n + 1) gr hr (by omega) (by omega) r N m c1 n2.ci (n2.far (hB.sub (by omega) (Nat.le_refl _) (Nat.le_refl _)) (Nat.le_refl _) hm2) hN
    have hlay : Lays S Wy (lx S p) (lx S (p + 1 + ks.size + rs.size)) (cntR S (wayG Wy g)) r 1 cols c2 := n2.seq hw hSP ⟨g1, g2, g3, g4, gk, gr⟩ hL0 r2 r3 r4
    refine ⟨c2, ?_, fun h => by simp [For.len] at h, fun _ => hlay, r4⟩
    rw [show m + (For.cons nm rp k ks rs).size = (m + rs.size + ks.size) + 1 by simp only [For.size]; omega, F36_L1, gd_in sch_isSl]
    have hc1 : decide ((p : Int) < (lenN (schD S) : Int)) = true := decide_eq_true (by rw [sch_len]; omega)
    rw [hc1, cond_true, gd_in (p_idx (by omega))]
    simp only [p_cells, Int.toNat_natCast, getD_drop, intD_int, isI_int, List.length_drop, isD_length, and_true, true_and, and_self, Nat.mul_one, Nat.add_zero, isD_at (show p < P.length by omega), hPg]
    rw [gd_in (by omega), beq_self_eq_true, cond_true, n1, bd_some]
    unfold F36_K2
    rw [wrap_i64 (by omega) (by omega), show ((p : Int) + 1) = ((p + 1 : Nat) : Int) by omega, F36_skip (P := P) (F36 (n + 1)) r d (lnD S) LV g hSP hs (m + rs.size) c1 ks.size (p + 1) (by omega) (fun q a b => hkn q a b)]
    exact r1

theorem F36_node (hw : Ways P Wy) (hSP : S.length = P.length) (hs : S.length < 100) (d : Nat) (LV : PD) {nm : List UInt8} {rp k : Nat} {ks rs : For} {g : Int} {p n : Nat} (hG : For.Good (.cons nm rp k ks rs)) (hL : Loc S P g p (.cons nm rp k ks rs)) (hn : 1000 + ks.hgt ≤ n) {r N : Nat} {cols : List Col} (hc : CI S cols) (hB : BN (lx S p) (lx S (p + 1 + ks.size)) N cols) (hN : N ≤ 1000000) :
    ∃ c1, F36 n (p : Int) r d (schD S) (pD P) (lnD S) LV cols = some c1 ∧ Lays S Wy (lx S p) (lx S (p + 1 + ks.size)) (cntR S (wayG Wy g)) r 1 cols c1 := by
  have hlt := lc_lt hSP hG hL
  have hcw := cntR_wayG hw hSP hL
  have hen := fun j => hL.end_ne (j := j)
  obtain ⟨h0, hS, hPg, hgp, hk, hr, _⟩ := hL
  obtain ⟨g1, g2, g3, g4, gk, gr⟩ := hG
  have hfit := hk.fits (by omega)
  obtain ⟨n, rfl⟩ : ∃ k, n = k + 1 := ⟨n - 1, by omega⟩
  have hm3 := lx_mono S (show p ≤ p + 1 by omega)
  have hf : (fat S p).kind = k := by unfold fat; rw [hS]
  have hf' : (S.getD p default).kind = k := hf
  rw [F36, gd_in (sch_idx h0)]
  simp only [sch_cells, Int.toNat_natCast, getD_drop, intD_int, isI_int, List.length_drop, flds_len, and_true, true_and, and_self, Nat.mul_one, Nat.add_zero, fl2 h0, hf']
  rw [gd_in (by omega), gd_in (by omega)]
  by_cases e : k = 0
  · have : ((k : Int) != 0) = false := by subst e; rfl
    rw [this, cond_false, wrap_i64 (by omega) (by omega)]
    obtain ⟨c1, q1, q2, q3, q4⟩ := F36_eq hw hSP hs d LV ks p (p + 1) n gk hk (by omega) (by omega) r N (n - ks.size) cols hc (hB.sub hm3 (Nat.le_refl _) (Nat.le_refl _)) hN
    rw [show n - ks.size + ks.size = n by omega] at q1
    refine ⟨c1, ?_, ?_⟩
    · rw [show ((p : Int) + 1) = ((p + 1 : Nat) : Int) by omega, q1]
      have := F36_skip (P := P) (F36 n) r d (lnD S) LV (p : Int) hSP hs (n - ks.size - (S.length - (p + 1 + ks.size))) c1 (S.length - (p + 1 + ks.size)) (p + 1 + ks.size) (by omega) (fun q a b => hen q a (by omega))
      rw [show n - ks.size - (S.length - (p + 1 + ks.size)) + (S.length - (p + 1 + ks.size)) = n - ks.size by omega] at this
      rw [this, show p + 1 + ks.size + (S.length - (p + 1 + ks.size)) = S.length by omega]
      obtain ⟨m', hm'⟩ : ∃ k, n - ks.size - (S.length - (p + 1 + ks.size)) = k + 1 := ⟨n - ks.size - (S.length - (p + 1 + ks.size)) - 1, by omega⟩
      rw [hm', F36_end (P := P) (F36 n) r d (lnD S) LV (p : Int) hSP hs]
    · obtain ⟨⟨E, a1, m1⟩, ci⟩ := q3 (g3 e)
      have el : lx S (p + 1) = lx S p := by rw [lx_succ, hf, if_pos e]; rfl
      rw [el] at m1
      exact ⟨⟨E, a1, m1.weak (by rw [wayG_nat]; omega) (Nat.le_refl _)⟩, ci⟩
  · have : ((k : Int) != 0) = true := by simp only [bne_iff_ne, ne_eq]; omega
    have hk0 : (fat S p).kind ≠ 0 := by omega
    have ek := g4 e
    subst ek
    obtain ⟨c1, q1, q2, q3⟩ := F35w_eq n (r := r) (d := d) h0 hk0 hc (hB _ (Nat.le_refl _) (by omega)) hN 0 [] false (schD S) (pD P) LV
    rw [this, cond_true, q1, bd_some]
    refine ⟨c1, rfl, ⟨⟨_, q2, ?_⟩, q3⟩⟩
    have el : lx S (p + 1 + For.size .nil) = lx S p + 1 := by simp only [For.size]; rw [Nat.add_zero, lx_succ, hf, if_neg e]
    rw [el]
    exact Em.leaf (lp_lx h0 hk0).2 (by rw [Rl_lx h0 hk0]; omega)
end
end Go.Proofs.Ytfhpoffgnpgagaa

namespace Go.Proofs.Ytfhpoffgnpgagaa
open Go Go.Proofs Go.Abs
set_option linter.unusedVariables false
set_option linter.unusedSimpArgs false

/-- A value: its number, its letters, what it holds. -/
abbrev Vl := Int × List UInt8 × PD
def vD (v : Vl) : List PD := [.int .i64 v.1, .str v.2.1, v.2.2]
theorem vD_len (v : Vl) : (vD v).length = 3 := rfl
theorem vDs_len (vs : List Vl) : (vs.flatMap vD).length = vs.length * 3 := flat_length vD 3 vD_len vs
def leafOK (k : Nat) (z : Int) (b : List UInt8) : Prop :=
  (k = 1 → 0 ≤ z ∧ z ≤ 1) ∧ (k = 2 → -2147483648 ≤ z ∧ z ≤ 2147483647) ∧ (k = 4 → z = 0) ∧ (k ≠ 4 → b = []) ∧ b.length ≤ 100 ∧ inR z

/-- The values fit the fields. -/
def Conf : For → List PD → Prop
  | .nil, ds => ds = []
  | .cons _ r k ks rs, ds => ∃ (vs : List Vl) (es : List PD), ds = .lst vs.length (vs.flatMap vD) :: es ∧ vs.length ≤ 3 ∧ (r = 0 → vs.length = 1) ∧ (r = 1 → vs.length ≤ 1) ∧
      (∀ v ∈ vs, (k = 0 → v.1 = 0 ∧ v.2.1 = [] ∧ ∃ fs, v.2.2 = .lst fs.length fs ∧ Conf ks fs) ∧ (k ≠ 0 → v.2.2 = .nil ∧ leafOK k v.1 v.2.1)) ∧ Conf rs es
def NodeV (k : Nat) (ks : For) (v : Vl) : Prop := (k = 0 → v.1 = 0 ∧ v.2.1 = [] ∧ ∃ fs, v.2.2 = .lst fs.length fs ∧ Conf ks fs) ∧ (k ≠ 0 → v.2.2 = .nil ∧ leafOK k v.1 v.2.1)
theorem Conf_len : ∀ {F : For} {ds : List PD}, Conf F ds → ds.length = F.len
  | .nil, ds, h => by have h : ds = [] := h
                      subst h; rfl
  | .cons _ _ _ _ rs, ds, ⟨vs, es, e, _, _, _, _, h⟩ => by subst e; simp only [List.length_cons, For.len, Conf_len h]

theorem vat (vs : List Vl) {i o : Nat} (h : i < vs.length) (ho : o < 3) : (vs.flatMap vD).getD (i * 3 + o) .nil = (vD vs[i]).getD o .nil := by
  rw [List.getD_eq_getElem?_getD, flat_get vD 3 vD_len h ho, List.getD_eq_getElem?_getD]
theorem v0 (vs : List Vl) {i : Nat} (h : i < vs.length) : (vs.flatMap vD).getD (i * 3) .nil = .int .i64 vs[i].1 := vat vs h (o := 0) (by omega)
theorem v1 (vs : List Vl) {i : Nat} (h : i < vs.length) : (vs.flatMap vD).getD (i * 3 + 1) .nil = .str vs[i].2.1 := vat vs h (by omega)
theorem v2 (vs : List Vl) {i : Nat} (h : i < vs.length) : (vs.flatMap vD).getD (i * 3 + 2) .nil = vs[i].2.2 := vat vs h (by omega)
theorem at_drop {es fs : List PD} {kc : Nat} {x : PD} (h : es.drop kc = x :: fs) : kc < es.length ∧ es.getD kc .nil = x ∧ es.drop (kc + 1) = fs := by
  have hl : kc < es.length := by
    rcases Nat.lt_or_ge kc es.length with h1 | h1
    · exact h1
    · rw [List.drop_eq_nil_of_le h1] at h; cases h
  rw [List.drop_eq_getElem_cons hl] at h
  obtain ⟨a, b⟩ := List.cons.inj h
  refine ⟨hl, ?_, b⟩
  rw [List.getD_eq_getElem?_getD, List.getElem?_eq_getElem hl, ← a]; rfl

section
variable {S : List Fld} {P : List Int} {Wy : List (List Nat)}

abbrev Self := Int → Int → Int → Int → List UInt8 → PD → PD → PD → PD → PD → List Col → Option (List Col)
section
variable (self : Self) (n r d : Nat) (K LN LV : PD) (g : Int)
theorem F18_skip1 (hSP : S.length = P.length) (hs : S.length < 100) {j : Nat} (hj : j < S.length) (hne : P.getD j 0 ≠ g) (m : Nat) (kc : Int) (cols : List Col) :
    F18_L1 (schD S) (pD P) g K n r d LN LV self (m + 1) kc (j : Int) cols = F18_L1 (schD S) (pD P) g K n r d LN LV self m kc ((j + 1 : Nat) : Int) cols := by
  rw [F18_L1, gd_in sch_isSl]
  have hc : decide ((j : Int) < (lenN (schD S) : Int)) = true := decide_eq_true (by rw [sch_len]; omega)
  rw [hc, cond_true, gd_in (p_idx (by omega))]
  simp only [p_cells, Int.toNat_natCast, getD_drop, intD_int, isI_int, List.length_drop, isD_length, and_true, true_and, and_self, Nat.mul_one, Nat.add_zero, isD_at (show j < P.length by omega)]
  rw [gd_in (by omega)]
  have : (P.getD j 0 != g) = true := by simpa using hne
  rw [this, cond_true]
  unfold F18_K2
  rw [wrap_i64 (by omega) (by omega)]; rfl
theorem F18_skip (hSP : S.length = P.length) (hs : S.length < 100) (m : Nat) (kc : Int) (cols : List Col) : ∀ (e j : Nat), j + e ≤ S.length → (∀ q, j ≤ q → q < j + e → P.getD q 0 ≠ g) →
    F18_L1 (schD S) (pD P) g K n r d LN LV self (m + e) kc (j : Int) cols = F18_L1 (schD S) (pD P) g K n r d LN LV self m kc ((j + e : Nat) : Int) cols := by
  intro e
  induction e with
  | zero => intro j _ _; rfl
  | succ e ih =>
    intro j hj hne
    rw [show m + (e + 1) = (m + e) + 1 by omega, F18_skip1 self n r d K LN LV g hSP hs (by omega) (hne j (by omega) (by omega)), ih (j + 1) (by omega) (fun q a b => hne q (by omega) (by omega)), show j + 1 + e = j + (e + 1) by omega]
theorem F18_end (hSP : S.length = P.length) (hs : S.length < 100) (m : Nat) (kc : Int) (cols : List Col) : F18_L1 (schD S) (pD P) g K n r d LN LV self (m + 1) kc ((S.length : Nat) : Int) cols = some cols := by
  rw [F18_L1, gd_in sch_isSl]
  have hc : decide ((S.length : Int) < (lenN (schD S) : Int)) = false := decide_eq_false (by rw [sch_len]; omega)
  rw [hc, cond_false]
end

/-- One occurrence, at the loop. -/
theorem F18_L4_step (hs : S.length < 100) (self : Self) {es : List PD} {kc p r d dd : Nat} {vs : List Vl} (hkc : kc < es.length) (hx : es.getD kc .nil = .lst vs.length (vs.flatMap vD)) (hv3 : vs.length ≤ 3) (hp : p < S.length) (hd : d + dd ≤ 20000) (LN : PD) (lo1 : Int → Int → List Col → Option (List Col)) (m : Nat) {i : Nat} (hi : i < vs.length) (cols c1 : List Col) (A B : PD)
    (h : self (p : Int) (if i = 0 then (r : Int) else (cntR S (Wy.getD p []) : Int)) ((d + dd : Nat) : Int) vs[i].1 vs[i].2.1 vs[i].2.2 A B LN (lvD S Wy) cols = some c1) (hsl : isSlD vs[i].2.2 = true) :
    F18_L4 (.lst es.length es) (kc : Int) self (p : Int) (r : Int) (d : Int) (dd : Int) A B LN (lvD S Wy) lo1 (m + 1) (i : Int) cols = F18_L4 (.lst es.length es) (kc : Int) self (p : Int) (r : Int) (d : Int) (dd : Int) A B LN (lvD S Wy) lo1 m ((i + 1 : Nat) : Int) c1 := by
  rw [F18_L4]
  have hlv : (isD (lvls S Wy)).getD p .nil = .int .i64 (cntR S (Wy.getD p []) : Int) := by rw [isD_at (by rw [lvls_len]; exact hp), lvls_at hp]
  have hc1 : decide ((i : Int) < (vs.length : Int)) = true := decide_eq_true (by omega)
  simp only [cellsD_lst, isSlD_lst, lenN_lst, Int.toNat_natCast, getD_drop, Nat.mul_one, Nat.add_zero, hx, hc1, cond_true]
  rw [gd_in trivial]
  have hidx : idxOK 3 (.lst vs.length (vs.flatMap vD)) (i : Int) := idx_lst (by omega) (by omega) (by rw [vDs_len]; simp only [Int.toNat_natCast]; omega)
  have hI : i * 3 + 3 ≤ vs.length * 3 := by omega
  simp only [gd_in hidx, v0 vs hi, v1 vs hi, v2 vs hi, isI_int, isS_str, intD_int, strD_str, hsl, List.length_drop, vDs_len, and_true]
  rw [wrap_i64 (by omega) (by omega), show (d : Int) + (dd : Int) = ((d + dd : Nat) : Int) by omega]
  by_cases e : i = 0
  · subst e
    rw [if_pos rfl] at h
    have : (((0 : Nat) : Int) == 0) = true := rfl
    rw [this, cond_true, gd_in (by omega), gd_in (by omega), h, bd_some]
    unfold F18_K5
    rw [wrap_i64 (by omega) (by omega)]; rfl
  · rw [if_neg e] at h
    have : ((i : Int) == 0) = false := by simp only [beq_eq_false_iff_ne, ne_eq]; omega
    rw [this, cond_false, gd_in (lv_idx hp)]
    simp only [lv_cells, Int.toNat_natCast, Nat.mul_one, Nat.add_zero, getD_drop, hlv, isI_int, intD_int, List.length_drop, isD_length, lvls_len, and_true]
    rw [gd_in (by omega), gd_in (by omega), gd_in (by omega), h, bd_some]
    unfold F18_K5
    rw [wrap_i64 (by omega) (by omega)]; rfl
theorem F18_L4_end (self : Self) {es : List PD} {kc p : Nat} {r d dd : Int} {vs : List Vl} (hkc : kc < es.length) (hkb : es.length < 100000) (hx : es.getD kc .nil = .lst vs.length (vs.flatMap vD)) (LN LV : PD) (lo1 : Int → Int → List Col → Option (List Col)) (m : Nat) (cols : List Col) (A B : PD) (hp : p < 100000) :
    F18_L4 (.lst es.length es) (kc : Int) self (p : Int) r d dd A B LN LV lo1 (m + 1) ((vs.length : Nat) : Int) cols = lo1 ((kc + 1 : Nat) : Int) ((p + 1 : Nat) : Int) cols := by
  rw [F18_L4]
  have hc1 : decide (((vs.length : Nat) : Int) < (vs.length : Int)) = false := decide_eq_false (by omega)
  simp only [cellsD_lst, isSlD_lst, lenN_lst, Int.toNat_natCast, getD_drop, Nat.mul_one, Nat.add_zero, hx, hc1, cond_false]
  rw [gd_in trivial]
  unfold F18_K2
  rw [wrap_i64 (by omega) (by omega), wrap_i64 (by omega) (by omega)]; rfl

/-- The occurrences behind the first. -/
theorem F18_rest (hs : S.length < 100) (self : Self) {es : List PD} {kc p r d dd lo hi B N : Nat} {vs : List Vl} (hkc : kc < es.length) (hx : es.getD kc .nil = .lst vs.length (vs.flatMap vD)) (hv3 : vs.length ≤ 3) (hp : p < S.length) (hd : d + dd ≤ 20000) (LN : PD) (lo1 : Int → Int → List Col → Option (List Col)) (A A' : PD) (hhi : hi ≤ nL S)
    (hn : 2 ≤ vs.length → nx S Wy (hi - 1) (cntR S (Wy.getD p [])) = lo)
    (H : ∀ v ∈ vs, ∀ (N' : Nat) (c : List Col), CI S c → BN lo hi N' c → N' + B ≤ 1000000 → isSlD v.2.2 = true ∧ ∃ c1, self (p : Int) (cntR S (Wy.getD p []) : Int) ((d + dd : Nat) : Int) v.1 v.2.1 v.2.2 A A' LN (lvD S Wy) c = some c1 ∧ Lays S Wy lo hi (cntR S (Wy.getD p [])) (cntR S (Wy.getD p [])) B c c1) :
    ∀ (k i m : Nat) (N : Nat) (cols : List Col), i + k = vs.length → 1 ≤ i → CI S cols → BN lo hi N cols → N + k * B ≤ 1000000 →
      ∃ c', F18_L4 (.lst es.length es) (kc : Int) self (p : Int) (r : Int) (d : Int) (dd : Int) A A' LN (lvD S Wy) lo1 (m + k) (i : Int) cols = F18_L4 (.lst es.length es) (kc : Int) self (p : Int) (r : Int) (d : Int) (dd : Int) A A' LN (lvD S Wy) lo1 m ((vs.length : Nat) : Int) c' ∧ (k = 0 → c' = cols) ∧ (0 < k → Lays S Wy lo hi (cntR S (Wy.getD p [])) (cntR S (Wy.getD p [])) (k * B) cols c') ∧ CI S c' := by
  intro k
  induction k with
  | zero => intro i m N cols hi1 _ hc _ _; refine ⟨cols, ?_, fun _ => rfl, fun h => by omega, hc⟩; rw [show i = vs.length by omega]; rfl
  | succ k ih =>
    intro i m N cols hi1 h1 hc hb hN
    have hsucc : (k + 1) * B = B + k * B := by rw [Nat.add_mul, Nat.one_mul]; omega
    have hiv : i < vs.length := by omega
    obtain ⟨hsl, c1, e1, l1⟩ := H vs[i] (List.getElem_mem hiv) N cols hc hb (by omega)
    obtain ⟨c2, e2, z2, l2, ci2⟩ := ih (i + 1) m (N + B) c1 (by omega) (by omega) l1.ci (l1.near hb hhi) (by omega)
    refine ⟨c2, ?_, fun h => by omega, fun _ => ?_, ci2⟩
    · rw [show m + (k + 1) = (m + k) + 1 by omega, F18_L4_step hs self hkc hx hv3 hp hd LN lo1 (m + k) hiv cols c1 A A' (by rw [if_neg (by omega)]; exact e1) hsl, e2]
    · rcases Nat.eq_zero_or_pos k with hk | hk
      · rw [z2 hk]; exact l1.weak (Nat.le_refl _) (by omega)
      · obtain ⟨E1, a1, m1⟩ := l1.ex
        obtain ⟨E2, a2, m2⟩ := (l2 hk).ex
        rw [hsucc]
        exact ⟨⟨_, a1.trans a2, m1.again m2 (hn (by omega))⟩, ci2⟩

theorem F18_eq (hw : Ways P Wy) (hSP : S.length = P.length) (hs : S.length < 100) : ∀ (F : For) (g : Int) (p n : Nat), F.Good → Loc S P g p F → p ≤ S.length → 1000 + F.hgt ≤ n + 1 → ∀ (r d N m kc : Nat) (es : List PD) (cols : List Col), Conf F (es.drop kc) → es.length < 1000 → CI S cols → BN (lx S p) (lx S (p + F.size)) N cols → N + 3 ^ F.hgt ≤ 1000000 → d + F.size ≤ 10000 →
    ∃ cols', F18_L1 (schD S) (pD P) g (.lst es.length es) n r d (lnD S) (lvD S Wy) (F18 n) (m + F.size) (kc : Int) (p : Int) cols = F18_L1 (schD S) (pD P) g (.lst es.length es) n r d (lnD S) (lvD S Wy) (F18 n) m ((kc + F.len : Nat) : Int) ((p + F.size : Nat) : Int) cols' ∧
      (F.len = 0 → cols' = cols) ∧ (0 < F.len → Lays S Wy (lx S p) (lx S (p + F.size)) (cntR S (wayG Wy g)) r (3 ^ F.hgt) cols cols') ∧ CI S cols'
  | .nil, g, p, n, _, _, _, _, r, d, N, m, kc, es, cols, _, _, hc, _, _, _ => ⟨cols, rfl, fun _ => rfl, fun h => by simp [For.len] at h, hc⟩
  | .cons nm rp k ks rs, g, p, n, hG, hL, hp, hn, r, d, N, m, kc, es, cols, hcf, hes, hc, hB, hN, hdd => by
    have hlt := lc_lt hSP hG hL
    have hcw := cntR_wayG hw hSP hL
    have hkn := fun j => hL.kid_ne (j := j)
    have hen := fun j => hL.end_ne (j := j)
    have hL0 := hL
    have hG0 := hG
    obtain ⟨h0, hS, hPg, hgp, hk, hr, _⟩ := hL
    obtain ⟨g1, g2, g3, g4, gk, gr⟩ := hG
    have hfit := hk.fits (by omega)
    have hrfit := hr.fits (by omega)
    obtain ⟨vs, fs, hds, hv3, hv0, hv1, hvv, hcr⟩ := hcf
    obtain ⟨hkc, hx, hdr⟩ := at_drop hds
    have hsz : p + (For.cons nm rp k ks rs).size = p + 1 + ks.size + rs.size := by simp only [For.size]; omega
    have hsz2 : (For.cons nm rp k ks rs).size = 1 + ks.size + rs.size := rfl
    rw [hsz] at hB ⊢
    have hm1 := lx_mono S (show p + 1 + ks.size ≤ p + 1 + ks.size + rs.size by omega)
    have hm2 := lx_mono S hrfit
    have hm3 := lx_mono S (show p ≤ p + 1 by omega)
    have hnL : lx S (p + 1 + ks.size) ≤ nL S := lx_mono S hfit
    have hf : (fat S p).kind = k := by unfold fat; rw [hS]
    have hf' : (S.getD p default).kind = k := hf
    have hr' : (S.getD p default).rep = rp := by rw [hS]
    have hh1 : ks.hgt + 1 ≤ (For.cons nm rp k ks rs).hgt := by simp only [For.hgt]; omega
    have hh2 : rs.hgt ≤ (For.cons nm rp k ks rs).hgt := by simp only [For.hgt]; omega
    have pw1 : 3 * 3 ^ ks.hgt ≤ 3 ^ (For.cons nm rp k ks rs).hgt := by rw [Nat.mul_comm, ← Nat.pow_succ]; exact Nat.pow_le_pow_right (by omega) hh1
    have pw2 : 3 ^ rs.hgt ≤ 3 ^ (For.cons nm rp k ks rs).hgt := Nat.pow_le_pow_right (by omega) hh2
    have pw0 : 0 < 3 ^ ks.hgt := Nat.pow_pos (by omega)
    obtain ⟨n, rfl⟩ : ∃ k, n = k + 1 := ⟨n - 1, by omega⟩
    -- one occurrence
    have node : ∀ v ∈ vs, ∀ (r' N' d' : Nat) (c : List Col), CI S c → BN (lx S p) (lx S (p + 1 + ks.size)) N' c → N' + 3 ^ ks.hgt ≤ 1000000 → d' + ks.size ≤ 10000 → isSlD v.2.2 = true ∧ ∃ c1, F18 (n + 1) (p : Int) (r' : Int) (d' : Int) v.1 v.2.1 v.2.2 (schD S) (pD P) (lnD S) (lvD S Wy) c = some c1 ∧ Lays S Wy (lx S p) (lx S (p + 1 + ks.size)) (cntR S (Wy.getD p [])) r' (3 ^ ks.hgt) c c1 := by
      intro v hv r' N' d' c hc' hB' hN' hd'
      obtain ⟨va, vb⟩ := hvv v hv
      rw [F18]
      by_cases e : k = 0
      · obtain ⟨z1, z2, fs', z3, z4⟩ := va e
        refine ⟨by rw [z3]; rfl, ?_⟩
        have hlen := Conf_len z4
        have hlen2 := For.len_le ks
        rw [z3, gd_in isSlD_lst, gd_in (sch_idx h0)]
        simp only [sch_cells, Int.toNat_natCast, getD_drop, intD_int, isI_int, List.length_drop, flds_len, and_true, true_and, and_self, Nat.mul_one, Nat.add_zero, fl2 h0, hf']
        rw [gd_in (by omega), gd_in (by omega)]
        have : ((k : Int) != 0) = false := by subst e; rfl
        rw [this, cond_false, wrap_i64 (by omega) (by omega)]
        obtain ⟨c1, q1, q2, q3, q4⟩ := F18_eq hw hSP hs ks p (p + 1) n gk hk (by omega) (by omega) r' d' N' (n - ks.size) 0 fs' c (by rw [List.drop_zero]; exact z4) (by omega) hc' (hB'.sub hm3 (Nat.le_refl _) (Nat.le_refl _)) hN' (by omega)
        rw [show n - ks.size + ks.size = n by omega] at q1
        refine ⟨c1, ?_, ?_⟩
        · have q1 : F18_L1 (schD S) (pD P) (p : Int) (.lst fs'.length fs') n r' d' (lnD S) (lvD S Wy) (F18 n) n 0 ((p + 1 : Nat) : Int) c = _ := q1
          rw [show ((p : Int) + 1) = ((p + 1 : Nat) : Int) by omega, q1]
          have := F18_skip (P := P) (F18 n) n r' d' (.lst fs'.length fs') (lnD S) (lvD S Wy) (p : Int) hSP hs (n - ks.size - (S.length - (p + 1 + ks.size))) ((0 + ks.len : Nat) : Int) c1 (S.length - (p + 1 + ks.size)) (p + 1 + ks.size) (by omega) (fun q a b => hen q a (by omega))
          rw [show n - ks.size - (S.length - (p + 1 + ks.size)) + (S.length - (p + 1 + ks.size)) = n - ks.size by omega] at this
          rw [this, show p + 1 + ks.size + (S.length - (p + 1 + ks.size)) = S.length by omega]
          obtain ⟨m', hm'⟩ : ∃ k, n - ks.size - (S.length - (p + 1 + ks.size)) = k + 1 := ⟨n - ks.size - (S.length - (p + 1 + ks.size)) - 1, by omega⟩
          rw [hm', F18_end (P := P) (F18 n) n r' d' _ (lnD S) (lvD S Wy) (p : Int) hSP hs]
        · have el : lx S (p + 1) = lx S p := by rw [lx_succ, hf, if_pos e]; rfl
          have := q3 (g3 e)
          rw [el, wayG_nat] at this
          exact this
      · obtain ⟨z1, z2⟩ := vb e
        refine ⟨by rw [z1]; rfl, ?_⟩
        rw [z1, gd_in isSlD_nil, gd_in (sch_idx h0)]
        simp only [sch_cells, Int.toNat_natCast, getD_drop, intD_int, isI_int, List.length_drop, flds_len, and_true, true_and, and_self, Nat.mul_one, Nat.add_zero, fl2 h0, hf']
        rw [gd_in (by omega), gd_in (by omega)]
        have : ((k : Int) != 0) = true := by simp only [bne_iff_ne, ne_eq]; omega
        have hk0 : (fat S p).kind ≠ 0 := by omega
        obtain ⟨c1, q1, q2, q3⟩ := F35w_eq n (r := r') (d := d') h0 hk0 hc' (hB' _ (Nat.le_refl _) (by omega)) (by omega) v.1 v.2.1 true (schD S) (pD P) (lvD S Wy)
        rw [this, cond_true, q1, bd_some]
        refine ⟨c1, rfl, ⟨⟨_, q2, ?_⟩, q3⟩⟩
        have ek := g4 e
        subst ek
        have el : lx S (p + 1 + For.size .nil) = lx S p + 1 := by simp only [For.size]; rw [Nat.add_zero, lx_succ, hf, if_neg e]
        rw [el]
        exact (Em.leaf (lp_lx h0 hk0).2 (by rw [Rl_lx h0 hk0]; exact Nat.le_refl _)).weak (Nat.le_refl _) (by simp only [For.hgt]; omega)
    -- all occurrences
    have occ : ∀ (dd : Nat) (lo1 : Int → Int → List Col → Option (List Col)), dd ≤ 1 → 0 < vs.length → ∃ c1, F18_K3 (.lst es.length es) (kc : Int) (F18 (n + 1)) (p : Int) r d (schD S) (pD P) (lnD S) (lvD S Wy) lo1 (n + 1) cols dd = lo1 ((kc + 1 : Nat) : Int) ((p + 1 : Nat) : Int) c1 ∧ Lays S Wy (lx S p) (lx S (p + 1 + ks.size)) (cntR S (wayG Wy g)) r (3 ^ (For.cons nm rp k ks rs).hgt) cols c1 := by
      intro dd lo1 hdd1 hpos
      unfold F18_K3
      have hB1 := hB.sub (lo' := lx S p) (hi' := lx S (p + 1 + ks.size)) (N' := N) (Nat.le_refl _) hm1 (Nat.le_refl _)
      obtain ⟨hsl, c1, e1, l1⟩ := node vs[0] (List.getElem_mem hpos) r N (d + dd) cols hc hB1 (by omega) (by omega)
      have hn2 : 2 ≤ vs.length → nx S Wy (lx S (p + 1 + ks.size) - 1) (cntR S (Wy.getD p [])) = lx S p := by
        intro h2
        have : rp = 2 := by
          rcases Nat.lt_or_ge rp 2 with h | h
          · have : rp = 0 ∨ rp = 1 := by omega
            rcases this with h | h
            · have := hv0 h; omega
            · have := hv1 h; omega
          · omega
        rw [hcw, if_pos this]
        subst this
        exact nx_again hw hSP hL0 hlt
      obtain ⟨j, hj⟩ : ∃ j, vs.length = j + 1 := ⟨vs.length - 1, by omega⟩
      have hjB : j * 3 ^ ks.hgt ≤ 2 * 3 ^ ks.hgt := Nat.mul_le_mul_right _ (by omega)
      obtain ⟨c2, e2, z2, l2, ci2⟩ := F18_rest (N := N) (r := r) (d := d) (dd := dd) hs (F18 (n + 1)) hkc hx hv3 h0 (by omega) (lnD S) lo1 (schD S) (pD P) hnL hn2 (B := 3 ^ ks.hgt)
        (fun v hv N' c a b b' => node v hv _ N' (d + dd) c a b b' (by omega)) j 1 (n - j) (N + 3 ^ ks.hgt) c1 (by omega) (by omega) l1.ci (l1.near hB1 hnL) (by omega)
      refine ⟨c2, ?_, ?_⟩
      · have hst := F18_L4_step (r := r) (d := d) (dd := dd) hs (F18 (n + 1)) hkc hx hv3 h0 (by omega) (lnD S) lo1 n hpos cols c1 (schD S) (pD P) (by rw [if_pos rfl]; exact e1) hsl
        have hst : F18_L4 (.lst es.length es) (kc : Int) (F18 (n + 1)) (p : Int) (r : Int) (d : Int) (dd : Int) (schD S) (pD P) (lnD S) (lvD S Wy) lo1 (n + 1) 0 cols = _ := hst
        rw [hst]
        rw [show n - j + j = n by omega] at e2
        have e2 : F18_L4 (.lst es.length es) (kc : Int) (F18 (n + 1)) (p : Int) (r : Int) (d : Int) (dd : Int) (schD S) (pD P) (lnD S) (lvD S Wy) lo1 n ((0 + 1 : Nat) : Int) c1 = _ := e2
        rw [e2]
        obtain ⟨m', hm'⟩ : ∃ k, n - j = k + 1 := ⟨n - j - 1, by omega⟩
        rw [hm', F18_L4_end (F18 (n + 1)) hkc (by omega) hx (lnD S) (lvD S Wy) lo1 m' c2 _ _ (by omega)]
      · rcases Nat.eq_zero_or_pos j with hj0 | hj0
        · rw [z2 hj0]; exact l1.weak (by omega) (by omega)
        · obtain ⟨E1, a1, m1⟩ := l1.ex
          obtain ⟨E2, a2, m2⟩ := (l2 hj0).ex
          exact ⟨⟨_, a1.trans a2, (m1.again m2 (hn2 (by omega))).weak (by omega) (by omega)⟩, ci2⟩
    -- the field, at the loop
    have fld : ∀ m', ∃ c1, F18_L1 (schD S) (pD P) g (.lst es.length es) (n + 1) r d (lnD S) (lvD S Wy) (F18 (n + 1)) (m' + 1) (kc : Int) (p : Int) cols = F18_L1 (schD S) (pD P) g (.lst es.length es) (n + 1) r d (lnD S) (lvD S Wy) (F18 (n + 1)) m' ((kc + 1 : Nat) : Int) ((p + 1 : Nat) : Int) c1 ∧ Lays S Wy (lx S p) (lx S (p + 1 + ks.size)) (cntR S (wayG Wy g)) r (3 ^ (For.cons nm rp k ks rs).hgt) cols c1 := by
      intro m'
      have hc1 : decide ((p : Int) < (lenN (schD S) : Int)) = true := decide_eq_true (by rw [sch_len]; omega)
      have hidx : idxOK 1 (.lst es.length es) (kc : Int) := idx_lst (by omega) (by omega) (by simp only [Int.toNat_natCast]; omega)
      have hgg : (g != g) = false := by simp
      rcases Nat.eq_zero_or_pos vs.length with hz | hz
      · obtain ⟨c1, n1, n2⟩ := F36_node hw hSP hs d (lvD S Wy) hG0 hL0 (n := n + 1) (r := r) (by omega) hc (hB.sub (Nat.le_refl _) hm1 (Nat.le_refl _)) (by omega)
        refine ⟨c1, ?_, n2.weak (Nat.le_refl _) (by omega)⟩
        rw [F18_L1, gd_in sch_isSl, hc1, cond_true, gd_in (p_idx (by omega))]
        simp only [p_cells, Int.toNat_natCast, getD_drop, intD_int, isI_int, List.length_drop, isD_length, and_true, true_and, and_self, Nat.mul_one, Nat.add_zero, isD_at (show p < P.length by omega), hPg, hgg, cond_false, gd_in hidx, cellsD_lst, hx, isSlD_lst, lenN_lst]
        rw [gd_in (by omega), gd_in (by omega), gd_in trivial]
        have : ((vs.length : Int) == 0) = true := by rw [hz]; rfl
        rw [this, cond_true, n1, bd_some]
        unfold F18_K2
        rw [wrap_i64 (by omega) (by omega), wrap_i64 (by omega) (by omega)]; rfl
      · have red : ∀ X, F18_L1 (schD S) (pD P) g (.lst es.length es) (n + 1) r d (lnD S) (lvD S Wy) (F18 (n + 1)) (m' + 1) (kc : Int) (p : Int) cols = X ↔ F18_K3 (.lst es.length es) (kc : Int) (F18 (n + 1)) (p : Int) r d (schD S) (pD P) (lnD S) (lvD S Wy) (F18_L1 (schD S) (pD P) g (.lst es.length es) (n + 1) r d (lnD S) (lvD S Wy) (F18 (n + 1)) m') (n + 1) cols ((if rp = 0 then 0 else 1 : Nat) : Int) = X := by
          intro X
          rw [F18_L1, gd_in sch_isSl, hc1, cond_true, gd_in (p_idx (by omega))]
          simp only [p_cells, Int.toNat_natCast, getD_drop, intD_int, isI_int, List.length_drop, isD_length, and_true, true_and, and_self, Nat.mul_one, Nat.add_zero, isD_at (show p < P.length by omega), hPg, hgg, cond_false, gd_in hidx, cellsD_lst, hx, isSlD_lst, lenN_lst]
          rw [gd_in (by omega), gd_in (by omega), gd_in trivial]
          have : ((vs.length : Int) == 0) = false := by simp only [beq_eq_false_iff_ne, ne_eq]; omega
          rw [this, cond_false, gd_in (sch_idx h0)]
          simp only [sch_cells, Int.toNat_natCast, getD_drop, List.length_drop, flds_len, fl1 h0, hr', isI_int, intD_int, and_true]
          rw [gd_in (by omega), gd_in (by omega)]
          by_cases e : rp = 0
          · have : ((rp : Int) != 0) = false := by subst e; rfl
            rw [this, cond_false, if_pos e]; exact Iff.rfl
          · have : ((rp : Int) != 0) = true := by simp only [bne_iff_ne, ne_eq]; omega
            rw [this, cond_true, if_neg e]; exact Iff.rfl
        obtain ⟨c1, o1, o2⟩ := occ (if rp = 0 then 0 else 1) (F18_L1 (schD S) (pD P) g (.lst es.length es) (n + 1) r d (lnD S) (lvD S Wy) (F18 (n + 1)) m') (by split <;> omega) hz
        exact ⟨c1, (red _).2 o1, o2⟩
    obtain ⟨c1, n1, n2⟩ := fld (m + rs.size + ks.size)
    obtain ⟨c2, r1, r2, r3, r4⟩ := F18_eq hw hSP hs rs g (p + 1 + ks.size) (n + 1) gr hr (by omega) (by omega) r d N m (kc + 1) es c1 (by rw [hdr]; exact hcr) hes n2.ci (n2.far (hB.sub (by omega) (Nat.le_refl _) (Nat.le_refl _)) (Nat.le_refl _) hm2) (by omega) (by omega)
    have hlay : Lays S Wy (lx S p) (lx S (p + 1 + ks.size + rs.size)) (cntR S (wayG Wy g)) r (3 ^ (For.cons nm rp k ks rs).hgt) cols c2 := n2.seq hw hSP hG0 hL0 r2 (fun h => (r3 h).weak (Nat.le_refl _) pw2) r4
    refine ⟨c2, ?_, fun h => by simp [For.len] at h, fun _ => hlay, r4⟩
    rw [show m + (For.cons nm rp k ks rs).size = (m + rs.size + ks.size) + 1 by simp only [For.size]; omega, n1, F18_skip (P := P) (F18 (n + 1)) (n + 1) r d _ (lnD S) (lvD S Wy) g hSP hs (m + rs.size) _ c1 ks.size (p + 1) (by omega) (fun q a b => hkn q a b)]
    rw [show kc + (For.cons nm rp k ks rs).len = kc + 1 + rs.len by simp only [For.len]; omega]
    exact r1

theorem F18_node (hw : Ways P Wy) (hSP : S.length = P.length) (hs : S.length < 100) {nm : List UInt8} {rp k : Nat} {ks rs : For} {g : Int} {p n : Nat} (hG : For.Good (.cons nm rp k ks rs)) (hL : Loc S P g p (.cons nm rp k ks rs)) (hn : 1000 + ks.hgt ≤ n + 1) {v : Vl} (hv : NodeV k ks v) (r' N' d' : Nat) (c : List Col) (hc' : CI S c) (hB' : BN (lx S p) (lx S (p + 1 + ks.size)) N' c) (hN' : N' + 3 ^ ks.hgt ≤ 1000000) (hd' : d' + ks.size ≤ 10000) :
    isSlD v.2.2 = true ∧ ∃ c1, F18 (n + 1) (p : Int) (r' : Int) (d' : Int) v.1 v.2.1 v.2.2 (schD S) (pD P) (lnD S) (lvD S Wy) c = some c1 ∧ Lays S Wy (lx S p) (lx S (p + 1 + ks.size)) (cntR S (Wy.getD p [])) r' (3 ^ ks.hgt) c c1 := by
  have hlt := lc_lt hSP hG hL
  have hen := fun j => hL.end_ne (j := j)
  obtain ⟨h0, hS, hPg, hgp, hk, hr, _⟩ := hL
  obtain ⟨g1, g2, g3, g4, gk, gr⟩ := hG
  have hfit := hk.fits (by omega)
  have hm3 := lx_mono S (show p ≤ p + 1 by omega)
  have hnL : lx S (p + 1 + ks.size) ≤ nL S := lx_mono S hfit
  have hf : (fat S p).kind = k := by unfold fat; rw [hS]
  have hf' : (S.getD p default).kind = k := hf
  have pw0 : 0 < 3 ^ ks.hgt := Nat.pow_pos (by omega)
  obtain ⟨va, vb⟩ := hv
  rw [F18]
  by_cases e : k = 0
  · obtain ⟨z1, z2, fs', z3, z4⟩ := va e
    refine ⟨by rw [z3]; rfl, ?_⟩
    have hlen := Conf_len z4
    have hlen2 := For.len_le ks
    rw [z3, gd_in isSlD_lst, gd_in (sch_idx h0)]
    simp only [sch_cells, Int.toNat_natCast, getD_drop, intD_int, isI_int, List.length_drop, flds_len, and_true, true_and, and_self, Nat.mul_one, Nat.add_zero, fl2 h0, hf']
    rw [gd_in (by omega), gd_in (by omega)]
    have : ((k : Int) != 0) = false := by subst e; rfl
    rw [this, cond_false, wrap_i64 (by omega) (by omega)]
    obtain ⟨c1, q1, q2, q3, q4⟩ := F18_eq hw hSP hs ks p (p + 1) n gk hk (by omega) (by omega) r' d' N' (n - ks.size) 0 fs' c (by rw [List.drop_zero]; exact z4) (by omega) hc' (hB'.sub hm3 (Nat.le_refl _) (Nat.le_refl _)) hN' (by omega)
    rw [show n - ks.size + ks.size = n by omega] at q1
    refine ⟨c1, ?_, ?_⟩
    · have q1 : F18_L1 (schD S) (pD P) (p : Int) (.lst fs'.length fs') n r' d' (lnD S) (lvD S Wy) (F18 n) n 0 ((p + 1 : Nat) : Int) c = _ := q1
      rw [show ((p : Int) + 1) = ((p + 1 : Nat) : Int) by omega, q1]
      have := F18_skip (P := P) (F18 n) n r' d' (.lst fs'.length fs') (lnD S) (lvD S Wy) (p : Int) hSP hs (n - ks.size - (S.length - (p + 1 + ks.size))) ((0 + ks.len : Nat) : Int) c1 (S.length - (p + 1 + ks.size)) (p + 1 + ks.size) (by omega) (fun q a b => hen q a (by omega))
      rw [show n - ks.size - (S.length - (p + 1 + ks.size)) + (S.length - (p + 1 + ks.size)) = n - ks.size by omega] at this
      rw [this, show p + 1 + ks.size + (S.length - (p + 1 + ks.size)) = S.length by omega]
      obtain ⟨m', hm'⟩ : ∃ k, n - ks.size - (S.length - (p + 1 + ks.size)) = k + 1 := ⟨n - ks.size - (S.length - (p + 1 + ks.size)) - 1, by omega⟩
      rw [hm', F18_end (P := P) (F18 n) n r' d' _ (lnD S) (lvD S Wy) (p : Int) hSP hs]
    · have el : lx S (p + 1) = lx S p := by rw [lx_succ, hf, if_pos e]; rfl
      have := q3 (g3 e)
      rw [el, wayG_nat] at this
      exact this
  · obtain ⟨z1, z2⟩ := vb e
    refine ⟨by rw [z1]; rfl, ?_⟩
    rw [z1, gd_in isSlD_nil, gd_in (sch_idx h0)]
    simp only [sch_cells, Int.toNat_natCast, getD_drop, intD_int, isI_int, List.length_drop, flds_len, and_true, true_and, and_self, Nat.mul_one, Nat.add_zero, fl2 h0, hf']
    rw [gd_in (by omega), gd_in (by omega)]
    have : ((k : Int) != 0) = true := by simp only [bne_iff_ne, ne_eq]; omega
    have hk0 : (fat S p).kind ≠ 0 := by omega
    obtain ⟨c1, q1, q2, q3⟩ := F35w_eq n (r := r') (d := d') h0 hk0 hc' (hB' _ (Nat.le_refl _) (by omega)) (by omega) v.1 v.2.1 true (schD S) (pD P) (lvD S Wy)
    rw [this, cond_true, q1, bd_some]
    refine ⟨c1, rfl, ⟨⟨_, q2, ?_⟩, q3⟩⟩
    have ek := g4 e
    subst ek
    have el : lx S (p + 1 + For.size .nil) = lx S p + 1 := by simp only [For.size]; rw [Nat.add_zero, lx_succ, hf, if_neg e]
    rw [el]
    exact (Em.leaf (lp_lx h0 hk0).2 (by rw [Rl_lx h0 hk0]; exact Nat.le_refl _)).weak (Nat.le_refl _) (by simp only [For.hgt]; omega)
end
end Go.Proofs.Ytfhpoffgnpgagaa

namespace Go.Proofs.Ytfhpoffgnpgagaa
open Go Go.Proofs Go.Abs
set_option linter.unusedVariables false
set_option linter.unusedSimpArgs false

theorem F51_eq (n k : Nat) (z : Int) (b : List UInt8) (hk : k < 5) (hk0 : k ≠ 0) (h : leafOK k z b) : F51 n (k : Int) z b .nil = some 0 := by
  obtain ⟨h1, h2, h3, h4, h5, h6⟩ := h
  have k2 : F51_K2 b false = some 0 := by
    unfold F51_K2
    have : decide ((100 : Int) < (b.length : Int)) = false := decide_eq_false (by omega)
    rw [cond_false, this, cond_false]
  unfold F51
  rw [gd_in isSlD_nil, gd_in isSlD_nil]
  have : decide ((0 : Int) < (lenN .nil : Int)) = false := rfl
  rw [this, cond_false]
  have : k = 1 ∨ k = 2 ∨ k = 3 ∨ k = 4 := by omega
  rcases this with rfl | rfl | rfl | rfl
  · have hb := h4 (by omega)
    subst hb
    obtain ⟨a1, a2⟩ := h1 rfl
    have d1 : decide (z < 0) = false := decide_eq_false (by omega)
    have d2 : decide (1 < z) = false := decide_eq_false (by omega)
    simp [F51_K1, d1, d2, k2]
  · have hb := h4 (by omega)
    subst hb
    obtain ⟨a1, a2⟩ := h2 rfl
    have d1 : decide (z < -2147483648) = false := decide_eq_false (by omega)
    have d2 : decide (2147483647 < z) = false := decide_eq_false (by omega)
    simp [F51_K1, d1, d2, k2]
  · have hb := h4 (by omega)
    subst hb
    simp [F51_K1, k2]
  · have hz := h3 rfl
    subst hz
    simp [F51_K1, k2]

section
variable {S : List Fld} {P : List Int} {Wy : List (List Nat)}
abbrev SelfF := PD → PD → Int → Int → List UInt8 → PD → Option Int
section
variable (self : SelfF) (n : Nat) (K : PD) (g : Int)
theorem F34_skip1 (hSP : S.length = P.length) (hs : S.length < 100) {j : Nat} (hj : j < S.length) (hne : P.getD j 0 ≠ g) (m : Nat) (kc : Int) :
    F34_L2 (schD S) (pD P) g K self n (m + 1) kc (j : Int) = F34_L2 (schD S) (pD P) g K self n m kc ((j + 1 : Nat) : Int) := by
  rw [F34_L2, gd_in sch_isSl]
  have hc : decide ((j : Int) < (lenN (schD S) : Int)) = true := decide_eq_true (by rw [sch_len]; omega)
  rw [hc, cond_true, gd_in (p_idx (by omega))]
  simp only [p_cells, Int.toNat_natCast, getD_drop, intD_int, isI_int, List.length_drop, isD_length, and_true, true_and, and_self, Nat.mul_one, Nat.add_zero, isD_at (show j < P.length by omega)]
  rw [gd_in (by omega)]
  have : (P.getD j 0 != g) = true := by simpa using hne
  rw [this, cond_true]
  unfold F34_K3
  rw [wrap_i64 (by omega) (by omega)]; rfl
theorem F34_skip (hSP : S.length = P.length) (hs : S.length < 100) (m : Nat) (kc : Int) : ∀ (e j : Nat), j + e ≤ S.length → (∀ q, j ≤ q → q < j + e → P.getD q 0 ≠ g) →
    F34_L2 (schD S) (pD P) g K self n (m + e) kc (j : Int) = F34_L2 (schD S) (pD P) g K self n m kc ((j + e : Nat) : Int) := by
  intro e
  induction e with
  | zero => intro j _ _; rfl
  | succ e ih =>
    intro j hj hne
    rw [show m + (e + 1) = (m + e) + 1 by omega, F34_skip1 self n K g hSP hs (by omega) (hne j (by omega) (by omega)), ih (j + 1) (by omega) (fun q a b => hne q (by omega) (by omega)), show j + 1 + e = j + (e + 1) by omega]
theorem F34_end (hSP : S.length = P.length) (hs : S.length < 100) (m : Nat) (kc : Int) : F34_L2 (schD S) (pD P) g K self n (m + 1) kc ((S.length : Nat) : Int) = some 0 := by
  rw [F34_L2, gd_in sch_isSl]
  have hc : decide ((S.length : Int) < (lenN (schD S) : Int)) = false := decide_eq_false (by rw [sch_len]; omega)
  rw [hc, cond_false]
end

/-- All occurrences. -/
theorem F34_L5_eq (self : SelfF) {es : List PD} {kc p : Nat} {vs : List Vl} (hkc : kc < es.length) (hkb : es.length < 1000) (hp : p < 1000) (hx : es.getD kc .nil = .lst vs.length (vs.flatMap vD)) (hv3 : vs.length ≤ 3) (A B : PD) (lo2 : Int → Int → Option Int)
    (H : ∀ v ∈ vs, isSlD v.2.2 = true ∧ self A B (p : Int) v.1 v.2.1 v.2.2 = some 0) : ∀ (k i m : Nat), i + k = vs.length →
    F34_L5 (.lst es.length es) (kc : Int) self A B (p : Int) lo2 (m + k + 1) (i : Int) = lo2 ((kc + 1 : Nat) : Int) ((p + 1 : Nat) : Int) := by
  intro k
  induction k with
  | zero =>
    intro i m hi
    rw [F34_L5]
    have hc1 : decide ((i : Int) < (vs.length : Int)) = false := decide_eq_false (by omega)
    simp only [cellsD_lst, isSlD_lst, lenN_lst, Int.toNat_natCast, getD_drop, Nat.mul_one, Nat.add_zero, hx, hc1, cond_false]
    rw [gd_in trivial]
    unfold F34_K3
    rw [wrap_i64 (by omega) (by omega), wrap_i64 (by omega) (by omega)]; rfl
  | succ k ih =>
    intro i m hi
    rw [F34_L5]
    have hiv : i < vs.length := by omega
    obtain ⟨hsl, he⟩ := H vs[i] (List.getElem_mem hiv)
    have hc1 : decide ((i : Int) < (vs.length : Int)) = true := decide_eq_true (by omega)
    have hidx : idxOK 3 (.lst vs.length (vs.flatMap vD)) (i : Int) := idx_lst (by omega) (by omega) (by rw [vDs_len]; simp only [Int.toNat_natCast]; omega)
    simp only [cellsD_lst, isSlD_lst, lenN_lst, Int.toNat_natCast, getD_drop, Nat.mul_one, Nat.add_zero, hx, hc1, cond_true, gd_in hidx, v0 vs hiv, v1 vs hiv, v2 vs hiv, isI_int, isS_str, intD_int, strD_str, hsl, List.length_drop, vDs_len, and_true]
    rw [gd_in trivial, gd_in (by omega), gd_in (by omega), he, bd_some]
    have : ((0 : Int) != 0) = false := rfl
    rw [this, cond_false, wrap_i64 (by omega) (by omega)]
    have := ih (i + 1) m (by omega)
    exact this

theorem F34_eq (hw : Ways P Wy) (hSP : S.length = P.length) (hs : S.length < 100) : ∀ (F : For) (g : Int) (p n : Nat), F.Good → Loc S P g p F → p ≤ S.length → 1000 + F.hgt ≤ n + 1 → ∀ (m kc : Nat) (es : List PD), Conf F (es.drop kc) → es.length < 1000 →
    F34_L2 (schD S) (pD P) g (.lst es.length es) (F34 n) n (m + F.size) (kc : Int) (p : Int) = F34_L2 (schD S) (pD P) g (.lst es.length es) (F34 n) n m ((kc + F.len : Nat) : Int) ((p + F.size : Nat) : Int)
  | .nil, g, p, n, _, _, _, _, m, kc, es, _, _ => rfl
  | .cons nm rp k ks rs, g, p, n, hG, hL, hp, hn, m, kc, es, hcf, hes => by
    have hkn := fun j => hL.kid_ne (j := j)
    have hen := fun j => hL.end_ne (j := j)
    obtain ⟨h0, hS, hPg, hgp, hk, hr, _⟩ := hL
    obtain ⟨g1, g2, g3, g4, gk, gr⟩ := hG
    have hfit := hk.fits (by omega)
    have hrfit := hr.fits (by omega)
    obtain ⟨vs, fs, hds, hv3, hv0, hv1, hvv, hcr⟩ := hcf
    obtain ⟨hkc, hx, hdr⟩ := at_drop hds
    have hsz : p + (For.cons nm rp k ks rs).size = p + 1 + ks.size + rs.size := by simp only [For.size]; omega
    rw [hsz]
    have hf' : (S.getD p default).kind = k := by rw [hS]
    have hr' : (S.getD p default).rep = rp := by rw [hS]
    have hkl : (S.getD p default).kids = ks.len := by rw [hS]
    have hh1 : ks.hgt + 1 ≤ (For.cons nm rp k ks rs).hgt := by simp only [For.hgt]; omega
    have hh2 : rs.hgt ≤ (For.cons nm rp k ks rs).hgt := by simp only [For.hgt]; omega
    obtain ⟨n, rfl⟩ : ∃ k, n = k + 1 := ⟨n - 1, by omega⟩
    -- one occurrence
    have node : ∀ v ∈ vs, isSlD v.2.2 = true ∧ F34 (n + 1) (schD S) (pD P) (p : Int) v.1 v.2.1 v.2.2 = some 0 := by
      intro v hv
      obtain ⟨va, vb⟩ := hvv v hv
      rw [F34]
      by_cases e : k = 0
      · obtain ⟨z1, z2, fs', z3, z4⟩ := va e
        refine ⟨by rw [z3]; rfl, ?_⟩
        have hlen := Conf_len z4
        have hlen2 := For.len_le ks
        rw [z3, gd_in isSlD_lst, gd_in (sch_idx h0)]
        simp only [sch_cells, Int.toNat_natCast, getD_drop, intD_int, isI_int, isSlD_lst, List.length_drop, flds_len, and_true, true_and, and_self, Nat.mul_one, Nat.add_zero, fl2 h0, fl3 h0, hf', hkl, gd_in (sch_idx h0)]
        rw [gd_in (by omega), gd_in (by omega)]
        have : ((k : Int) != 0) = false := by subst e; rfl
        rw [this, cond_false, z1, z2]
        have : ((0 : Int) != 0) = false := rfl
        rw [this, cond_false]
        have : (!([] : List UInt8) == []) = false := rfl
        rw [this, cond_false, gd_in trivial, gd_in (by omega), gd_in (by omega)]
        have : ((lenN (.lst fs'.length fs') : Int) != (ks.len : Int)) = false := by rw [lenN_lst, hlen]; simp
        unfold F34_K1
        rw [this, cond_false, wrap_i64 (by omega) (by omega)]
        have q1 := F34_eq hw hSP hs ks p (p + 1) n gk hk (by omega) (by omega) (n - ks.size) 0 fs' (by rw [List.drop_zero]; exact z4) (by omega)
        rw [show n - ks.size + ks.size = n by omega] at q1
        have q1 : F34_L2 (schD S) (pD P) (p : Int) (.lst fs'.length fs') (F34 n) n n 0 ((p + 1 : Nat) : Int) = _ := q1
        rw [show ((p : Int) + 1) = ((p + 1 : Nat) : Int) by omega, q1]
        have := F34_skip (P := P) (F34 n) n (.lst fs'.length fs') (p : Int) hSP hs (n - ks.size - (S.length - (p + 1 + ks.size))) ((0 + ks.len : Nat) : Int) (S.length - (p + 1 + ks.size)) (p + 1 + ks.size) (by omega) (fun q a b => hen q a (by omega))
        rw [show n - ks.size - (S.length - (p + 1 + ks.size)) + (S.length - (p + 1 + ks.size)) = n - ks.size by omega] at this
        rw [this, show p + 1 + ks.size + (S.length - (p + 1 + ks.size)) = S.length by omega]
        obtain ⟨m', hm'⟩ : ∃ k, n - ks.size - (S.length - (p + 1 + ks.size)) = k + 1 := ⟨n - ks.size - (S.length - (p + 1 + ks.size)) - 1, by omega⟩
        rw [hm', F34_end (P := P) (F34 n) n _ (p : Int) hSP hs]
      · obtain ⟨z1, z2⟩ := vb e
        refine ⟨by rw [z1]; rfl, ?_⟩
        rw [z1, gd_in isSlD_nil, gd_in (sch_idx h0)]
        simp only [sch_cells, Int.toNat_natCast, getD_drop, intD_int, isI_int, List.length_drop, flds_len, and_true, true_and, and_self, Nat.mul_one, Nat.add_zero, fl2 h0, hf', gd_in (sch_idx h0)]
        rw [gd_in (by omega), gd_in (by omega)]
        have : ((k : Int) != 0) = true := by simp only [bne_iff_ne, ne_eq]; omega
        rw [this, cond_true, gd_in (by omega), gd_in (by omega), F51_eq n k _ _ g2 e z2, bd_some]
    -- the field, at the loop
    have fld : ∀ m', F34_L2 (schD S) (pD P) g (.lst es.length es) (F34 (n + 1)) (n + 1) (m' + 1) (kc : Int) (p : Int) = F34_L2 (schD S) (pD P) g (.lst es.length es) (F34 (n + 1)) (n + 1) m' ((kc + 1 : Nat) : Int) ((p + 1 : Nat) : Int) := by
      intro m'
      have hc1 : decide ((p : Int) < (lenN (schD S) : Int)) = true := decide_eq_true (by rw [sch_len]; omega)
      have hidx : idxOK 1 (.lst es.length es) (kc : Int) := idx_lst (by omega) (by omega) (by simp only [Int.toNat_natCast]; omega)
      have hgg : (g != g) = false := by simp
      have k4 : F34_K4 (.lst es.length es) (kc : Int) (F34 (n + 1)) (schD S) (pD P) (p : Int) (F34_L2 (schD S) (pD P) g (.lst es.length es) (F34 (n + 1)) (n + 1) m') (n + 1) false = F34_L2 (schD S) (pD P) g (.lst es.length es) (F34 (n + 1)) (n + 1) m' ((kc + 1 : Nat) : Int) ((p + 1 : Nat) : Int) := by
        unfold F34_K4
        have hc2 : decide ((50 : Int) < (vs.length : Int)) = false := decide_eq_false (by omega)
        simp only [cond_false, cellsD_lst, isSlD_lst, lenN_lst, Int.toNat_natCast, getD_drop, Nat.mul_one, Nat.add_zero, hx, hc2]
        rw [gd_in trivial]
        have := F34_L5_eq (F34 (n + 1)) hkc hes (by omega) hx hv3 (schD S) (pD P) (F34_L2 (schD S) (pD P) g (.lst es.length es) (F34 (n + 1)) (n + 1) m') node vs.length 0 (n - vs.length) (by omega)
        rw [show n - vs.length + vs.length + 1 = n + 1 by omega] at this
        exact this
      rw [F34_L2, gd_in sch_isSl, hc1, cond_true, gd_in (p_idx (by omega))]
      simp only [p_cells, Int.toNat_natCast, getD_drop, intD_int, isI_int, List.length_drop, isD_length, and_true, true_and, and_self, Nat.mul_one, Nat.add_zero, isD_at (show p < P.length by omega), hPg, hgg, cond_false, gd_in hidx, cellsD_lst, hx, isSlD_lst, lenN_lst, gd_in (sch_idx h0), sch_cells, flds_len, fl1 h0, hr']
      rw [gd_in (by omega), gd_in (by omega), gd_in (by omega), gd_in (by omega)]
      have hrp : rp = 0 ∨ rp = 1 ∨ rp = 2 := by omega
      rcases hrp with h | h | h
      · have e0 : ((rp : Int) != 2) = true := by rw [h]; rfl
        have e1 : decide ((1 : Int) < (vs.length : Int)) = false := decide_eq_false (by have := hv0 h; omega)
        have e2 : ((rp : Int) == 0) = true := by rw [h]; rfl
        have e3 : ((vs.length : Int) != 1) = false := by rw [hv0 h]; rfl
        rw [e0, cond_true, gd_in trivial, e1, cond_false, gd_in (by omega), gd_in (by omega), e2, cond_true, gd_in trivial, e3]
        exact k4
      · have e0 : ((rp : Int) != 2) = true := by rw [h]; rfl
        have e1 : decide ((1 : Int) < (vs.length : Int)) = false := decide_eq_false (by have := hv1 h; omega)
        have e2 : ((rp : Int) == 0) = false := by rw [h]; rfl
        rw [e0, cond_true, gd_in trivial, e1, cond_false, gd_in (by omega), gd_in (by omega), e2, cond_false]
        exact k4
      · have e0 : ((rp : Int) != 2) = false := by rw [h]; rfl
        have e2 : ((rp : Int) == 0) = false := by rw [h]; rfl
        rw [e0, cond_false, gd_in (by omega), gd_in (by omega), e2, cond_false]
        exact k4
    have r1 := F34_eq hw hSP hs rs g (p + 1 + ks.size) (n + 1) gr hr (by omega) (by omega) m (kc + 1) es (by rw [hdr]; exact hcr) hes
    rw [show m + (For.cons nm rp k ks rs).size = (m + rs.size + ks.size) + 1 by simp only [For.size]; omega, fld, F34_skip (P := P) (F34 (n + 1)) (n + 1) _ g hSP hs (m + rs.size) _ ks.size (p + 1) (by omega) (fun q a b => hkn q a b)]
    rw [show kc + (For.cons nm rp k ks rs).len = kc + 1 + rs.len by simp only [For.len]; omega]
    exact r1

theorem F34_node (hw : Ways P Wy) (hSP : S.length = P.length) (hs : S.length < 100) {nm : List UInt8} {rp k : Nat} {ks rs : For} {g : Int} {p n : Nat} (hG : For.Good (.cons nm rp k ks rs)) (hL : Loc S P g p (.cons nm rp k ks rs)) (hn : 1000 + ks.hgt ≤ n + 1) {v : Vl} (hv : NodeV k ks v) : isSlD v.2.2 = true ∧ F34 (n + 1) (schD S) (pD P) (p : Int) v.1 v.2.1 v.2.2 = some 0 := by
  have hen := fun j => hL.end_ne (j := j)
  obtain ⟨h0, hS, hPg, hgp, hk, hr, _⟩ := hL
  obtain ⟨g1, g2, g3, g4, gk, gr⟩ := hG
  have hfit := hk.fits (by omega)
  have hf' : (S.getD p default).kind = k := by rw [hS]
  have hkl : (S.getD p default).kids = ks.len := by rw [hS]
  obtain ⟨va, vb⟩ := hv
  rw [F34]
  by_cases e : k = 0
  · obtain ⟨z1, z2, fs', z3, z4⟩ := va e
    refine ⟨by rw [z3]; rfl, ?_⟩
    have hlen := Conf_len z4
    have hlen2 := For.len_le ks
    rw [z3, gd_in isSlD_lst, gd_in (sch_idx h0)]
    simp only [sch_cells, Int.toNat_natCast, getD_drop, intD_int, isI_int, isSlD_lst, List.length_drop, flds_len, and_true, true_and, and_self, Nat.mul_one, Nat.add_zero, fl2 h0, fl3 h0, hf', hkl, gd_in (sch_idx h0)]
    rw [gd_in (by omega), gd_in (by omega)]
    have : ((k : Int) != 0) = false := by subst e; rfl
    rw [this, cond_false, z1, z2]
    have : ((0 : Int) != 0) = false := rfl
    rw [this, cond_false]
    have : (!([] : List UInt8) == []) = false := rfl
    rw [this, cond_false, gd_in trivial, gd_in (by omega), gd_in (by omega)]
    have : ((lenN (.lst fs'.length fs') : Int) != (ks.len : Int)) = false := by rw [lenN_lst, hlen]; simp
    unfold F34_K1
    rw [this, cond_false, wrap_i64 (by omega) (by omega)]
    have q1 := F34_eq hw hSP hs ks p (p + 1) n gk hk (by omega) (by omega) (n - ks.size) 0 fs' (by rw [List.drop_zero]; exact z4) (by omega)
    rw [show n - ks.size + ks.size = n by omega] at q1
    have q1 : F34_L2 (schD S) (pD P) (p : Int) (.lst fs'.length fs') (F34 n) n n 0 ((p + 1 : Nat) : Int) = _ := q1
    rw [show ((p : Int) + 1) = ((p + 1 : Nat) : Int) by omega, q1]
    have := F34_skip (P := P) (F34 n) n (.lst fs'.length fs') (p : Int) hSP hs (n - ks.size - (S.length - (p + 1 + ks.size))) ((0 + ks.len : Nat) : Int) (S.length - (p + 1 + ks.size)) (p + 1 + ks.size) (by omega) (fun q a b => hen q a (by omega))
    rw [show n - ks.size - (S.length - (p + 1 + ks.size)) + (S.length - (p + 1 + ks.size)) = n - ks.size by omega] at this
    rw [this, show p + 1 + ks.size + (S.length - (p + 1 + ks.size)) = S.length by omega]
    obtain ⟨m', hm'⟩ : ∃ k, n - ks.size - (S.length - (p + 1 + ks.size)) = k + 1 := ⟨n - ks.size - (S.length - (p + 1 + ks.size)) - 1, by omega⟩
    rw [hm', F34_end (P := P) (F34 n) n _ (p : Int) hSP hs]
  · obtain ⟨z1, z2⟩ := vb e
    refine ⟨by rw [z1]; rfl, ?_⟩
    rw [z1, gd_in isSlD_nil, gd_in (sch_idx h0)]
    simp only [sch_cells, Int.toNat_natCast, getD_drop, intD_int, isI_int, List.length_drop, flds_len, and_true, true_and, and_self, Nat.mul_one, Nat.add_zero, fl2 h0, hf', gd_in (sch_idx h0)]
    rw [gd_in (by omega), gd_in (by omega)]
    have : ((k : Int) != 0) = true := by simp only [bne_iff_ne, ne_eq]; omega
    rw [this, cond_true, gd_in (by omega), gd_in (by omega), F51_eq n k _ _ g2 e z2, bd_some]
end
end Go.Proofs.Ytfhpoffgnpgagaa

namespace Go.Proofs.Ytfhpoffgnpgagaa
open Go Go.Proofs Go.Abs
set_option linter.unusedVariables false
set_option linter.unusedSimpArgs false

/-- The open groups, the innermost first: place, and how many fields it lacks. -/
abbrev Stk := List (Nat × Nat)
def oD (st : Stk) : List PD := isD (natI (st.reverse.map Prod.fst))
def lD (st : Stk) : List PD := isD (natI (st.reverse.map Prod.snd))
def zer (Z : List Nat) : Stk := Z.map fun a => (a, 0)
theorem oD_len {st : Stk} : (oD st).length = st.length := by simp [oD, natI_lenD]
theorem lD_len {st : Stk} : (lD st).length = st.length := by simp [lD, natI_lenD]
theorem isD_natI_app {a b : List Nat} : isD (natI (a ++ b)) = isD (natI a) ++ isD (natI b) := by simp [isD, natI]
theorem oD_cons {a l : Nat} {r : Stk} : oD ((a, l) :: r) = oD r ++ [.int .i64 (a : Int)] := by simp [oD, isD, natI, iD]
theorem lD_cons {a l : Nat} {r : Stk} : lD ((a, l) :: r) = lD r ++ [.int .i64 (l : Int)] := by simp [lD, isD, natI, iD]
theorem oD_take {a l : Nat} {r : Stk} : (oD ((a, l) :: r)).take r.length = oD r := by rw [oD_cons, List.take_left' oD_len]
theorem lD_take {a l : Nat} {r : Stk} : (lD ((a, l) :: r)).take r.length = lD r := by rw [lD_cons, List.take_left' lD_len]
theorem getD_last {l : List PD} {n : Nat} {x : PD} (h : l.length = n) : (l ++ [x]).getD n .nil = x := by
  subst h; rw [getD_app]; rfl
theorem oD_top {a l : Nat} {r : Stk} : (oD ((a, l) :: r)).getD r.length .nil = .int .i64 (a : Int) := by rw [oD_cons, getD_last oD_len]
theorem lD_top {a l : Nat} {r : Stk} : (lD ((a, l) :: r)).getD r.length .nil = .int .i64 (l : Int) := by rw [lD_cons, getD_last lD_len]
theorem lD_set {a l l' : Nat} {r : Stk} : setD (lD ((a, l) :: r)) r.length [.int .i64 (l' : Int)] = lD ((a, l') :: r) := by
  rw [lD_cons, lD_cons]
  unfold setD
  rw [List.take_left' lD_len]
  have : (lD r ++ [PD.int .i64 (l : Int)]).drop (r.length + [PD.int .i64 (l' : Int)].length) = [] := List.drop_eq_nil_of_le (by simp [lD_len])
  rw [this, List.append_nil]

section
variable {S : List Fld}

def St48 (S : List Fld) (n m i : Nat) (A D : List Int) (st : Stk) : Option (PD × PD) := F48_L1 (schD S) n m A.length D.length st.length st.length i (isD A) (isD D) (oD st) (lD st)

/-- Behind the parent: the field itself. -/
theorem F48_K5_eq (hs : S.length < 100) {n m i : Nat} (hi : i < S.length) {A D : List Int} {st : Stk} (hst : st.length < 1000) {nm : List UInt8} {r k c : Nat} (hf : S.getD i default = ⟨nm, r, k, c⟩) (hk : k = 0 → 0 < c) (g dd : Int) (hA : A.length < 1000) (hD : D.length < 1000) :
    F48_K5 (schD S) i st.length (oD st) st.length (F48_L1 (schD S) n m) A.length D.length (isD A ++ [.int .i64 g]) (isD D ++ [.int .i64 dd]) (lD st) = St48 S n m (i + 1) (A ++ [g]) (D ++ [dd]) (if k = 0 then (i, c) :: st else st) := by
  have e1 : isD A ++ [.int .i64 g] = isD (A ++ [g]) := by simp [isD, iD]
  have e2 : isD D ++ [.int .i64 dd] = isD (D ++ [dd]) := by simp [isD, iD]
  unfold F48_K5
  simp only [gd_in (sch_idx hi), sch_cells, Int.toNat_natCast, getD_drop, intD_int, isI_int, List.length_drop, flds_len, and_true, fl2 hi, fl3 hi, hf]
  rw [gd_in (by omega), gd_in (by omega)]
  by_cases e : k = 0
  · have : ((k : Int) == 0) = true := by rw [e]; rfl
    have h2 : decide ((0 : Int) < (c : Int)) = true := decide_eq_true (by have := hk e; omega)
    rw [this, cond_true, gd_in (by omega), gd_in (by omega), h2]
    unfold F48_K6
    simp only [gd_in (sch_idx hi), sch_cells, Int.toNat_natCast, getD_drop, intD_int, isI_int, List.length_drop, flds_len, and_true, fl2 hi, fl3 hi, hf, cond_true]
    rw [gd_in ⟨ap_ok (by omega) (by omega), by rw [oD_len]; omega⟩, gd_in (by omega), gd_in (by omega), gd_in ⟨ap_ok (by omega) (by omega), by rw [lD_len]; omega⟩]
    unfold F48_K2 St48
    rw [if_pos e, wrap_i64 (by omega) (by omega), oD_cons, lD_cons, e1, e2]
    simp only [List.length_append, List.length_cons, List.length_nil]
    rfl
  · have : ((k : Int) == 0) = false := by simp only [beq_eq_false_iff_ne, ne_eq]; omega
    rw [this, cond_false]
    unfold F48_K6
    rw [cond_false]
    unfold F48_K2 St48
    rw [if_neg e, wrap_i64 (by omega) (by omega), e1, e2]
    simp only [List.length_append, List.length_cons, List.length_nil]
    rfl

theorem F48_pop (hs : S.length < 100) {n i : Nat} (hi : i < S.length) {A D : List Int} {nm : List UInt8} {rp k c : Nat} (hf : S.getD i default = ⟨nm, rp, k, c⟩) (hk : k = 0 → 0 < c) (hA : A.length < 1000) (hD : D.length < 1000) {g l : Nat} {r : Stk} (mm : Nat) :
    ∀ (Z : List Nat) (m : Nat), Z.length < m → Z.length + r.length < 900 → l < 100000 →
    F48_L3 A.length (isD A) D.length (isD D) (schD S) i (F48_L1 (schD S) n mm) m (zer Z ++ (g, l + 1) :: r).length (zer Z ++ (g, l + 1) :: r).length (oD (zer Z ++ (g, l + 1) :: r)) (lD (zer Z ++ (g, l + 1) :: r)) = St48 S n mm (i + 1) (A ++ [(g : Int)]) (D ++ [((r.length + 1 : Nat) : Int)]) (if k = 0 then (i, c) :: (g, l) :: r else (g, l) :: r) := by
  intro Z
  induction Z with
  | nil =>
    intro m hm hr hl
    obtain ⟨m, rfl⟩ : ∃ k, m = k + 1 := ⟨m - 1, by simp at hm; omega⟩
    simp only [List.length_nil] at hr
    have ez : zer [] ++ (g, l + 1) :: r = (g, l + 1) :: r := rfl
    rw [ez, F48_L3]
    have hc : decide ((0 : Int) < ((r.length + 1 : Nat) : Int)) = true := decide_eq_true (by omega)
    have ew : IntKind.wrap .i64 (((r.length + 1 : Nat) : Int) - 1) = (r.length : Int) := by rw [wrap_i64 (by omega) (by omega)]; omega
    simp only [hc, cond_true, ew, Int.toNat_natCast, Nat.mul_one, lD_top, oD_top, isI_int, intD_int, and_true, lD_len, oD_len, List.length_cons]
    rw [gd_in (by omega), gd_in (by omega)]
    have h0 : (((l + 1 : Nat) : Int) == 0) = false := by simp only [beq_eq_false_iff_ne, ne_eq]; omega
    rw [h0]
    unfold F48_K4
    have h1 : (((r.length + 1 : Nat) : Int) == 0) = false := by simp only [beq_eq_false_iff_ne, ne_eq]; omega
    have ew : IntKind.wrap .i64 (((r.length + 1 : Nat) : Int) - 1) = (r.length : Int) := by rw [wrap_i64 (by omega) (by omega)]; omega
    simp only [cond_false, h1, ew, Int.toNat_natCast, Nat.mul_one, lD_top, oD_top, isI_int, intD_int, and_true, lD_len, oD_len, List.length_cons, isD_length]
    rw [gd_in (by omega), gd_in (by omega), gd_in (by omega), gd_in (by omega), gd_in (by omega), gd_in (by omega), gd_in (ap_ok (by omega) (by omega)), gd_in (ap_ok (by omega) (by omega))]
    rw [wrap_i64 (by omega) (by omega), show ((l + 1 : Nat) : Int) - 1 = (l : Int) by omega, lD_set]
    have eo : oD ((g, l + 1) :: r) = oD ((g, l) :: r) := by rw [oD_cons, oD_cons]
    rw [eo]
    exact F48_K5_eq hs hi (st := (g, l) :: r) (by simp only [List.length_cons]; omega) hf hk g _ hA hD
  | cons z Z ih =>
    intro m hm hr hl
    obtain ⟨m, rfl⟩ : ∃ k, m = k + 1 := ⟨m - 1, by omega⟩
    simp only [List.length_cons] at hm hr
    have ez : zer (z :: Z) ++ (g, l + 1) :: r = (z, 0) :: (zer Z ++ (g, l + 1) :: r) := rfl
    have ih' := ih m (by omega) (by omega) hl
    rw [ez, F48_L3]
    have hlen : (zer Z ++ (g, l + 1) :: r).length < 1000 := by simp [zer]; omega
    generalize zer Z ++ (g, l + 1) :: r = R at ih' hlen ⊢
    have hc : decide ((0 : Int) < ((R.length + 1 : Nat) : Int)) = true := decide_eq_true (by omega)
    have ew : IntKind.wrap .i64 (((R.length + 1 : Nat) : Int) - 1) = (R.length : Int) := by rw [wrap_i64 (by omega) (by omega)]; omega
    simp only [hc, cond_true, ew, Int.toNat_natCast, Nat.mul_one, lD_top, oD_top, isI_int, intD_int, and_true, lD_len, oD_len, List.length_cons]
    rw [gd_in (by omega), gd_in (by omega)]
    have h0 : (((0 : Nat) : Int) == 0) = true := rfl
    rw [h0]
    unfold F48_K4
    have ew : IntKind.wrap .i64 (((R.length + 1 : Nat) : Int) - 1) = (R.length : Int) := by rw [wrap_i64 (by omega) (by omega)]; omega
    simp only [cond_true, ew, Int.toNat_natCast, Nat.mul_one, lD_take, oD_take]
    rw [gd_in (by omega), gd_in (by omega)]
    exact ih'

theorem F48_for (hs : S.length < 100) {P : List Int} {n : Nat} (hn : 1000 ≤ n) : ∀ (F : For) (g p : Nat), F.Good → Loc S P g p F → p ≤ S.length → ∀ (m l : Nat) (Z : List Nat) (A D : List Int) (r : Stk), A.length = p → D.length = p → Z.length + r.length + F.size < 800 → l + F.len < 1000 →
    ∃ D' Z', St48 S n (m + F.size) p A D (zer Z ++ (g, l + F.len) :: r) = St48 S n m (p + F.size) (A ++ For.par g p F) D' (zer Z' ++ (g, l) :: r) ∧ D'.length = p + F.size ∧ Z'.length ≤ Z.length + F.size
  | .nil, g, p, _, _, _, m, l, Z, A, D, r, hA, hD, _, _ => ⟨D, Z, by simp [For.par, For.size, For.len], hD, by omega⟩
  | .cons nm rp k ks rs, g, p, hG, hL, hp, m, l, Z, A, D, r, hA, hD, hb, hl => by
    obtain ⟨h0, hS, hPg, hgp, hk, hr, _⟩ := hL
    obtain ⟨g1, g2, g3, g4, gk, gr⟩ := hG
    have hfit := hk.fits (by omega)
    have hkl := For.len_le ks
    have hsz : p + (For.cons nm rp k ks rs).size = p + 1 + ks.size + rs.size := by simp only [For.size]; omega
    simp only [For.size, For.len] at hb hl
    have step : ∀ m', St48 S n (m' + 1) p A D (zer Z ++ (g, l + (rs.len + 1)) :: r) = St48 S n m' (p + 1) (A ++ [(g : Int)]) (D ++ [((r.length + 1 : Nat) : Int)]) (if k = 0 then (p, ks.len) :: (g, l + rs.len) :: r else (g, l + rs.len) :: r) := by
      intro m'
      unfold St48
      rw [F48_L1, gd_in sch_isSl]
      have hc : decide ((p : Int) < (lenN (schD S) : Int)) = true := decide_eq_true (by rw [sch_len]; omega)
      rw [hc, cond_true]
      exact F48_pop (l := l + rs.len) hs h0 hS g3 (by omega) (by omega) m' Z n (by omega) (by omega) (by omega)
    have mid : ∃ D' Z', St48 S n (m + rs.size + ks.size) (p + 1) (A ++ [(g : Int)]) (D ++ [((r.length + 1 : Nat) : Int)]) (if k = 0 then (p, ks.len) :: (g, l + rs.len) :: r else (g, l + rs.len) :: r) = St48 S n (m + rs.size) (p + 1 + ks.size) (A ++ [(g : Int)] ++ For.par p (p + 1) ks) D' (zer Z' ++ (g, l + rs.len) :: r) ∧ D'.length = p + 1 + ks.size ∧ Z'.length ≤ ks.size + 1 := by
      by_cases e : k = 0
      · rw [if_pos e]
        obtain ⟨D', Z', q1, q2, q3⟩ := F48_for hs hn ks p (p + 1) gk hk (by omega) (m + rs.size) 0 [] (A ++ [(g : Int)]) (D ++ [((r.length + 1 : Nat) : Int)]) ((g, l + rs.len) :: r) (by simp [hA]) (by simp [hD]) (by simp only [List.length_nil, List.length_cons]; omega) (by omega)
        refine ⟨D', Z' ++ [p], ?_, q2, by simp at q3 ⊢; omega⟩
        have e1 : zer [] ++ (p, 0 + ks.len) :: (g, l + rs.len) :: r = (p, ks.len) :: (g, l + rs.len) :: r := by simp [zer]
        rw [e1] at q1
        rw [q1]
        congr 1
        simp [zer]
      · rw [if_neg e]
        have := g4 e
        subst this
        exact ⟨D ++ [((r.length + 1 : Nat) : Int)], [], by simp only [For.par, For.size, List.append_nil, Nat.add_zero]; rfl, by simp only [List.length_append, List.length_singleton, For.size]; omega, by simp⟩
    obtain ⟨D1, Z1, m1, m2, m3⟩ := mid
    obtain ⟨D2, Z2, r1, r2, r3⟩ := F48_for hs hn rs g (p + 1 + ks.size) gr hr (by omega) m l Z1 (A ++ [(g : Int)] ++ For.par p (p + 1) ks) D1 r (by simp only [List.length_append, List.length_singleton, hA, For.par_len]) m2 (by omega) (by omega)
    refine ⟨D2, Z2, ?_, by rw [hsz]; exact r2, by simp only [For.size]; omega⟩
    rw [show m + (For.cons nm rp k ks rs).size = (m + rs.size + ks.size) + 1 by simp only [For.size]; omega, show (For.cons nm rp k ks rs).len = rs.len + 1 from rfl, step, m1, r1, hsz]
    congr 1
    simp [For.par]

theorem F48_root {nm : List UInt8} {ks : For} (hs : (For.cons nm 0 0 ks .nil).flat.length < 100) (hG : ks.Good) (hk : 0 < ks.len) {n : Nat} (hn : 1000 ≤ n) :
    F32 n (schD (For.cons nm 0 0 ks .nil).flat) = some (pD (For.par (-1) 0 (.cons nm 0 0 ks .nil))) := by
  have hL := Loc_root (.cons nm 0 0 ks .nil)
  have hsz : (For.cons nm 0 0 ks .nil).flat.length = 1 + ks.size := by rw [For.flat_len]; rfl
  have hpar : For.par (-1) 0 (.cons nm 0 0 ks .nil) = -1 :: For.par 0 1 ks := by simp [For.par]
  generalize hSe : (For.cons nm 0 0 ks .nil).flat = S at *
  generalize hPe : For.par (-1) 0 (.cons nm 0 0 ks .nil) = P at *
  obtain ⟨h0, hS, hPg, hgp, hkl, hr, _⟩ := hL
  have hlen := For.len_le ks
  unfold F32 F48
  have e0 : F48_L1 (schD S) n n 0 0 0 0 (0 : Int) [] [] [] [] = St48 S n (n - 1) 1 [-1] [0] [(0, ks.len)] := by
    obtain ⟨m, hm⟩ : ∃ k, n = k + 1 := ⟨n - 1, by omega⟩
    conv => lhs; rw [hm]
    rw [F48_L1, gd_in sch_isSl]
    have hc : decide ((0 : Int) < (lenN (schD S) : Int)) = true := decide_eq_true (by rw [sch_len]; omega)
    rw [hc, cond_true, F48_L3]
    have hc : decide ((0 : Int) < ((0 : Nat) : Int)) = false := rfl
    rw [hc, cond_false]
    unfold F48_K4
    have hc : (((0 : Nat) : Int) == 0) = true := rfl
    rw [cond_false, hc, cond_true, gd_in ⟨ap_ok (by omega) (by omega), rfl⟩, gd_in ⟨ap_ok (by omega) (by omega), rfl⟩]
    have := F48_K5_eq (n := n) (m := m) hs (i := 0) h0 (A := []) (D := []) (st := []) (by simp) hS (fun _ => hk) (-1) 0 (by simp) (by simp)
    rw [if_pos rfl] at this
    rw [hm] at this ⊢
    exact this
  rw [e0]
  have hL' : Loc S P (0 : Nat) 1 ks := hkl
  obtain ⟨D', Z', q1, q2, q3⟩ := F48_for hs hn ks 0 1 hG hL' (by omega) (n - 1 - ks.size) 0 [] [-1] [0] [] rfl rfl (by simp only [List.length_nil]; omega) (by omega)
  have e1 : zer [] ++ (0, 0 + ks.len) :: [] = [(0, ks.len)] := by simp [zer]
  rw [e1, show n - 1 - ks.size + ks.size = n - 1 by omega] at q1
  rw [q1]
  obtain ⟨m', hm'⟩ : ∃ k, n - 1 - ks.size = k + 1 := ⟨n - 1 - ks.size - 1, by omega⟩
  have hpl := For.par_len (0 : Nat) 1 ks
  unfold St48
  rw [hm', F48_L1, gd_in sch_isSl]
  have hc : decide (((1 + ks.size : Nat) : Int) < (lenN (schD S) : Int)) = false := decide_eq_false (by rw [sch_len]; omega)
  rw [hc, cond_false, gd_in (by rw [isD_length]; omega), gd_in (by rw [isD_length]; omega), bd_some, hpar]
  rfl
end
end Go.Proofs.Ytfhpoffgnpgagaa
