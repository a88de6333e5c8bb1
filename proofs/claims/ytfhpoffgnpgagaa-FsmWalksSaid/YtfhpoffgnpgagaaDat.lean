/- The program's data, in plain Lean, and how they are cells. No condition. -/
import Derived.Test.YtfhpoffgnpgagaaAbsZb
set_option linter.unusedSimpArgs false
set_option linter.unusedVariables false
namespace Go.Proofs.Ytfhpoffgnpgagaa
open Go Go.Proofs Go.Abs

structure Fld where
  name : List UInt8
  rep : Nat
  kind : Nat
  kids : Nat
  deriving DecidableEq, Inhabited

structure Lf where
  field : Nat
  r : Nat
  d : Nat
  kind : Nat
  deriving DecidableEq, Inhabited

/-- The groups that are open (the innermost first): each's place, and how many fields it lacks. -/
def popZ : List (Nat × Nat) → List (Nat × Nat)
  | (_, 0) :: st => popZ st
  | st => st

def headS : List (Nat × Nat) → Int × Nat
  | [] => (-1, 0)
  | (a, _) :: r => (a, r.length + 1)
def decS : List (Nat × Nat) → List (Nat × Nat)
  | [] => []
  | (a, l) :: r => (a, l - 1) :: r
def pushS (i : Nat) (f : Fld) (st : List (Nat × Nat)) : List (Nat × Nat) := if f.kind = 0 then (i, f.kids) :: st else st

/-- One field: its group and depth; the stack behind it. -/
def stepS (i : Nat) (f : Fld) (st : List (Nat × Nat)) : (Int × Nat) × List (Nat × Nat) := (headS (popZ st), pushS i f (decS (popZ st)))

def walkM : Nat → List Fld → List (Nat × Nat) → List (Int × Nat)
  | _, [], _ => []
  | i, f :: s, st => (stepS i f st).1 :: walkM (i + 1) s (stepS i f st).2

def parM (s : List Fld) : List Int := (walkM 0 s []).map (·.1)
def depM (s : List Fld) : List Int := (walkM 0 s []).map fun x => (x.2 : Int)

/-- A schema within bounds: no group is empty. -/
def SchB (s : List Fld) : Prop := s.length < 10000 ∧ ∀ f ∈ s, f.kids < 10000 ∧ f.rep < 3 ∧ f.kind < 5 ∧ (f.kind = 0 → 0 < f.kids)

def StB (st : List (Nat × Nat)) : Prop := ∀ x ∈ st, x.1 < 10000 ∧ x.2 < 10000

theorem walkM_len : ∀ (s : List Fld) (i : Nat) (st : List (Nat × Nat)), (walkM i s st).length = s.length
  | [], _, _ => rfl
  | f :: s, i, st => by simp [walkM, walkM_len s]

theorem StB_pop : ∀ {st : List (Nat × Nat)}, StB st → StB (popZ st)
  | [], h => h
  | (a, 0) :: st, h => by rw [popZ]; exact StB_pop fun x hx => h x (by simp [hx])
  | (a, n + 1) :: st, h => by rw [popZ]; exact h; simp

theorem popZ_top : ∀ {st : List (Nat × Nat)} {x l : Nat} {r : List (Nat × Nat)}, popZ st = (x, l) :: r → 0 < l
  | [], _, _, _, h => by simp [popZ] at h
  | (a, 0) :: st, _, _, _, h => by rw [popZ] at h; exact popZ_top h
  | (a, n + 1) :: st, _, _, _, h => by
    rw [popZ] at h
    · simp at h; omega
    · simp
theorem StB_dec {st : List (Nat × Nat)} (h : StB st) : StB (decS st) := by
  cases st with
  | nil => exact h
  | cons x r =>
    have hx := h x (by simp)
    intro y hy
    simp [decS] at hy
    rcases hy with rfl | hy
    · exact ⟨hx.1, by simp; omega⟩
    · exact h y (by simp [hy])
theorem StB_push {i : Nat} {f : Fld} {st : List (Nat × Nat)} (hi : i < 10000) (hf : f.kids < 10000) (h : StB st) : StB (pushS i f st) := by
  unfold pushS
  split
  · intro y hy
    simp at hy
    rcases hy with rfl | hy
    · exact ⟨hi, hf⟩
    · exact h y hy
  · exact h
theorem popZ_len (st : List (Nat × Nat)) : (popZ st).length ≤ st.length := by
  induction st with
  | nil => simp [popZ]
  | cons x r ih =>
    obtain ⟨a, l⟩ := x
    cases l with
    | zero => rw [popZ]; simp; omega
    | succ n => rw [popZ]; exact Nat.le_refl _; simp
theorem decS_len (st : List (Nat × Nat)) : (decS st).length = st.length := by cases st <;> simp [decS]

def fldD (f : Fld) : List PD := [.str f.name, .int .i64 f.rep, .int .i64 f.kind, .int .i64 f.kids]
def lfD (l : Lf) : List PD := [.int .i64 l.field, .int .i64 l.r, .int .i64 l.d, .int .i64 l.kind]
def schD (s : List Fld) : PD := .lst s.length (s.flatMap fldD)
def lfsD (s : List Lf) : PD := .lst s.length (s.flatMap lfD)
def lfV (l : Lf) : List PV := (lfD l).map (.d true)

theorem fldD_len (f : Fld) : (fldD f).length = 4 := rfl
theorem lfD_len (f : Lf) : (lfD f).length = 4 := rfl
theorem flds_len (s : List Fld) : (s.flatMap fldD).length = s.length * 4 := flat_length fldD 4 fldD_len s
theorem lfs_len (s : List Lf) : (s.flatMap lfD).length = s.length * 4 := flat_length lfD 4 lfD_len s

theorem getD_of {α : Type} [Inhabited α] {s : List α} {i : Nat} (h : i < s.length) : s[i]?.getD default = s[i] := by simp [h]

theorem fld0 {s : List Fld} {i : Nat} (h : i < s.length) : (s.flatMap fldD)[i * 4]?.getD .nil = .str (s[i]?.getD default).name := by
  have := flat_get fldD 4 fldD_len (s := s) (i := i) (o := 0) h (by omega)
  rw [Nat.add_zero] at this; rw [this, getD_of h]; rfl
theorem fld1 {s : List Fld} {i : Nat} (h : i < s.length) : (s.flatMap fldD)[i * 4 + 1]?.getD .nil = .int .i64 (s[i]?.getD default).rep := by
  rw [flat_get fldD 4 fldD_len h (by omega), getD_of h]; rfl
theorem fld2 {s : List Fld} {i : Nat} (h : i < s.length) : (s.flatMap fldD)[i * 4 + 2]?.getD .nil = .int .i64 (s[i]?.getD default).kind := by
  rw [flat_get fldD 4 fldD_len h (by omega), getD_of h]; rfl
theorem fld3 {s : List Fld} {i : Nat} (h : i < s.length) : (s.flatMap fldD)[i * 4 + 3]?.getD .nil = .int .i64 (s[i]?.getD default).kids := by
  rw [flat_get fldD 4 fldD_len h (by omega), getD_of h]; rfl
theorem fldAll {s : List Fld} {i : Nat} (h : i < s.length) : ((s.flatMap fldD).drop (i * 4)).take 4 = fldD (s[i]?.getD default) := by
  rw [flat_part fldD 4 fldD_len h, getD_of h]
theorem lf0 {s : List Lf} {i : Nat} (h : i < s.length) : (s.flatMap lfD)[i * 4]?.getD .nil = .int .i64 (s[i]?.getD default).field := by
  have := flat_get lfD 4 lfD_len (s := s) (i := i) (o := 0) h (by omega)
  rw [Nat.add_zero] at this; rw [this, getD_of h]; rfl
theorem lf1 {s : List Lf} {i : Nat} (h : i < s.length) : (s.flatMap lfD)[i * 4 + 1]?.getD .nil = .int .i64 (s[i]?.getD default).r := by
  rw [flat_get lfD 4 lfD_len h (by omega), getD_of h]; rfl
theorem lf2 {s : List Lf} {i : Nat} (h : i < s.length) : (s.flatMap lfD)[i * 4 + 2]?.getD .nil = .int .i64 (s[i]?.getD default).d := by
  rw [flat_get lfD 4 lfD_len h (by omega), getD_of h]; rfl
theorem lf3 {s : List Lf} {i : Nat} (h : i < s.length) : (s.flatMap lfD)[i * 4 + 3]?.getD .nil = .int .i64 (s[i]?.getD default).kind := by
  rw [flat_get lfD 4 lfD_len h (by omega), getD_of h]; rfl
theorem lfAll {s : List Lf} {i : Nat} (h : i < s.length) : ((s.flatMap lfD).drop (i * 4)).take 4 = lfD (s[i]?.getD default) := by
  rw [flat_part lfD 4 lfD_len h, getD_of h]

def lfsV (s : List Lf) : List PV := (s.flatMap lfD).map (.d true)
theorem lfs_dk (k : Bool) (s : List Lf) : (s.flatMap lfD).map (dk k) = lfsV s := by
  induction s with
  | nil => rfl
  | cons a s ih =>
    unfold lfsV at ih ⊢
    rw [List.flatMap_cons, List.map_append, List.map_append, ih]; rfl
theorem lfs_toDs (s : List Lf) : toDs (lfsV s) = some (s.flatMap lfD) := toDs_true _

theorem lfV_len' {x : Lf} : (lfV x).length = 4 := rfl
theorem lfs_rep (n : Nat) : (List.replicate n [PV.d true (.int .i64 0), .d true (.int .i64 0), .d true (.int .i64 0), .d true (.int .i64 0)]).flatten = lfsV (List.replicate n default) := by
  induction n with
  | zero => rfl
  | succ n ih => rw [List.replicate_succ, List.flatten_cons, ih, List.replicate_succ]; rfl
theorem lfsV_len (s : List Lf) : (lfsV s).length = s.length * 4 := by unfold lfsV; rw [List.length_map, lfs_len]
theorem lfsV_flat (s : List Lf) : lfsV s = s.flatMap lfV := by
  induction s with
  | nil => rfl
  | cons a s ih => unfold lfsV at ih ⊢; rw [List.flatMap_cons, List.map_append, ih]; rfl
theorem lfsV_get {s : List Lf} {i o : Nat} (h : i < s.length) (ho : o < 4) : (lfsV s)[i * 4 + o]? = (lfV s[i])[o]? := by
  rw [lfsV_flat]; exact flat_get lfV 4 (fun _ => rfl) h ho
theorem lfsV1 {s : List Lf} {i : Nat} (h : i < s.length) : (lfsV s)[i * 4 + 1]?.getD .dead = .d true (.int .i64 (s[i]?.getD default).r) := by
  rw [lfsV_get h (by omega), getD_of h]; rfl
theorem lfsV2 {s : List Lf} {i : Nat} (h : i < s.length) : (lfsV s)[i * 4 + 2]?.getD .dead = .d true (.int .i64 (s[i]?.getD default).d) := by
  rw [lfsV_get h (by omega), getD_of h]; rfl
theorem lfsV_app (a b : List Lf) : lfsV a ++ lfsV b = lfsV (a ++ b) := by simp [lfsV]
theorem lfsV_app1 (a : List Lf) (x : Lf) : lfsV a ++ lfV x = lfsV (a ++ [x]) := by rw [← lfsV_app]; congr 1
theorem lfsV_setAt {s : List Lf} {i : Nat} {x : Lf} (h : i < s.length) : setAt (lfsV s) (i * 4) (lfV x) = lfsV (s.set i x) := by
  have e : s = s.take i ++ s[i] :: s.drop (i + 1) := by rw [← List.drop_eq_getElem_cons h, List.take_append_drop]
  have hl : (lfsV (s.take i)).length = i * 4 := by rw [lfsV_len, List.length_take, Nat.min_eq_left (Nat.le_of_lt h)]
  have hs : s.set i x = s.take i ++ x :: s.drop (i + 1) := by rw [List.set_eq_take_append_cons_drop, if_pos h]
  have e1 : lfsV s = lfsV (s.take i) ++ (lfV s[i] ++ lfsV (s.drop (i + 1))) := by
    conv => lhs; rw [e]
    rw [← lfsV_app]; rfl
  unfold setAt
  rw [hs, ← lfsV_app, e1, List.take_left' hl]
  have : lfsV (x :: s.drop (i + 1)) = lfV x ++ lfsV (s.drop (i + 1)) := rfl
  rw [this, List.append_assoc]
  congr 2
  rw [lfV_len', ← List.drop_drop, List.drop_left' hl]
  exact List.drop_left' rfl

/-- Each field's levels: how far it is repeated, how far defined. -/
def levStep (s : List Fld) (p : List Int) (acc : List Lf) (i : Nat) : Lf :=
  let f := s[i]?.getD default
  let q := p[i]?.getD 0
  let b : Lf := if 0 ≤ q then acc[q.toNat]?.getD default else default
  ⟨i, b.r + (if f.rep = 2 then 1 else 0), b.d + (if f.rep = 0 then 0 else 1), f.kind⟩
def levN (s : List Fld) (p : List Int) : Nat → List Lf
  | 0 => []
  | n + 1 => levN s p n ++ [levStep s p (levN s p n) n]
def leavesM (s : List Fld) : List Lf := (levN s (parM s) s.length).filter fun l => l.kind ≠ 0
theorem levN_len (s : List Fld) (p : List Int) : ∀ n, (levN s p n).length = n
  | 0 => rfl
  | n + 1 => by simp [levN, levN_len s p n]

theorem levN_get (s : List Fld) (p : List Int) : ∀ (n j : Nat), j < n → (levN s p n)[j]?.getD default = levStep s p (levN s p j) j
  | 0, _, h => by omega
  | n + 1, j, h => by
    rw [levN]
    by_cases e : j = n
    · subst e
      rw [List.getElem?_append_right (by rw [levN_len]; exact Nat.le_refl _), levN_len]; simp
    · rw [List.getElem?_append_left (by rw [levN_len]; omega)]
      exact levN_get s p n j (by omega)
theorem levStep_bound (s : List Fld) (p : List Int) : ∀ j : Nat, (levStep s p (levN s p j) j).r ≤ j + 1 ∧ (levStep s p (levN s p j) j).d ≤ j + 1 := by
  intro j
  induction j using Nat.strongRecOn with
  | _ j ih =>
    have key : ∀ q : Int, p[j]?.getD 0 = q → ((if 0 ≤ q then (levN s p j)[q.toNat]?.getD default else (default : Lf)).r ≤ j ∧ (if 0 ≤ q then (levN s p j)[q.toNat]?.getD default else (default : Lf)).d ≤ j) := by
      intro q hq
      split
      · rename_i h
        by_cases hlt : q.toNat < j
        · rw [levN_get s p j q.toNat hlt]
          have := ih q.toNat hlt
          omega
        · rw [List.getElem?_eq_none (by rw [levN_len]; omega)]
          exact ⟨Nat.zero_le _, Nat.zero_le _⟩
      · exact ⟨Nat.zero_le _, Nat.zero_le _⟩
    have h2 := key _ rfl
    simp only [levStep]
    generalize (if 0 ≤ p[j]?.getD 0 then (levN s p j)[(p[j]?.getD 0).toNat]?.getD default else (default : Lf)) = B at h2 ⊢
    obtain ⟨h3, h4⟩ := h2
    refine ⟨?_, ?_⟩
    · split <;> omega
    · split <;> omega

theorem lfD_dk (k : Bool) (x : Lf) : (lfD x).map (dk k) = lfV x := rfl
theorem lfV_fits (hp : HP) (x : Lf) : fitsP hp (lfV x) = True := by simp [lfV, lfD, fitsP, fitP, oneP]
theorem lfV_len (x : Lf) : (lfV x).length = 4 := rfl
theorem lfV_all (x : Lf) : (lfV x).take 4 = lfV x := rfl
theorem lfV_data (x : Lf) : dataL (lfV x) = some (lfD x) := rfl
theorem lf_eq (a b : Lf) : eqCells [(0, 0), (1, 0), (2, 0), (3, 0)] (lfD a) (lfD b) = some (decide (a = b)) := by
  obtain ⟨a1, a2, a3, a4⟩ := a
  obtain ⟨b1, b2, b3, b4⟩ := b
  simp only [eqCells, eqOne, lfD, List.getElem?_cons_zero, List.getElem?_cons_succ, if_true, Bool.and_true]
  congr 1
  rw [Bool.eq_iff_iff]
  simp only [Bool.and_eq_true, beq_iff_eq, Int.natCast_inj, decide_eq_true_eq, Lf.mk.injEq]
theorem fldD_dk (k : Bool) (x : Fld) : (fldD x).map (dk k) = (fldD x).map (.d true) := rfl

end Go.Proofs.Ytfhpoffgnpgagaa
