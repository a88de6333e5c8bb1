/- Rows of numbers and of structs. No condition. -/
import Derived.Test.YtfhpoffgnpgagaaAbsT
set_option linter.unusedSimpArgs false
set_option linter.unusedVariables false
namespace Go.Abs

/-- Whole numbers as data. -/
def iD (n : Int) : PD := .int .i64 n
def isD (l : List Int) : List PD := l.map iD
/-- .. as cells. -/
def iV (n : Int) : PV := .d true (.int .i64 n)
def isV (l : List Int) : List PV := l.map iV

theorem isD_length (l : List Int) : (isD l).length = l.length := by simp [isD]
theorem isV_length (l : List Int) : (isV l).length = l.length := by simp [isV]
theorem isD_get {l : List Int} {i : Nat} (h : i < l.length) : (isD l)[i]?.getD .nil = .int .i64 (l[i]?.getD 0) := by simp [isD, iD, h]
theorem isV_get {l : List Int} {i : Nat} (h : i < l.length) : (isV l)[i]?.getD .dead = .d true (.int .i64 (l[i]?.getD 0)) := by simp [isV, iV, h]
theorem isV_toDs (l : List Int) : toDs (isV l) = some (isD l) := by
  induction l with
  | nil => rfl
  | cons n l ih => simp only [isV, isD, List.map_cons] at ih ⊢; simp only [toDs, ih]; rfl
theorem isD_V (k : Bool) (l : List Int) : toDs ((isD l).map (.d k)) = some (isD l) := toDs_d k iD (fun n => by cases k <;> rfl) l
theorem isD_dk (k : Bool) (l : List Int) : (isD l).map (dk k) = isV l := by simp [isD, isV, iD, iV, dk]
theorem dks :
    (∀ {k K n}, dk k (.int K n) = .d true (.int K n)) ∧ (∀ {k b}, dk k (.bool b) = .d true (.bool b)) ∧ (∀ {k s}, dk k (.str s) = .d true (.str s)) ∧ (∀ {k}, dk k .nil = .d true .nil) ∧
    (∀ {k n cs}, dk k (.lst n cs) = .d k (.lst n cs)) ∧ (∀ {k cs}, dk k (.lp cs) = .d k (.lp cs)) ∧ (∀ {k cs}, dk k (.agg cs) = .d k (.agg cs)) ∧ (∀ {k cs}, dk k (.tup cs) = .d k (.tup cs)) := ⟨rfl, rfl, rfl, rfl, rfl, rfl, rfl, rfl⟩
theorem isD_Vt (l : List Int) : (isD l).map (.d true) = isV l := by simp [isD, isV, iD, iV]
theorem isV_setAt {l : List Int} {i : Nat} {x : Int} (h : i < l.length) : setAt (isV l) i [.d true (.int .i64 x)] = isV (l.set i x) := by
  unfold setAt isV
  rw [List.map_set]
  simp only [List.length_singleton, List.append_assoc, List.singleton_append]
  rw [List.set_eq_take_append_cons_drop]
  simp [h, iV]
theorem isV_append (l : List Int) (x : Int) : isV l ++ [.d true (.int .i64 x)] = isV (l ++ [x]) := by simp [isV, iV]
theorem isV_app (l m : List Int) : isV l ++ isV m = isV (l ++ m) := by simp [isV]
theorem isV_take (l : List Int) (n : Nat) : (isV l).take n = isV (l.take n) := by simp [isV, List.map_take]
theorem isV_takeAll (l : List Int) : (isV l).take l.length = isV l := by rw [← isV_length l]; simp
theorem natSub1 {n : Nat} : (((n + 1 : Nat) : Int) - 1) = (n : Int) := by omega
theorem isV_nil : ([] : List PV) = isV [] := rfl
theorem isV_one (x : Int) : [.d true (.int .i64 x)] = isV [x] := rfl

theorem isV_loc (N : Nat) (l : List Int) : locsOK N (isV l) := locsOK_d N _ fun x hx => by simp [isV] at hx; obtain ⟨n, _, rfl⟩ := hx; exact ⟨true, .int .i64 n, rfl⟩

/-- A row that holds a stack (its top stands first), and rubbish behind it. -/
def Stk (row st : List Int) : Prop := row.take st.length = st.reverse ∧ st.length ≤ row.length
theorem Stk.nil (row : List Int) : Stk row [] := by simp [Stk]
theorem Stk.lt {row r : List Int} {x : Int} (h : Stk row (x :: r)) : r.length < row.length := by have := h.2; simp at this; omega
theorem Stk.top {row r : List Int} {x : Int} (h : Stk row (x :: r)) : row[r.length]?.getD 0 = x := by
  have h1 := h.1
  have : (row.take (r.length + 1))[r.length]? = some x := by rw [show r.length + 1 = (x :: r).length from rfl, h1]; simp
  rw [List.getElem?_take, if_pos (by omega)] at this
  rw [this]; rfl
theorem Stk.pop {row r : List Int} {x : Int} (h : Stk row (x :: r)) : Stk row r := by
  refine ⟨?_, Nat.le_of_lt h.lt⟩
  have h1 := h.1
  have : row.take r.length = (row.take (x :: r).length).take r.length := by rw [List.take_take]; congr 1; simp
  rw [this, h1]
  simp [List.take_append_of_le_length]
theorem Stk.set {row r : List Int} {x : Int} (y : Int) (h : Stk row (x :: r)) : Stk (row.set r.length y) (y :: r) := by
  have hp := h.pop
  have hlt := h.lt
  refine ⟨?_, by simpa using h.2⟩
  rw [List.length_cons, List.take_set, List.reverse_cons, ← hp.1]
  have e : List.take (r.length + 1) row = List.take r.length row ++ [row[r.length]] := by rw [List.take_add_one]; simp [hlt]
  rw [e, List.set_append]
  simp [Nat.min_eq_left (Nat.le_of_lt hlt)]
theorem Stk.push {row r : List Int} (x : Int) (h : Stk row r) : Stk (row.take r.length ++ [x]) (x :: r) := by
  refine ⟨?_, by simp [h.2]⟩
  rw [h.1]
  have : (x :: r).length = (r.reverse ++ [x]).length := by simp
  rw [this, List.take_length]; simp

theorem setAt_zero (x y : PV) (l : List PV) : setAt (x :: l) 0 [y] = y :: l := by simp [setAt]
theorem setAt_succ (x : PV) (l cs : List PV) (n : Nat) : setAt (x :: l) (n + 1) cs = x :: setAt l n cs := by simp [setAt, Nat.succ_add]
theorem setAt_all (l cs : List PV) (h : l.length = cs.length) : setAt l 0 cs = cs := by simp [setAt, ← h]

/-- Rows of structs, each of m cells. -/
theorem flat_length {α β : Type} (g : α → List β) (m : Nat) (hg : ∀ a, (g a).length = m) (s : List α) : (s.flatMap g).length = s.length * m := by
  induction s with
  | nil => simp
  | cons a s ih => simp [List.flatMap_cons, ih, hg, Nat.succ_mul]; omega

theorem flat_drop {α β : Type} (g : α → List β) (m : Nat) (hg : ∀ a, (g a).length = m) : ∀ (s : List α) (i : Nat), (s.flatMap g).drop (i * m) = (s.drop i).flatMap g
  | s, 0 => by simp
  | [], i + 1 => by simp
  | a :: s, i + 1 => by
    rw [List.flatMap_cons, Nat.succ_mul, Nat.add_comm, ← List.drop_drop]
    have : List.drop m (g a ++ s.flatMap g) = s.flatMap g := by rw [← hg a]; simp
    rw [this, flat_drop g m hg s i]; rfl

theorem flat_get {α β : Type} (g : α → List β) (m : Nat) (hg : ∀ a, (g a).length = m) {s : List α} {i o : Nat} (h : i < s.length) (ho : o < m) : (s.flatMap g)[i * m + o]? = (g s[i])[o]? := by
  have : (s.flatMap g)[i * m + o]? = ((s.flatMap g).drop (i * m))[o]? := by rw [List.getElem?_drop]
  rw [this, flat_drop g m hg, List.drop_eq_getElem_cons h, List.flatMap_cons, List.getElem?_append_left (by rw [hg]; exact ho)]

theorem flat_part {α β : Type} (g : α → List β) (m : Nat) (hg : ∀ a, (g a).length = m) {s : List α} {i : Nat} (h : i < s.length) : ((s.flatMap g).drop (i * m)).take m = g s[i] := by
  rw [flat_drop g m hg, List.drop_eq_getElem_cons h, List.flatMap_cons]
  rw [← hg s[i]]; simp

end Go.Abs
