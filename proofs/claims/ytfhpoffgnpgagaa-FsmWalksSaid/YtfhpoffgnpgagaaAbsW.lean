/- Steps of the calculus one by one, each by a law of its own; states as lists. No condition. -/
import Derived.Test.YtfhpoffgnpgagaaAbsV
set_option linter.unusedSimpArgs false
set_option linter.unusedVariables false
namespace Go.Abs

/-- Slots as a list. -/
def envL : List (Nat × PV) → Nat → PV
  | [], _ => .dead
  | (a, x) :: l, t => bif Nat.beq t a then x else envL l t

/-- This call's own objects as a list, ahead of what was there. -/
def hpL (N : Nat) (hp : HP) : List (Nat × (Nat × Option AObj)) → HP
  | [] => hp
  | (d, o) :: m => upd (hpL N hp m) (N + d) o

theorem envL_upd (l : List (Nat × PV)) (d : Nat) (x : PV) : upd (envL l) d x = envL ((d, x) :: l) := by
  funext t
  simp only [upd, envL]
  by_cases h : t = d
  · subst h; simp
  · have : Nat.beq t d = false := by
      cases h' : Nat.beq t d
      · rfl
      · exact absurd (Nat.eq_of_beq_eq_true h') h
    simp [h, this]

theorem hpL_hit {N : Nat} {hp : HP} {d : Nat} {o : Nat × Option AObj} {m : List (Nat × (Nat × Option AObj))} : hpL N hp ((d, o) :: m) (N + d) = o := by simp [hpL, upd]
theorem hpL_miss {N : Nat} {hp : HP} {d d' : Nat} {o o' : Nat × Option AObj} {m : List (Nat × (Nat × Option AObj))} (hd : Nat.beq d' d = false) (h : hpL N hp m (N + d') = o') : hpL N hp ((d, o) :: m) (N + d') = o' := by
  have : d' ≠ d := by intro e; subst e; simp at hd
  simp [hpL, upd, this, h]
theorem hpL_low {N : Nat} {hp : HP} : ∀ {m : List (Nat × (Nat × Option AObj))} {id : Nat}, id < N → hpL N hp m id = hp id
  | [], _, _ => rfl
  | (d, o) :: m, id, h => by
    have : id ≠ N + d := by omega
    simp only [hpL, upd, this, if_false]
    exact hpL_low h
theorem hpL_updlow {N : Nat} {hp : HP} {id : Nat} (o : Nat × Option AObj) (h : id < N) : ∀ (m : List (Nat × (Nat × Option AObj))), upd (hpL N hp m) id o = hpL N (upd hp id o) m
  | [] => rfl
  | (d, x) :: m => by
    have : id ≠ N + d := by omega
    simp only [hpL]
    rw [← hpL_updlow o h m]
    funext j
    simp only [upd]
    by_cases h1 : j = id
    · subst h1; simp [this]
    · simp [h1]
theorem hpL_low' {N : Nat} {hp : HP} {m : List (Nat × (Nat × Option AObj))} {id : Nat} {o : Nat × Option AObj} (h : id < N) (ho : hp id = o) : hpL N hp m id = o := (hpL_low h).trans ho

/-- The model's guards and ties. -/
def gd {α : Type} (p : Prop) [Decidable p] (x : Option α) : Option α := if p then x else none
theorem gd_out {α : Type} {p : Prop} [Decidable p] {x : Option α} {r : α} (h : gd p x = some r) : p ∧ x = some r := by
  unfold gd at h; split at h
  · exact ⟨‹_›, h⟩
  · cases h
theorem gd_in {α : Type} {p : Prop} [Decidable p] {x : Option α} (h : p) : gd p x = x := by simp [gd, h]
def bd {α β : Type} (x : Option α) (f : α → Option β) : Option β := match x with | some a => f a | none => none
theorem bd_out {α β : Type} {x : Option α} {f : α → Option β} {r : β} (h : bd x f = some r) : ∃ a, x = some a ∧ f a = some r := by
  cases x with
  | none => cases h
  | some a => exact ⟨a, rfl, h⟩
theorem bd_some {α β : Type} {a : α} {f : α → Option β} : bd (some a) f = f a := rfl
theorem cond_t {α : Type} {b : Bool} {x y r : α} (h : (bif b then x else y) = r) (hb : b = true) : x = r := by subst hb; exact h
theorem cond_f {α : Type} {b : Bool} {x y r : α} (h : (bif b then x else y) = r) (hb : b = false) : y = r := by subst hb; exact h

/-- Data, read in whole. -/
def lenN : PD → Nat | .lst n _ => n | _ => 0
def cellsD : PD → List PD | .lst _ cs => cs | .agg cs => cs | .tup cs => cs | .lp cs => cs | _ => []
def intD : PD → Int | .int _ z => z | _ => 0
def boolD : PD → Bool | .bool b => b | _ => false
def strD : PD → List UInt8 | .str s => s | _ => []
def isI (K : IntKind) : PD → Bool | .int K' _ => decide (K' = K) | _ => false
def isB : PD → Bool | .bool _ => true | _ => false
def isS : PD → Bool | .str _ => true | _ => false
def isLst : PD → Bool | .lst _ _ => true | _ => false
def isSlD : PD → Bool | .lst _ _ => true | .nil => true | _ => false
def isAg : PD → Bool | .agg _ => true | _ => false

theorem cI {K : IntKind} {y : PD} {k : Bool} (h : isI K y = true) : dk k y = .d true (.int K (intD y)) := by
  cases y <;> simp [isI] at h
  subst h; rfl
theorem cB {y : PD} {k : Bool} (h : isB y = true) : dk k y = .d true (.bool (boolD y)) := by cases y <;> simp [isB] at h; rfl
theorem cS {y : PD} {k : Bool} (h : isS y = true) : dk k y = .d true (.str (strD y)) := by cases y <;> simp [isS] at h; rfl
theorem dk_true (y : PD) : dk true y = .d true y := by cases y <;> rfl
theorem cI' {K : IntKind} {y : PD} (h : isI K y = true) : PV.d true y = .d true (.int K (intD y)) := by rw [← dk_true]; exact cI h
theorem cB' {y : PD} (h : isB y = true) : PV.d true y = .d true (.bool (boolD y)) := by rw [← dk_true]; exact cB h
theorem cS' {y : PD} (h : isS y = true) : PV.d true y = .d true (.str (strD y)) := by rw [← dk_true]; exact cS h
theorem isLst_eq {y : PD} (h : isLst y = true) : y = .lst (lenN y) (cellsD y) := by cases y <;> simp [isLst] at h; rfl
theorem isAg_eq {y : PD} (h : isAg y = true) : y = .agg (cellsD y) := by cases y <;> simp [isAg] at h; rfl

def idxOK (sz : Nat) (y : PD) (z : Int) : Prop := isLst y = true ∧ 0 ≤ z ∧ z < lenN y ∧ z.toNat * sz ≤ (cellsD y).length
instance {sz y z} : Decidable (idxOK sz y z) := by unfold idxOK; infer_instance

/-- One operation's step: its value; the object that turns. -/
def St (C : Ctx) (s : ASt) (op : Op) (dst : Option Nat) (x : PV) (oo : Option (Nat × Nat × Option AObj)) : Prop :=
  isVC op = false ∧ ∀ ty pos aft, (fstep C.E0.P C.nm s ⟨dst, op, ty, pos, aft, none⟩).1 ∧ (fstep C.E0.P C.nm s ⟨dst, op, ty, pos, aft, none⟩).2 = ⟨x, oo⟩

/-- .. that makes an object, or turns its version: the version is not told. -/
def StN (C : Ctx) (s : ASt) (op : Op) (d : Nat) (x : Nat → PV) (id : Nat) (o : AObj) : Prop := ∃ v, St C s op (some d) (x v) (some (id, v, some o))

section
variable {C : Ctx} {gs : List (Option Tmp)} {s : ASt} {K : ASt → Prop} {ty : TypeId} {pos : String} {aft : Array Edge} {rest : List Oper} {op : Op}

theorem goL_st {dst : Option Nat} {x : PV} {oo : Option (Nat × Nat × Option AObj)} (h : St C s op dst x oo) (hd : dstOK C.n ⟨dst, op, ty, pos, aft, none⟩ = true) (hk : goL C gs rest (s.app dst ⟨x, oo⟩) K) :
    goL C gs (⟨dst, op, ty, pos, aft, none⟩ :: rest) s K := by
  rw [goL_step (fun f as ats e => by subst e; have := h.1; simp [isVC] at this)]
  obtain ⟨h1, h2⟩ := h.2 ty pos aft
  exact ⟨hd, h1, by rw [h2]; exact hk⟩

theorem goL_s {l : List (Nat × PV)} {hp : HP} {d : Nat} {x : PV} (h : St C ⟨envL l, hp⟩ op (some d) x none) (hd : dstOK C.n ⟨some d, op, ty, pos, aft, none⟩ = true) (hk : goL C gs rest ⟨envL ((d, x) :: l), hp⟩ K) :
    goL C gs (⟨some d, op, ty, pos, aft, none⟩ :: rest) ⟨envL l, hp⟩ K := by
  refine goL_st h hd ?_
  simp only [ASt.app, ASt.put, envL_upd]; exact hk
theorem goL_s0 {l : List (Nat × PV)} {hp : HP} {x : PV} (h : St C ⟨envL l, hp⟩ op none x none) (hd : dstOK C.n ⟨none, op, ty, pos, aft, none⟩ = true) (hk : goL C gs rest ⟨envL l, hp⟩ K) :
    goL C gs (⟨none, op, ty, pos, aft, none⟩ :: rest) ⟨envL l, hp⟩ K := goL_st h hd hk
/-- A store into an object of this call's own. -/
theorem goL_o0 {l : List (Nat × PV)} {N : Nat} {hp : HP} {m : List (Nat × (Nat × Option AObj))} {x : PV} {d' v : Nat} {o : Option AObj} (h : St C ⟨envL l, hpL N hp m⟩ op none x (some (N + d', v, o))) (hd : dstOK C.n ⟨none, op, ty, pos, aft, none⟩ = true)
    (hk : goL C gs rest ⟨envL l, hpL N hp ((d', (v, o)) :: m)⟩ K) : goL C gs (⟨none, op, ty, pos, aft, none⟩ :: rest) ⟨envL l, hpL N hp m⟩ K := goL_st h hd hk
/-- .. of the caller's. -/
theorem goL_c0 {l : List (Nat × PV)} {N : Nat} {hp : HP} {m : List (Nat × (Nat × Option AObj))} {x : PV} {id v : Nat} {o : Option AObj} (h : St C ⟨envL l, hpL N hp m⟩ op none x (some (id, v, o))) (hid : id < N) (hd : dstOK C.n ⟨none, op, ty, pos, aft, none⟩ = true)
    (hk : goL C gs rest ⟨envL l, hpL N (upd hp id (v, o)) m⟩ K) : goL C gs (⟨none, op, ty, pos, aft, none⟩ :: rest) ⟨envL l, hpL N hp m⟩ K := by
  refine goL_st h hd ?_
  simp only [ASt.app, ASt.put, hpL_updlow _ hid]; exact hk
theorem goL_n {l : List (Nat × PV)} {N : Nat} {hp : HP} {m : List (Nat × (Nat × Option AObj))} {d d' : Nat} {x : Nat → PV} {o : AObj} (h : StN C ⟨envL l, hpL N hp m⟩ op d x (N + d') o) (hd : dstOK C.n ⟨some d, op, ty, pos, aft, none⟩ = true)
    (hk : ∀ v, goL C gs rest ⟨envL ((d, x v) :: l), hpL N hp ((d', (v, some o)) :: m)⟩ K) : goL C gs (⟨some d, op, ty, pos, aft, none⟩ :: rest) ⟨envL l, hpL N hp m⟩ K := by
  obtain ⟨v, h⟩ := h
  refine goL_st h hd ?_
  simp only [ASt.app, ASt.put, envL_upd]; exact hk v
theorem goL_nc {l : List (Nat × PV)} {N : Nat} {hp : HP} {m : List (Nat × (Nat × Option AObj))} {d id : Nat} {x : Nat → PV} {o : AObj} (h : StN C ⟨envL l, hpL N hp m⟩ op d x id o) (hid : id < N) (hd : dstOK C.n ⟨some d, op, ty, pos, aft, none⟩ = true)
    (hk : ∀ v, goL C gs rest ⟨envL ((d, x v) :: l), hpL N (upd hp id (v, some o)) m⟩ K) : goL C gs (⟨some d, op, ty, pos, aft, none⟩ :: rest) ⟨envL l, hpL N hp m⟩ K := by
  obtain ⟨v, h⟩ := h
  refine goL_st h hd ?_
  simp only [ASt.app, ASt.put, envL_upd, hpL_updlow _ hid]; exact hk v

theorem goL_gT {dst : Option Tmp} {j t : Nat} {w b kb : Bool} (hg : gs[j]? = some (some t)) (he : s.env t = .d kb (.bool b)) (hb : b = w) (hk : goL C gs (⟨dst, op, ty, pos, aft, none⟩ :: rest) s K) :
    goL C gs (⟨dst, op, ty, pos, aft, some (j, w)⟩ :: rest) s K := by
  rw [goL_guard]
  simp only [wantG, hg, he]
  subst hb
  exact ⟨fun _ => hk, fun h => by cases b <;> simp at h⟩
theorem goL_gF {l : List (Nat × PV)} {hp : HP} {d : Nat} {j t : Nat} {w b kb : Bool} (hg : gs[j]? = some (some t)) (he : envL l t = .d kb (.bool b)) (hb : b = !w) (hd : dstOK C.n ⟨some d, op, ty, pos, aft, none⟩ = true) (hk : goL C gs rest ⟨envL ((d, und) :: l), hp⟩ K) :
    goL C gs (⟨some d, op, ty, pos, aft, some (j, w)⟩ :: rest) ⟨envL l, hp⟩ K := by
  rw [goL_guard]
  simp only [wantG, hg, he]
  subst hb
  refine ⟨fun h => by cases w <;> simp at h, fun _ => ⟨hd, ?_⟩⟩
  simp only [ASt.put, envL_upd]; exact hk
theorem goL_gU {l : List (Nat × PV)} {hp : HP} {d : Nat} {j t : Nat} {w : Bool} (hg : gs[j]? = some (some t)) (he : envL l t = und) (hd : dstOK C.n ⟨some d, op, ty, pos, aft, none⟩ = true) (hk : goL C gs rest ⟨envL ((d, und) :: l), hp⟩ K) :
    goL C gs (⟨some d, op, ty, pos, aft, some (j, w)⟩ :: rest) ⟨envL l, hp⟩ K := by
  rw [goL_guard]
  simp only [wantG, hg, he, und]
  refine ⟨fun h => by cases w <;> simp at h, fun _ => ⟨hd, ?_⟩⟩
  simp only [ASt.put, envL_upd]; exact hk
theorem goL_gU0 {l : List (Nat × PV)} {hp : HP} {j t : Nat} {w : Bool} (hg : gs[j]? = some (some t)) (he : envL l t = und) (hd : dstOK C.n ⟨none, op, ty, pos, aft, none⟩ = true) (hk : goL C gs rest ⟨envL l, hp⟩ K) :
    goL C gs (⟨none, op, ty, pos, aft, some (j, w)⟩ :: rest) ⟨envL l, hp⟩ K := by
  rw [goL_guard]
  simp only [wantG, hg, he, und]
  exact ⟨fun h => by cases w <;> simp at h, fun _ => ⟨hd, hk⟩⟩
theorem goL_gF0 {l : List (Nat × PV)} {hp : HP} {j t : Nat} {w b kb : Bool} (hg : gs[j]? = some (some t)) (he : envL l t = .d kb (.bool b)) (hb : b = !w) (hd : dstOK C.n ⟨none, op, ty, pos, aft, none⟩ = true) (hk : goL C gs rest ⟨envL l, hp⟩ K) :
    goL C gs (⟨none, op, ty, pos, aft, some (j, w)⟩ :: rest) ⟨envL l, hp⟩ K := by
  rw [goL_guard]
  simp only [wantG, hg, he]
  subst hb
  exact ⟨fun h => by cases w <;> simp at h, fun _ => ⟨hd, hk⟩⟩
end

section
variable {C : Ctx} {ops : Array Oper} {gs : List (Option Tmp)} {s : ASt} {acc : List (List Nat × List Nat)} {K : List (List Nat × List Nat) → ASt → Prop} {ty : TypeId} {pos : String} {aft : Array Edge} {rest : List Oper} {op : Op}


/-- The guard says yes. -/
def GOK (gs : List (Option Tmp)) (s : ASt) : Option (Nat × Bool) → Prop
  | none => True
  | some (j, w) => wantG gs s j w = some w
theorem GOK_t {t j : Nat} {w b kb : Bool} (hg : gs[j]? = some (some t)) (he : s.env t = .d kb (.bool b)) (hb : b = w) : GOK gs s (some (j, w)) := by
  simp only [GOK, wantG, hg, he, hb]

theorem goA_st {dst : Option Nat} {x : PV} {oo : Option (Nat × Nat × Option AObj)} {g : Option (Nat × Bool)} (hgo : GOK gs s g) (h : St C s op dst x oo) (hd : dstOK C.n ⟨dst, op, ty, pos, aft, none⟩ = true)
    (hk : goA C ops gs rest (s.app dst ⟨x, oo⟩) ((wrE ⟨x, oo⟩, rdOf C.nm s ⟨dst, op, ty, pos, aft, none⟩ ++ wrE ⟨x, oo⟩) :: acc) K) :
    goA C ops gs (⟨dst, op, ty, pos, aft, g⟩ :: rest) s acc K := by
  obtain ⟨h1, h2⟩ := h.2 ty pos aft
  have hv := h.1
  have key : itemK C ops s ⟨dst, op, ty, pos, aft, g⟩ fun e rd => goA C ops gs rest (s.app dst e) ((wrE e, rd) :: acc) K := by
    unfold itemK
    split
    · rename_i f as ats he
      have e : op = _ := he
      rw [e] at hv; simp [isVC] at hv
    · have e : fstep C.E0.P C.nm s ⟨dst, op, ty, pos, aft, g⟩ = fstep C.E0.P C.nm s ⟨dst, op, ty, pos, aft, none⟩ := rfl
      rw [e, h2]; exact ⟨h1, hk⟩
  refine ⟨hd, ?_⟩
  cases g with
  | none => exact key
  | some jw =>
    obtain ⟨j, w⟩ := jw
    have hgo : wantG gs s j w = some w := hgo
    simp only [hgo]
    exact ⟨fun _ => key, fun h => by cases w <;> simp at h⟩
theorem goA_s {l : List (Nat × PV)} {hp : HP} {d : Nat} {x : PV} {g : Option (Nat × Bool)} (hgo : GOK gs ⟨envL l, hp⟩ g) (h : St C ⟨envL l, hp⟩ op (some d) x none) (hd : dstOK C.n ⟨some d, op, ty, pos, aft, none⟩ = true) (hk : ∀ rd, goA C ops gs rest ⟨envL ((d, x) :: l), hp⟩ (([], rd) :: acc) K) :
    goA C ops gs (⟨some d, op, ty, pos, aft, g⟩ :: rest) ⟨envL l, hp⟩ acc K := by
  refine goA_st hgo h hd ?_
  simp only [ASt.app, ASt.put, envL_upd]; exact hk _
/-- The read objects told. -/
theorem goA_r {l : List (Nat × PV)} {hp : HP} {d : Nat} {x : PV} {rd : List Nat} {g : Option (Nat × Bool)} (hgo : GOK gs ⟨envL l, hp⟩ g) (h : St C ⟨envL l, hp⟩ op (some d) x none) (hd : dstOK C.n ⟨some d, op, ty, pos, aft, none⟩ = true) (hr : rdOf C.nm ⟨envL l, hp⟩ ⟨some d, op, ty, pos, aft, none⟩ = rd) (hk : goA C ops gs rest ⟨envL ((d, x) :: l), hp⟩ (([], rd ++ []) :: acc) K) :
    goA C ops gs (⟨some d, op, ty, pos, aft, g⟩ :: rest) ⟨envL l, hp⟩ acc K := by
  refine goA_st hgo h hd ?_
  rw [hr]
  simp only [ASt.app, ASt.put, envL_upd]; exact hk
theorem goA_n {l : List (Nat × PV)} {N : Nat} {hp : HP} {m : List (Nat × (Nat × Option AObj))} {d d' : Nat} {x : Nat → PV} {o : AObj} {rd : List Nat} {g : Option (Nat × Bool)} (hgo : GOK gs ⟨envL l, hpL N hp m⟩ g) (h : StN C ⟨envL l, hpL N hp m⟩ op d x (N + d') o) (hd : dstOK C.n ⟨some d, op, ty, pos, aft, none⟩ = true)
    (hr : rdOf C.nm ⟨envL l, hpL N hp m⟩ ⟨some d, op, ty, pos, aft, none⟩ = rd)
    (hk : ∀ v, goA C ops gs rest ⟨envL ((d, x v) :: l), hpL N hp ((d', (v, some o)) :: m)⟩ (([N + d'], rd ++ [N + d']) :: acc) K) : goA C ops gs (⟨some d, op, ty, pos, aft, g⟩ :: rest) ⟨envL l, hpL N hp m⟩ acc K := by
  obtain ⟨v, h⟩ := h
  refine goA_st hgo h hd ?_
  rw [hr]
  simp only [ASt.app, ASt.put, envL_upd]; exact hk v
theorem goA_o0 {l : List (Nat × PV)} {N : Nat} {hp : HP} {m : List (Nat × (Nat × Option AObj))} {x : PV} {d' v : Nat} {o : Option AObj} {rd : List Nat} {g : Option (Nat × Bool)} (hgo : GOK gs ⟨envL l, hpL N hp m⟩ g) (h : St C ⟨envL l, hpL N hp m⟩ op none x (some (N + d', v, o))) (hd : dstOK C.n ⟨none, op, ty, pos, aft, none⟩ = true)
    (hr : rdOf C.nm ⟨envL l, hpL N hp m⟩ ⟨none, op, ty, pos, aft, none⟩ = rd)
    (hk : goA C ops gs rest ⟨envL l, hpL N hp ((d', (v, o)) :: m)⟩ (([N + d'], rd ++ [N + d']) :: acc) K) : goA C ops gs (⟨none, op, ty, pos, aft, g⟩ :: rest) ⟨envL l, hpL N hp m⟩ acc K := by
  refine goA_st hgo h hd ?_
  rw [hr]; exact hk

theorem goA_gF {l : List (Nat × PV)} {hp : HP} {d : Nat} {j t : Nat} {w b kb : Bool} (hg : gs[j]? = some (some t)) (he : envL l t = .d kb (.bool b)) (hb : b = !w) (hd : dstOK C.n ⟨some d, op, ty, pos, aft, none⟩ = true) (hk : goA C ops gs rest ⟨envL ((d, und) :: l), hp⟩ (([], []) :: acc) K) :
    goA C ops gs (⟨some d, op, ty, pos, aft, some (j, w)⟩ :: rest) ⟨envL l, hp⟩ acc K := by
  refine ⟨hd, ?_⟩
  simp only [wantG, hg, he]
  subst hb
  refine ⟨fun h => by cases w <;> simp at h, fun _ => ?_⟩
  simp only [ASt.put, envL_upd]; exact hk
theorem goA_gU {l : List (Nat × PV)} {hp : HP} {d : Nat} {j t : Nat} {w : Bool} (hg : gs[j]? = some (some t)) (he : envL l t = und) (hd : dstOK C.n ⟨some d, op, ty, pos, aft, none⟩ = true) (hk : goA C ops gs rest ⟨envL ((d, und) :: l), hp⟩ (([], []) :: acc) K) :
    goA C ops gs (⟨some d, op, ty, pos, aft, some (j, w)⟩ :: rest) ⟨envL l, hp⟩ acc K := by
  refine ⟨hd, ?_⟩
  simp only [wantG, hg, he, und]
  refine ⟨fun h => by cases w <;> simp at h, fun _ => ?_⟩
  simp only [ASt.put, envL_upd]; exact hk
end
end Go.Abs
