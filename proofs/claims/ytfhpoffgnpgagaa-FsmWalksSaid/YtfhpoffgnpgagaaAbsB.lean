/- A state of the calculus (slots, objects) and the machine's state that it tells of. No condition. -/
import Derived.Test.YtfhpoffgnpgagaaAbsA
set_option linter.unusedSimpArgs false
set_option linter.unusedVariables false
namespace Go.Abs

structure ASt where
  env : Nat → PV
  hp : HP

def upd {α : Type} (f : Nat → α) (i : Nat) (x : α) : Nat → α := fun j => if j = i then x else f j

theorem upd_eq {α : Type} (f : Nat → α) (i : Nat) (x : α) : upd f i x i = x := by simp [upd]
theorem upd_ne {α : Type} (f : Nat → α) {i j : Nat} (x : α) (h : j ≠ i) : upd f i x j = f j := by simp [upd, h]

/-- What does not turn in one call: the frame's size, the first number of its own objects, how all stood when it began; the number of the object that a slot's operation makes. -/
structure Ctx where
  n : Nat
  N : Nat
  T : Nat
  E0 : AEnv
  w0 : World
  nm : Nat → Nat
  hnm : ∀ d, d < n → nm d < T

structure At (C : Ctx) (ι : Nat → Option Nat) (I : Nat → Prop) (hp : HP) (w : World) : Prop where
  hok : HOK ⟨C.E0.P, hp, ι, I, C.E0.A, w.heap⟩
  le : Le C.E0 ⟨C.E0.P, hp, ι, I, C.E0.A, w.heap⟩
  os : w.os = C.w0.os
  tape : w.tape = C.w0.tape
  output : w.output = C.w0.output
  size : C.w0.heap.size ≤ w.heap.size
  keep : ∀ b, b < C.w0.heap.size → (∀ id o, (C.E0.hp id).2 = some o → C.E0.ι id ≠ some b) → w.heap[b]? = C.w0.heap[b]?
  stay : ∀ id o b, (hp id).2 = some o → ι id = some b → b < C.w0.heap.size → ∃ o0, (C.E0.hp id).2 = some o0 ∧ C.E0.ι id = some b
  Inew : ∀ b, I b → C.E0.I b ∨ C.w0.heap.size ≤ b

def Rel (C : Ctx) (s : ASt) (a : Act) (w : World) : Prop :=
  a.defers = [] ∧ (a.tmps.size = C.n ∧ ∀ id, C.T ≤ id → (s.hp id).2 = none) ∧ ∃ ι I, At C ι I s.hp w ∧ ∀ t, V ⟨C.E0.P, s.hp, ι, I, C.E0.A, w.heap⟩ (s.env t) (a.tmps.getD t undef)

/-- A constant as data. -/
def pdOf : Value → Option PD
  | .int k n => some (.int k n)
  | .bool b => some (.bool b)
  | .string s => some (.str s.data.toList)
  | .slice none 0 0 => some .nil
  | _ => none

def pvOf (v : Value) : PV := match pdOf v with | some x => .d true x | none => .dead

theorem VD_pdOf {I : Nat → Prop} {h : Array Obj} {v : Value} {x : PD} (e : pdOf v = some x) : VD I h x v := by
  cases v with
  | int k n => simp [pdOf] at e; subst e; exact .int k n
  | bool b => simp [pdOf] at e; subst e; exact .bool b
  | string s => simp [pdOf] at e; subst e; exact .str _
  | slice a n c =>
    cases a with
    | none =>
      cases n with
      | zero =>
        cases c with
        | zero => simp [pdOf] at e; subst e; exact .nil
        | succ c => simp [pdOf] at e
      | succ n => simp [pdOf] at e
    | some a => simp [pdOf] at e
  | _ => simp [pdOf] at e

theorem V_pvOf (E : AEnv) (v : Value) : V E (pvOf v) v := by
  unfold pvOf
  split
  · rename_i x hx; exact .d true x v (VD_pdOf hx)
  · exact .dead v

def ASt.ev (s : ASt) : Operand → PV
  | .tmp t => s.env t
  | .const v => pvOf v
  | .func f => .fn f [] []
  | .global _ => .dead

theorem V_ev {E : AEnv} {s : ASt} {a : Act} (h : ∀ t, V E (s.env t) (a.tmps.getD t undef)) (x : Operand) : V E (s.ev x) (a.eval x) := by
  cases x with
  | tmp t => exact h t
  | const v => exact V_pvOf E v
  | global g => exact .dead _
  | func f => exact .fn f [] [] #[] #[] rfl rfl (by simp) (by simp)

def ASt.put (s : ASt) (dst : Option Tmp) (x : PV) : ASt :=
  match dst with
  | some d => { s with env := upd s.env d x }
  | none => s

theorem env_put {E : AEnv} {s : ASt} {a : Act} {n : Nat} {dst : Option Tmp} {x : PV} {v : Value} (hn : a.tmps.size = n) (hd : ∀ d, dst = some d → d < n)
    (h : ∀ t, V E (s.env t) (a.tmps.getD t undef)) (hx : V E x v) : ∀ t, V E ((s.put dst x).env t) ((a.put dst v).tmps.getD t undef) := by
  intro t
  cases dst with
  | none => exact h t
  | some d =>
    have hd' := hd d rfl
    by_cases e : t = d
    · subst e
      have : ((a.put (some t) v).tmps.getD t undef) = v := by
        simp [Act.put, Array.getD_eq_getD_getElem?, hn, hd']
      rw [this]
      simpa [ASt.put, upd] using hx
    · have : ((a.put (some d) v).tmps.getD t undef) = a.tmps.getD t undef := by
        simp [Act.put, Array.getD_eq_getD_getElem?, Ne.symm e]
      rw [this]
      simpa [ASt.put, upd, e] using h t

theorem put_defers (a : Act) (dst : Option Tmp) (v : Value) : (a.put dst v).defers = a.defers := by cases dst <;> rfl
theorem put_size (a : Act) (dst : Option Tmp) (v : Value) : (a.put dst v).tmps.size = a.tmps.size := by cases dst <;> simp [Act.put]

/-- An operation that only yields a value. -/
theorem Rel.put {C : Ctx} {s : ASt} {a : Act} {w : World} (r : Rel C s a w) {dst : Option Tmp} (hd : ∀ d, dst = some d → d < C.n) {x : PV} {v : Value}
    (hx : ∀ ι I, At C ι I s.hp w → (∀ t, V ⟨C.E0.P, s.hp, ι, I, C.E0.A, w.heap⟩ (s.env t) (a.tmps.getD t undef)) → V ⟨C.E0.P, s.hp, ι, I, C.E0.A, w.heap⟩ x v) :
    Rel C (s.put dst x) (a.put dst v) w := by
  obtain ⟨h1, h2, ι, I, hat, henv⟩ := r
  have e : (s.put dst x).hp = s.hp := by cases dst <;> rfl
  refine ⟨(put_defers a dst v).trans h1, ⟨(put_size a dst v).trans h2.1, by rw [e]; exact h2.2⟩, ι, I, by rw [e]; exact hat, ?_⟩
  rw [e]
  exact env_put h2.1 hd henv (hx ι I hat henv)

/-- THE ONE LAW OF CHANGE: object id is now o' (none: let go), in block ib; no other old block but the one in which it lay has turned. -/
theorem At.change {C : Ctx} {ι : Nat → Option Nat} {I : Nat → Prop} {hp : HP} {w w' : World} (k : At C ι I hp w) (id ver : Nat) (o' : Option AObj) (ib : Option Nat) (I' : Nat → Prop)
    (hv : (hp id).1 ≤ ver)
    (hkeep : ver = (hp id).1 → ∀ x, o' = some x → (∃ o, (hp id).2 = some o ∧ ib = ι id) ∧ ∀ e r', x = .cells e r' → ∃ r, (hp id).2 = some (.cells e r) ∧
      ∀ b, ι id = some b → ∃ c c', w.heap[b]? = some (.cells c e (0, 0)) ∧ w'.heap[b]? = some (.cells c' e (0, 0)) ∧ c'.size = c.size)
    (hos : w'.os = w.os) (htp : w'.tape = w.tape) (hout : w'.output = w.output) (hsz : w.heap.size ≤ w'.heap.size)
    (hblk : ∀ b, b < w.heap.size → (∀ o, (hp id).2 = some o → ι id ≠ some b) → w'.heap[b]? = w.heap[b]?)
    (hI : ∀ b, I b → I' b) (hInew : ∀ b, I' b → I b ∨ w.heap.size ≤ b ∨ (∃ o, (hp id).2 = some o ∧ ι id = some b ∧ C.w0.heap.size ≤ b))
    (hIlt : ∀ b, I' b → b < w'.heap.size)
    (hother : ∀ jd o b, jd ≠ id → (hp jd).2 = some o → ι jd = some b → ¬ I' b ∧ (ib = some b → o' = none))
    (hnone : ∀ x, o' = some x → ib = none → ∃ e, x = .cells e [])
    (hsome : ∀ x b, o' = some x → ib = some b → ¬ I' b ∧ ¬ C.E0.A b ∧ ((∃ o, (hp id).2 = some o ∧ ι id = some b) ∨ w.heap.size ≤ b) ∧
      ∀ E', Le ⟨C.E0.P, hp, ι, I, C.E0.A, w.heap⟩ E' → E'.h = w'.heap → E'.I = I' → E'.A = C.E0.A → ObjAt E' b x)
    : At C (upd ι id ib) I' (upd hp id (ver, o')) w' ∧ Le ⟨C.E0.P, hp, ι, I, C.E0.A, w.heap⟩ ⟨C.E0.P, upd hp id (ver, o'), upd ι id ib, I', C.E0.A, w'.heap⟩ := by
  have hold : ∀ b, I b ∨ C.E0.A b → w'.heap[b]? = w.heap[b]? := by
    intro b hb
    refine hblk b (k.hok.bound b hb) fun o ho hi => ?_
    obtain ⟨n1, n2, _⟩ := k.hok.atSome id o b ho hi
    rcases hb with hb | hb
    · exact n1 hb
    · exact n2 hb
  have hothr : ∀ jd o b, jd ≠ id → (hp jd).2 = some o → ι jd = some b → w'.heap[b]? = w.heap[b]? := by
    intro jd o b hne ho hi
    obtain ⟨_, _, hc⟩ := k.hok.atSome jd o b ho hi
    refine hblk b hc.lt fun o2 ho2 hi2 => ?_
    exact hne (k.hok.inj jd id o o2 b ho ho2 hi hi2)
  have hle : Le ⟨C.E0.P, hp, ι, I, C.E0.A, w.heap⟩ ⟨C.E0.P, upd hp id (ver, o'), upd ι id ib, I', C.E0.A, w'.heap⟩ := by
    refine ⟨rfl, hI, rfl, hold, fun jd => ?_, fun jd hvv x hx => ?_, fun jd hvv e r' hx => ?_⟩
    · by_cases e : jd = id
      · subst e; simpa [upd] using hv
      · simp [upd, e]
    · by_cases e : jd = id
      · subst e
        simp [upd] at hvv hx
        obtain ⟨⟨o, ho, hib⟩, _⟩ := hkeep hvv x hx
        exact ⟨o, ho, by simp [upd, hib]⟩
      · simp [upd, e] at hvv hx
        exact ⟨x, hx, by simp [upd, e]⟩
    · by_cases e2 : jd = id
      · subst e2
        simp [upd] at hvv hx
        obtain ⟨_, h2⟩ := hkeep hvv _ hx
        exact h2 e r' rfl
      · simp [upd, e2] at hvv hx
        refine ⟨r', hx, fun b hb => ?_⟩
        obtain ⟨_, _, c, hc, _⟩ := k.hok.atSome jd _ b hx hb
        exact ⟨c, c, hc, (hothr jd _ b e2 hx hb).trans hc, rfl⟩
  refine ⟨⟨⟨fun jd o ho hn => ?_, fun jd o b ho hi => ?_, fun jd jd' o o2 b ho ho2 hi hi2 => ?_, fun b hb => ?_⟩, k.le.trans hle, hos.trans k.os, htp.trans k.tape, hout.trans k.output, Nat.le_trans k.size hsz,
    fun b hb hm => ?_, fun jd o b ho hi hlt => ?_, fun b hb => ?_⟩, hle⟩
  · by_cases e : jd = id
    · subst e; simp [upd] at ho hn; exact hnone o ho hn
    · simp [upd, e] at ho hn; exact k.hok.atNone jd o ho hn
  · by_cases e : jd = id
    · subst e
      simp [upd] at ho hi
      obtain ⟨n1, n2, _, hr⟩ := hsome o b ho hi
      exact ⟨n1, n2, hr _ hle rfl rfl rfl⟩
    · simp [upd, e] at ho hi
      obtain ⟨n1, n2, hc⟩ := k.hok.atSome jd o b ho hi
      exact ⟨(hother jd o b e ho hi).1, n2, hc.mono hle (hothr jd o b e ho hi)⟩
  · by_cases e : jd = id
    · subst e
      simp [upd] at ho hi
      by_cases e2 : jd' = jd
      · exact e2.symm
      · simp [upd, e2] at ho2 hi2
        have := (hother jd' o2 b e2 ho2 hi2).2 hi
        rw [this] at ho; cases ho
    · simp [upd, e] at ho hi
      by_cases e2 : jd' = id
      · subst e2
        simp [upd] at ho2 hi2
        have := (hother jd o b e ho hi).2 hi2
        rw [this] at ho2; cases ho2
      · simp [upd, e2] at ho2 hi2
        exact k.hok.inj jd jd' o o2 b ho ho2 hi hi2
  · rcases hb with hb | hb
    · exact hIlt b hb
    · exact Nat.lt_of_lt_of_le (k.hok.bound b (.inr hb)) hsz
  · have hbw : b < w.heap.size := Nat.lt_of_lt_of_le hb k.size
    refine (hblk b hbw fun o ho hi => ?_).trans (k.keep b hb hm)
    obtain ⟨o0, h0, h1⟩ := k.stay id o b ho hi hb
    exact hm id o0 h0 h1
  · by_cases e : jd = id
    · subst e
      simp [upd] at ho hi
      obtain ⟨_, _, hor, _⟩ := hsome o b ho hi
      rcases hor with ⟨o2, ho2, hi2⟩ | hge
      · exact k.stay jd o2 b ho2 hi2 hlt
      · have := k.size; omega
    · simp [upd, e] at ho hi
      exact k.stay jd o b ho hi hlt
  · rcases hInew b hb with h | h | ⟨o, ho, hi, hge⟩
    · exact k.Inew b h
    · exact .inr (Nat.le_trans k.size h)
    · exact .inr hge

end Go.Abs
