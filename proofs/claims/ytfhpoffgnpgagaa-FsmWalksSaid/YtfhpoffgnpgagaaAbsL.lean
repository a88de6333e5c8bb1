/- Regions, control, calls. No condition. -/
import Derived.Test.YtfhpoffgnpgagaaAbsK
import Derived.Deep.LoopGhost
import Derived.ScopeJumps
set_option linter.unusedSimpArgs false
set_option linter.unusedVariables false
namespace Go.Abs

/-- What an operation leaves that did not run. -/
def und : PV := .d true (.tup [])
theorem V_und {E : AEnv} : V E und undef := .d _ _ _ (.tup [] #[] rfl (by simp))

/-- May the operation run? (none: the calculus cannot tell.) -/
def wantP (ops : Array Oper) (s : ASt) (o : Oper) : Option Bool :=
  match o.guard with
  | none => some true
  | some (j, want) => match (ops[j]?).bind (·.dst) with
    | some t => match s.env t with
      | .d _ (.bool b) => some (b == want)
      | .d _ (.tup []) => some false
      | _ => none
    | none => none

def dstOK (n : Nat) (o : Oper) : Bool := match o.dst with | some d => decide (d < n) | none => decide (0 < n)

theorem dstOK.out {n : Nat} {o : Oper} (h : dstOK n o = true) : ∀ d, o.dst = some d → d < n := by
  intro d hd; simpa [dstOK, hd] using h

theorem dstOK.pos {n : Nat} {o : Oper} (h : dstOK n o = true) : 0 < n := by
  cases hd : o.dst with
  | none => simpa [dstOK, hd] using h
  | some d => exact Nat.lt_of_le_of_lt (Nat.zero_le d) (by simpa [dstOK, hd] using h)

/-- A call, whatever it does: K of the state behind it. -/
def CallStep (C : Ctx) (s : ASt) (o : Oper) (K : ASt → Prop) : Prop :=
  ∀ a w, Rel C s a w → ∀ (next : Act → World → Prop) (Q : Exit → Act → World → Prop), (∀ s' a' w', K s' → Rel C s' a' w' → next a' w') → o.wp C.E0.P a w next Q

def stepK (C : Ctx) (s : ASt) (o : Oper) (K : ASt → Prop) : Prop :=
  match o.op with
  | .call { callee := .value _, .. } => CallStep C s o K
  | _ => (fstep C.E0.P C.nm s o).1 ∧ K (s.app o.dst (fstep C.E0.P C.nm s o).2)

/-- The operations of a region, one behind the other. -/
def goOps (C : Ctx) (ops : Array Oper) : List Oper → ASt → (ASt → Prop) → Prop
  | [], s, K => K s
  | o :: rest, s, K => dstOK C.n o = true ∧ match wantP ops s o with
    | some t => (t = true → stepK C s o fun s' => goOps C ops rest s' K) ∧ (t = false → goOps C ops rest (s.put o.dst und) K)
    | none => False

theorem stepK_sound {C : Ctx} {s : ASt} {o : Oper} {K : ASt → Prop} (h : stepK C s o K) {a : Act} {w : World} (r : Rel C s a w) (hd : dstOK C.n o = true)
    {next : Act → World → Prop} {Q : Exit → Act → World → Prop} (hk : ∀ s' a' w', K s' → Rel C s' a' w' → next a' w') : o.wp C.E0.P a w next Q := by
  unfold stepK at h
  split at h
  · exact h a w r next Q hk
  · exact step_sound r (dstOK.out hd) (dstOK.pos hd) h.1 fun a' w' r' => hk _ a' w' h.2 r'

theorem wanted_of_wantP {C : Ctx} {ops : Array Oper} {s : ASt} {o : Oper} {a : Act} {w : World} (r : Rel C s a w) {t : Bool} (h : wantP ops s o = some t) : Region.wanted o (yielded ops a.tmps) = t := by
  unfold wantP at h
  unfold Region.wanted
  split at h
  · rename_i hg; simp only [hg]; simpa using h
  · rename_i j want hg
    simp only [hg]
    split at h <;> try (cases h; done)
    rename_i d hd
    split at h <;> try (cases h; done)
    · rename_i kb b he
      simp only [Option.some.injEq] at h
      subst h
      obtain ⟨_, _, ι, I, _, henv⟩ := r
      have hv := henv d
      rw [he] at hv
      have hv := V_bool hv
      have hx : a.tmps[d]? = some (.bool b) := by
        rw [Array.getD_eq_getD_getElem?] at hv
        cases hy : a.tmps[d]? with
        | none => rw [hy] at hv; simp [undef] at hv
        | some y => rw [hy] at hv; simp at hv; rw [hv]
      simp [yielded, hd, hx]
    · rename_i kb he
      simp only [Option.some.injEq] at h
      subst h
      obtain ⟨_, _, ι, I, _, henv⟩ := r
      have hv := henv d
      rw [he] at hv
      have hv : a.tmps.getD d undef = .tuple #[] := by
        generalize a.tmps.getD d undef = u at hv ⊢
        cases hv with
        | d _ _ _ hv =>
          cases hv with
          | tup _ cs h1 _ =>
            have : cs = #[] := by simpa using h1.symm
            rw [this]
      have hx : a.tmps[d]? = none ∨ a.tmps[d]? = some (.tuple #[]) := by
        rw [Array.getD_eq_getD_getElem?] at hv
        cases hy : a.tmps[d]? with
        | none => exact .inl rfl
        | some y => rw [hy] at hv; simp at hv; rw [hv]; exact .inr rfl
      rcases hx with hx | hx <;> simp [yielded, hd, hx]

theorem goOps_sound {C : Ctx} {ops : Array Oper} {Q : Exit → Act → World → Prop} {K : ASt → Prop} (hK : ∀ s a w, K s → Rel C s a w → Q .normal a w) :
    ∀ (l : List Oper) (k : Nat), ops.toList.drop k = l → ∀ s a w, Rel C s a w → goOps C ops l s K → wpOps C.E0.P ops Q (List.range' k l.length) a w
  | [], k, _, s, a, w, r, h => by simpa [wpOps] using hK s a w h r
  | o :: rest, k, hl, s, a, w, r, h => by
    have hk : ops[k]? = some o := by
      have : (ops.toList.drop k)[0]? = some o := by rw [hl]; rfl
      rw [List.getElem?_drop] at this
      simpa using this
    have hrest : ops.toList.drop (k + 1) = rest := by
      rw [← List.drop_drop, hl]; rfl
    obtain ⟨hd, h⟩ := h
    simp only [List.length_cons, List.range'_succ, wpOps, hk]
    cases hw : wantP ops s o with
    | none => simp [hw] at h
    | some t =>
      simp only [hw] at h
      rw [wanted_of_wantP r hw]
      cases t with
      | true =>
        simp only [if_true]
        exact .inl (stepK_sound (h.1 rfl) r hd fun s' a' w' hs' r' => goOps_sound hK rest (k + 1) hrest s' a' w' r' hs')
      | false =>
        simp only [Bool.false_eq_true, if_false]
        refine goOps_sound hK rest (k + 1) hrest _ _ w ?_ (h.2 rfl)
        exact r.put (dstOK.out hd) fun _ _ _ _ => V_und

/-- A piece of code: Q of the way out and the state behind it. -/
def awp (C : Ctx) (c : Code) (Q : Exit → ASt → Prop) (s : ASt) : Prop :=
  ∀ a w, Rel C s a w → c.wp C.E0.P (fun e a' w' => ∃ s', Q e s' ∧ Rel C s' a' w') a w

section
variable {C : Ctx} {Q : Exit → ASt → Prop} {s : ASt}

theorem awp_mono {c : Code} {Q' : Exit → ASt → Prop} (h : awp C c Q s) (hq : ∀ e s', Q e s' → Q' e s') : awp C c Q' s :=
  fun a w r => wp_mono (h a w r) fun _ _ _ ⟨s', q, r'⟩ => ⟨s', hq _ _ q, r'⟩

theorem awp_region {id : Nat} {ops : Array Oper} (h : goOps C ops ops.toList s (Q .normal)) : awp C (.region id ops false) Q s := by
  intro a w r
  refine wp_region ?_
  have := goOps_sound (C := C) (ops := ops) (Q := fun e a' w' => ∃ s', Q e s' ∧ Rel C s' a' w') (K := Q .normal) (fun s a w k r => ⟨s, k, r⟩) ops.toList 0 (by simp) s a w r h
  rw [List.range_eq_range']
  simpa using this

theorem awp_skip (h : Q .normal s) : awp C .skip Q s := fun _ _ r => wp_skip ⟨s, h, r⟩
theorem awp_label {l : Nat} (h : Q .normal s) : awp C (.label l) Q s := fun _ _ r => wp_label ⟨s, h, r⟩
theorem awp_exit {id : Nat} (h : Q (.exit id) s) : awp C (.exit id) Q s := fun _ _ r => wp_exit ⟨s, h, r⟩
theorem awp_goto {l : Nat} (h : Q (.goto l) s) : awp C (.goto l) Q s := fun _ _ r => wp_goto ⟨s, h, r⟩
theorem awp_ret (h : Q .ret s) : awp C .ret Q s := fun _ _ r => wp_ret ⟨s, h, r⟩

def thenA (next : ASt → Prop) (Q : Exit → ASt → Prop) : Exit → ASt → Prop
  | .normal, s => next s
  | e, s => Q e s

theorem awp_seq {x y : Code} (h : awp C x (thenA (awp C y Q) Q) s) : awp C (.seq x y) Q s := by
  intro a w r
  refine wp_seq (wp_mono (h a w r) fun e a' w' ⟨s', q, r'⟩ => ?_)
  cases e with
  | normal => exact q a' w' r'
  | exit id => exact ⟨s', q, r'⟩
  | goto l => exact ⟨s', q, r'⟩
  | ret => exact ⟨s', q, r'⟩
  | panic ch => exact ⟨s', q, r'⟩
  | outgrown => exact ⟨s', q, r'⟩

def condK (s : ASt) (c : Operand) (T F : Prop) : Prop :=
  match s.ev c with
  | .d _ (.bool b) => (b = true → T) ∧ (b = false → F)
  | _ => False

theorem awp_cond {c : Operand} {x y : Code} (h : condK s c (awp C x Q s) (awp C y Q s)) : awp C (.cond c x y) Q s := by
  intro a w r
  unfold condK at h
  split at h
  · rename_i kb b he
    have hv : a.eval c = .bool b := by
      obtain ⟨_, _, ι, I, _, henv⟩ := r
      have hv := V_ev henv c
      rw [he] at hv
      exact V_bool hv
    refine wp_cond_split hv (fun hb => h.1 hb a w r) (fun hb => h.2 hb a w r)
  · exact h.elim

def blockA (id : Nat) (Q : Exit → ASt → Prop) : Exit → ASt → Prop
  | .exit id', s => if id' = id then Q .normal s else Q (.exit id') s
  | e, s => Q e s

theorem awp_block {id : Nat} {c : Code} (h : awp C c (blockA id Q) s) : awp C (.block id c) Q s := by
  intro a w r
  refine wp_block (wp_mono (h a w r) fun e a' w' ⟨s', q, r'⟩ => ?_)
  cases e with
  | exit id' =>
    simp only [blockA] at q
    simp only [Exit.inBlock]
    split
    · rename_i h; rw [if_pos h] at q; exact ⟨s', q, r'⟩
    · rename_i h; rw [if_neg h] at q; exact ⟨s', q, r'⟩
  | normal => exact ⟨s', q, r'⟩
  | goto l => exact ⟨s', q, r'⟩
  | ret => exact ⟨s', q, r'⟩
  | panic ch => exact ⟨s', q, r'⟩
  | outgrown => exact ⟨s', q, r'⟩

/-- A loop: an invariant that bears a number, which every round lowers. -/
theorem awp_loop {c : Code} (J : Nat → ASt → Prop) (n₀ : Nat) (h₀ : J n₀ s)
    (round : ∀ n s, J n s → awp C c (thenA (fun s' => ∃ n', n' < n ∧ J n' s') Q) s) : awp C (.loop c) Q s := by
  intro a w r
  refine wp_loop_ghost (fun n a w => ∃ s, J n s ∧ Rel C s a w) n₀ ⟨s, h₀, r⟩ ?_
  rintro n a w ⟨s, hJ, r⟩
  refine wp_mono (round n s hJ a w r) fun e a' w' ⟨s', q, r'⟩ => ?_
  cases e with
  | normal => obtain ⟨n', hlt, hJ'⟩ := q; exact ⟨n', hlt, s', hJ', r'⟩
  | exit id => exact ⟨s', q, r'⟩
  | goto l => exact ⟨s', q, r'⟩
  | ret => exact ⟨s', q, r'⟩
  | panic ch => exact ⟨s', q, r'⟩
  | outgrown => exact ⟨s', q, r'⟩

def noGotoA (Q : Exit → ASt → Prop) : Exit → ASt → Prop
  | .goto _, _ => False
  | e, s => Q e s

def jumpA (l : Nat) (J : ASt → Prop) (Q : Exit → ASt → Prop) : Exit → ASt → Prop
  | .goto l', s => l' = l ∧ J s
  | e, s => Q e s

/-- A scope with one label to which the run may jump back. -/
theorem awp_scope {c rest : Code} (l : Nat) (J : Nat → ASt → Prop) (hf : findLabel c l = some rest)
    (first : awp C c (jumpA l (fun s' => ∃ n, J n s') Q) s)
    (pass : ∀ n s, J n s → awp C rest (jumpA l (fun s' => ∃ n', n' < n ∧ J n' s') Q) s) : awp C (.scope c) Q s := by
  intro a w r
  refine wp_scope_jumps l (fun a w => ∃ n s, J n s ∧ Rel C s a w) (fun a w => leastOf (fun n => ∃ s, J n s ∧ Rel C s a w)) hf (wp_mono (first a w r) fun e a' w' ⟨s', q, r'⟩ => ?_) (fun a w hJ => ?_)
  · cases e with
    | goto l' => obtain ⟨rfl, n, hJ⟩ := q; exact ⟨rfl, n, s', hJ, r'⟩
    | normal => exact ⟨s', q, r'⟩
    | exit id => exact ⟨s', q, r'⟩
    | ret => exact ⟨s', q, r'⟩
    | panic ch => exact ⟨s', q, r'⟩
    | outgrown => exact ⟨s', q, r'⟩
  · obtain ⟨⟨s1, hJ1, r1⟩, _⟩ := leastOf_spec (p := fun n => ∃ s, J n s ∧ Rel C s a w) (by obtain ⟨n, s, h⟩ := hJ; exact ⟨n, s, h⟩)
    refine wp_mono (pass _ s1 hJ1 a w r1) fun e a' w' ⟨s', q, r'⟩ => ?_
    cases e with
    | goto l' =>
      obtain ⟨rfl, n', hlt, hJ'⟩ := q
      exact ⟨rfl, ⟨n', s', hJ', r'⟩, Nat.lt_of_le_of_lt ((leastOf_spec (p := fun n => ∃ s, J n s ∧ Rel C s a' w') ⟨n', s', hJ', r'⟩).2 n' ⟨s', hJ', r'⟩) hlt⟩
    | normal => exact ⟨s', q, r'⟩
    | exit id => exact ⟨s', q, r'⟩
    | ret => exact ⟨s', q, r'⟩
    | panic ch => exact ⟨s', q, r'⟩
    | outgrown => exact ⟨s', q, r'⟩

theorem awp_scope_straight {c : Code} (h : awp C c (noGotoA Q) s) : awp C (.scope c) Q s := by
  intro a w r
  refine wp_scope_straight (wp_mono (h a w r) fun e a' w' ⟨s', q, r'⟩ => ?_)
  cases e with
  | goto l => exact q.elim
  | normal => exact ⟨s', q, r'⟩
  | exit id => exact ⟨s', q, r'⟩
  | ret => exact ⟨s', q, r'⟩
  | panic ch => exact ⟨s', q, r'⟩
  | outgrown => exact ⟨s', q, r'⟩

end
end Go.Abs
