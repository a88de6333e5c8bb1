/- Regions whose order is drawn: one walk in the text's order serves every order, where what is unordered does not meet. No condition. -/
import Derived.Test.YtfhpoffgnpgagaaAbsM
set_option linter.unusedSimpArgs false
set_option linter.unusedVariables false
namespace Go.Abs

structure Item where
  o : Oper
  eff : Eff
  rd : List Nat
  ran : Bool

def wrE (e : Eff) : List Nat := match e.o with | none => [] | some (id, _, _) => [id]

/-- The operation has this effect, from this state. -/
def Sem1 (C : Ctx) (s : ASt) (o : Oper) (e : Eff) : Prop :=
  ∀ a w, Rel C s a w → ∀ (next : Act → World → Prop) (Q : Exit → Act → World → Prop), (∀ a' w', Rel C (s.app o.dst e) a' w' → next a' w') → o.wp C.E0.P a w next Q

/-- ... and from every state that agrees with this one where it looks. -/
def ItemOK (C : Ctx) (ops : Array Oper) (s : ASt) (it : Item) : Prop :=
  ∀ s' : ASt, (∀ t ∈ it.o.looksAt ops, s'.env t = s.env t) → (∀ id ∈ it.rd, s'.hp id = s.hp id) →
    (it.ran = true ∧ wantP ops s' it.o = some true ∧ Sem1 C s' it.o it.eff) ∨ (it.ran = false ∧ wantP ops s' it.o = some false ∧ it.eff = ⟨und, none⟩)

def phi (L : Nat → Bool) : Nat → List Item → ASt → ASt
  | _, [], s => s
  | k, it :: r, s => phi L (k + 1) r (if L k then s.app it.o.dst it.eff else s)

theorem app_env (s : ASt) (dst : Option Tmp) (e : Eff) : (s.app dst e).env = (s.put dst e.x).env := by
  unfold ASt.app
  cases e.o with
  | none => rfl
  | some p => rfl

theorem put_env_ne (s : ASt) (dst : Option Tmp) (x : PV) (t : Nat) (h : dst ≠ some t) : (s.put dst x).env t = s.env t := by
  cases dst with
  | none => rfl
  | some d => simp only [ASt.put]; rw [upd_ne]; rintro rfl; exact h rfl

theorem put_env_eq (s : ASt) (x : PV) (t : Nat) : (s.put (some t) x).env t = x := by simp [ASt.put, upd]

theorem put_hp (s : ASt) (dst : Option Tmp) (x : PV) : (s.put dst x).hp = s.hp := by cases dst <;> rfl

theorem app_hp_ne (s : ASt) (dst : Option Tmp) (e : Eff) (id : Nat) (h : id ∉ wrE e) : (s.app dst e).hp id = s.hp id := by
  unfold ASt.app
  unfold wrE at h
  cases he : e.o with
  | none => simp only []; rw [put_hp]
  | some p =>
    obtain ⟨jd, ver, o'⟩ := p
    simp only [he] at h ⊢
    exact upd_ne _ _ (by simpa using h)

theorem app_hp_eq (s s' : ASt) (dst dst' : Option Tmp) (e : Eff) (id : Nat) (h : id ∈ wrE e) : (s.app dst e).hp id = (s'.app dst' e).hp id := by
  unfold wrE at h
  cases he : e.o with
  | none => simp [he] at h
  | some p =>
    obtain ⟨jd, ver, o'⟩ := p
    simp [he] at h
    subst h
    simp [ASt.app, he, upd]

theorem app_env_at (s s' : ASt) (dst : Option Tmp) (e : Eff) (t : Nat) (h : s.env t = s'.env t) : (s.app dst e).env t = (s'.app dst e).env t := by
  rw [app_env, app_env]
  by_cases hd : dst = some t
  · subst hd; rw [put_env_eq, put_env_eq]
  · rw [put_env_ne _ _ _ _ hd, put_env_ne _ _ _ _ hd, h]

theorem app_hp_at (s s' : ASt) (dst : Option Tmp) (e : Eff) (id : Nat) (h : s.hp id = s'.hp id) : (s.app dst e).hp id = (s'.app dst e).hp id := by
  by_cases hd : id ∈ wrE e
  · exact app_hp_eq s s' dst dst e id hd
  · rw [app_hp_ne _ _ _ _ hd, app_hp_ne _ _ _ _ hd, h]

theorem phi_env (L L' : Nat → Bool) (t : Nat) : ∀ (its : List Item) (k : Nat) (s s' : ASt), s.env t = s'.env t →
    (∀ (j : Nat) it, its[j]? = some it → L (k + j) ≠ L' (k + j) → it.o.dst ≠ some t) → (phi L k its s).env t = (phi L' k its s').env t
  | [], _, _, _, h, _ => h
  | it :: r, k, s, s', h, hd => by
    simp only [phi]
    refine phi_env L L' t r (k + 1) _ _ ?_ (fun j it' hj hne => hd (j + 1) it' (by simpa using hj) (by rw [Nat.add_comm j 1, ← Nat.add_assoc]; exact hne))
    by_cases e : L k = L' k
    · rw [e]
      split
      · exact app_env_at _ _ _ _ _ h
      · exact h
    · have hn := hd 0 it rfl e
      have h1 : ∀ s : ASt, (s.app it.o.dst it.eff).env t = s.env t := fun s => by rw [app_env, put_env_ne _ _ _ _ hn]
      split <;> split <;> simp [h1, h]

theorem phi_hp (L L' : Nat → Bool) (id : Nat) : ∀ (its : List Item) (k : Nat) (s s' : ASt), s.hp id = s'.hp id →
    (∀ (j : Nat) it, its[j]? = some it → L (k + j) ≠ L' (k + j) → id ∉ wrE it.eff) → (phi L k its s).hp id = (phi L' k its s').hp id
  | [], _, _, _, h, _ => h
  | it :: r, k, s, s', h, hd => by
    simp only [phi]
    refine phi_hp L L' id r (k + 1) _ _ ?_ (fun j it' hj hne => hd (j + 1) it' (by simpa using hj) (by rw [Nat.add_comm j 1, ← Nat.add_assoc]; exact hne))
    by_cases e : L k = L' k
    · rw [e]
      split
      · exact app_hp_at _ _ _ _ _ h
      · exact h
    · have hn := hd 0 it rfl e
      have h1 : ∀ s : ASt, (s.app it.o.dst it.eff).hp id = s.hp id := fun s => app_hp_ne _ _ _ _ hn
      split <;> split <;> simp [h1, h]

theorem ASt.ext' {s s' : ASt} (h1 : ∀ t, s.env t = s'.env t) (h2 : ∀ id, s.hp id = s'.hp id) : s = s' := by
  cases s; cases s'; simp only [ASt.mk.injEq]; exact ⟨funext h1, funext h2⟩

/-- Two effects that do not meet can change places. -/
theorem app_comm (s : ASt) (a b : Oper) (x y : Eff) (hd : a.dst ≠ b.dst ∨ a.dst = none) (hw : ∀ id ∈ wrE x, id ∉ wrE y) : (s.app a.dst x).app b.dst y = (s.app b.dst y).app a.dst x := by
  refine ASt.ext' (fun t => ?_) (fun id => ?_)
  · simp only [app_env]
    by_cases h1 : b.dst = some t
    · have h2 : a.dst ≠ some t := by
        rcases hd with hd | hd
        · rw [h1] at hd; exact hd
        · rw [hd]; simp
      rw [h1, put_env_eq, put_env_ne _ _ _ _ h2, app_env, put_env_eq]
    · rw [put_env_ne _ _ _ _ h1, app_env]
      by_cases h2 : a.dst = some t
      · rw [h2, put_env_eq, put_env_eq]
      · rw [put_env_ne _ _ _ _ h2, put_env_ne _ _ _ _ h2, app_env, put_env_ne _ _ _ _ h1]
  · by_cases h1 : id ∈ wrE y
    · have h2 : id ∉ wrE x := fun h => hw id h h1
      rw [app_hp_ne _ a.dst x id h2]
      exact app_hp_eq _ _ _ _ y id h1
    · rw [app_hp_ne _ b.dst y id h1]
      by_cases h2 : id ∈ wrE x
      · exact app_hp_eq _ _ _ _ x id h2
      · rw [app_hp_ne _ _ _ _ h2, app_hp_ne _ _ _ _ h2, app_hp_ne _ _ _ _ h1]

theorem phi_push (L : Nat → Bool) (o : Oper) (e : Eff) : ∀ (its : List Item) (k : Nat) (s : ASt),
    (∀ (j : Nat) it, its[j]? = some it → L (k + j) = true → (o.dst ≠ it.o.dst ∨ o.dst = none) ∧ ∀ id ∈ wrE e, id ∉ wrE it.eff) → (phi L k its s).app o.dst e = phi L k its (s.app o.dst e)
  | [], _, _, _ => rfl
  | it :: r, k, s, h => by
    simp only [phi]
    rw [phi_push L o e r (k + 1) _ (fun j it' hj hl => h (j + 1) it' (by simpa using hj) (by rw [Nat.add_comm j 1, ← Nat.add_assoc]; exact hl))]
    split
    · rename_i hl
      obtain ⟨h1, h2⟩ := h 0 it rfl hl
      rw [← app_comm s o it.o e it.eff h1 h2]
    · rfl

theorem phi_insert (L : Nat → Bool) (i : Nat) (hi : L i = false) : ∀ (its : List Item) (k : Nat) (s : ASt) (it : Item), k ≤ i → its[i - k]? = some it →
    (∀ (j : Nat) it', its[j]? = some it' → i < k + j → L (k + j) = true → (it.o.dst ≠ it'.o.dst ∨ it.o.dst = none) ∧ ∀ id ∈ wrE it.eff, id ∉ wrE it'.eff) →
    (phi L k its s).app it.o.dst it.eff = phi (fun j => L j || j == i) k its s
  | [], _, _, _, _, h, _ => by simp at h
  | x :: r, k, s, it, hk, h, hc => by
    simp only [phi]
    by_cases e : k = i
    · subst e
      simp at h
      subst h
      simp only [hi, Bool.false_eq_true, if_false, Bool.false_or, beq_self_eq_true, if_true]
      rw [phi_push L x.o x.eff r (k + 1) s (fun j it' hj hl => hc (j + 1) it' (by simpa using hj) (by omega) (by rw [Nat.add_comm j 1, ← Nat.add_assoc]; exact hl))]
      have : ∀ (its : List Item) (m : Nat) (s : ASt), k < m → phi L m its s = phi (fun j => L j || j == k) m its s := by
        intro its
        induction its with
        | nil => intro m s _; rfl
        | cons y r ih =>
          intro m s hm
          have : (m == k) = false := by simp; omega
          simp only [phi, this, Bool.or_false]
          exact ih (m + 1) _ (by omega)
      exact this r (k + 1) _ (by omega)
    · have e2 : (k == i) = false := by simp [e]
      simp only [e2, Bool.or_false]
      have hik : i - k = (i - (k + 1)) + 1 := by omega
      rw [hik] at h
      exact phi_insert L i hi r (k + 1) _ it (by omega) (by simpa using h) (fun j it' hj hlt hl => hc (j + 1) it' (by simpa using hj) (by omega) (by rw [Nat.add_comm j 1, ← Nat.add_assoc]; exact hl))

/-- Operation i is ahead of operation j by the region's own edges (through at most so many). -/
def reachB (ops : Array Oper) : Nat → Nat → Nat → Bool
  | 0, _, _ => false
  | f + 1, i, j => match ops[j]? with
    | none => false
    | some o => (o.after.any fun e => Region.binds .any e && e.on == i) || (o.after.any fun e => Region.binds .any e && reachB ops f i e.on)

def Down (ops : Array Oper) (L : Nat → Bool) : Prop := ∀ j o, ops[j]? = some o → L j = true → ∀ e ∈ o.after, Region.binds .any e = true → L e.on = true

theorem reachB_down {ops : Array Oper} {L : Nat → Bool} (h : Down ops L) : ∀ (f i j : Nat), reachB ops f i j = true → L j = true → L i = true
  | 0, _, _, hr, _ => by simp [reachB] at hr
  | f + 1, i, j, hr, hj => by
    simp only [reachB] at hr
    split at hr
    · cases hr
    · rename_i o ho
      simp only [Bool.or_eq_true, Array.any_eq_true'] at hr
      rcases hr with ⟨e, he, hb⟩ | ⟨e, he, hb⟩
      · simp only [Bool.and_eq_true, beq_iff_eq] at hb
        rw [← hb.2]; exact h j o ho hj e he hb.1
      · simp only [Bool.and_eq_true] at hb
        exact reachB_down h f i e.on hb.2 (h j o ho hj e he hb.1)

/-- By their slots two operations do not meet. -/
def apartS (ops : Array Oper) (x y : Oper) : Bool :=
  (match x.dst with
   | some d => !(y.looksAt ops).contains d && y.dst != some d
   | none => true) &&
  (match y.dst with
   | some d => !(x.looksAt ops).contains d
   | none => true)

def backB (ops : Array Oper) : Bool := (List.range ops.size).all fun i => match ops[i]? with | some o => o.after.all fun e => !Region.binds .any e || decide (e.on < i) | none => true

def slotsB (ops : Array Oper) (f : Nat) : Bool :=
  backB ops && (List.range ops.size).all fun j => (List.range j).all fun i => reachB ops f i j || match ops[i]?, ops[j]? with | some x, some y => apartS ops x y | _, _ => true

/-- From operation m on each is behind all ahead of it. -/
def tailB (ops : Array Oper) (f m : Nat) : Bool := (List.range ops.size).all fun j => decide (j < m) || (List.range j).all fun i => reachB ops f i j

theorem tailB.out {ops : Array Oper} {f m : Nat} (h : tailB ops f m = true) {i j : Nat} (hj : m ≤ j) (hs : j < ops.size) (hi : i < j) : reachB ops f i j = true := by
  unfold tailB at h
  simp only [List.all_eq_true, List.mem_range, Bool.or_eq_true, decide_eq_true_eq] at h
  rcases h j hs with h | h
  · omega
  · exact h i hi

/-- By the objects that they touch two unordered operations do not meet. -/
def objsP (ops : Array Oper) (f : Nat) (its : List Item) : Prop :=
  ∀ (i j : Nat) x y, i < j → its[i]? = some x → its[j]? = some y → reachB ops f i j = false → (∀ id ∈ wrE x.eff, id ∉ y.rd) ∧ (∀ id ∈ wrE y.eff, id ∉ x.rd)

theorem apartS_spec {ops : Array Oper} {x y : Oper} (h : apartS ops x y = true) :
    (∀ d, x.dst = some d → d ∉ y.looksAt ops ∧ y.dst ≠ some d) ∧ (∀ d, y.dst = some d → d ∉ x.looksAt ops) := by
  unfold apartS at h
  simp only [Bool.and_eq_true] at h
  refine ⟨fun d hd => ?_, fun d hd => ?_⟩
  · have h1 := h.1
    simp only [hd, Bool.and_eq_true, Bool.not_eq_true', List.contains_eq_mem, decide_eq_false_iff_not, bne_iff_ne, ne_eq] at h1
    exact h1
  · have h2 := h.2
    simp only [hd, Bool.not_eq_true', List.contains_eq_mem, decide_eq_false_iff_not] at h2
    exact h2

structure TraceOK (C : Ctx) (ops : Array Oper) (f : Nat) (s : ASt) (its : List Item) : Prop where
  len : its.length ≤ ops.size
  tail : tailB ops f its.length = true
  op : ∀ (i : Nat) it, its[i]? = some it → ops[i]? = some it.o
  ok : ∀ (i : Nat) it, its[i]? = some it → ItemOK C ops (phi (fun j => decide (j < i)) 0 its s) it
  dst : ∀ (i : Nat) it, its[i]? = some it → dstOK C.n it.o = true
  wr : ∀ (i : Nat) it, its[i]? = some it → ∀ id ∈ wrE it.eff, id ∈ it.rd
  slots : slotsB ops f = true
  objs : objsP ops f its

section
variable {C : Ctx} {ops : Array Oper} {f : Nat} {s : ASt} {its : List Item}

theorem TraceOK.pair (T : TraceOK C ops f s its) {i j : Nat} {x y : Item} (hlt : i < j) (hx : its[i]? = some x) (hy : its[j]? = some y) (hr : reachB ops f i j = false) :
    (∀ d, x.o.dst = some d → d ∉ y.o.looksAt ops ∧ y.o.dst ≠ some d) ∧ (∀ d, y.o.dst = some d → d ∉ x.o.looksAt ops) ∧ (∀ id ∈ wrE x.eff, id ∉ y.rd) ∧ (∀ id ∈ wrE y.eff, id ∉ x.rd) := by
  have hj : j < ops.size := Nat.lt_of_lt_of_le (List.getElem?_eq_some_iff.1 hy).1 T.len
  have h := T.slots
  unfold slotsB at h
  simp only [Bool.and_eq_true, List.all_eq_true, List.mem_range] at h
  have h2 := h.2 j hj i hlt
  simp only [hr, T.op i x hx, T.op j y hy, Bool.false_or] at h2
  obtain ⟨a1, a2⟩ := apartS_spec h2
  obtain ⟨b1, b2⟩ := T.objs i j x y hlt hx hy hr
  exact ⟨a1, a2, b1, b2⟩

theorem TraceOK.back (T : TraceOK C ops f s its) {i : Nat} {o : Oper} (ho : ops[i]? = some o) {e : Edge} (he : e ∈ o.after) (hb : Region.binds .any e = true) : e.on < i := by
  have h := T.slots
  unfold slotsB backB at h
  simp only [Bool.and_eq_true, List.all_eq_true, List.mem_range] at h
  have hi : i < ops.size := (Array.getElem?_eq_some_iff.1 ho).1
  have h1 := h.1 i hi
  simp only [ho, Array.all_eq_true_iff_forall_mem] at h1
  have := h1 e he
  simpa [hb] using this

/-- At a ready operation the state agrees with the text's own where it looks. -/
theorem TraceOK.agree (T : TraceOK C ops f s its) {L : Nat → Bool} (hL : Down ops L) {i : Nat} {it : Item} (hi : its[i]? = some it) (hn : L i = false)
    (hready : ∀ e ∈ it.o.after, Region.binds .any e = true → L e.on = true) :
    (∀ t ∈ it.o.looksAt ops, (phi L 0 its s).env t = (phi (fun j => decide (j < i)) 0 its s).env t) ∧ (∀ id ∈ it.rd, (phi L 0 its s).hp id = (phi (fun j => decide (j < i)) 0 its s).hp id) := by
  -- with i taken in, what is listed is closed still
  have hoi := T.op i it hi
  have up : ∀ j, reachB ops f j i = true → L j = true := by
    intro j hr
    have hL' : Down ops (fun k => L k || k == i) := by
      intro k o ho hk e he hb
      simp only [Bool.or_eq_true, beq_iff_eq] at hk ⊢
      rcases hk with hk | rfl
      · exact .inl (hL k o ho hk e he hb)
      · rw [hoi] at ho; simp at ho; subst ho
        exact .inl (hready e he hb)
    have := reachB_down hL' f j i hr (by simp)
    simp only [Bool.or_eq_true, beq_iff_eq] at this
    rcases this with h | rfl
    · exact h
    · -- an operation is not ahead of itself
      exfalso
      have key : ∀ (g a b : Nat), reachB ops g a b = true → a < b := by
        intro g
        induction g with
        | zero => intro a b h; simp [reachB] at h
        | succ g ih =>
          intro a b h
          simp only [reachB] at h
          split at h
          · cases h
          · rename_i o ho
            simp only [Bool.or_eq_true, Array.any_eq_true'] at h
            rcases h with ⟨e, he, hb⟩ | ⟨e, he, hb⟩
            · simp only [Bool.and_eq_true, beq_iff_eq] at hb
              rw [← hb.2]; exact T.back ho he hb.1
            · simp only [Bool.and_eq_true] at hb
              exact Nat.lt_trans (ih _ _ hb.2) (T.back ho he hb.1)
      have := key f j j hr
      omega
  have diff : ∀ (j : Nat) x, its[j]? = some x → L j ≠ decide (j < i) → (∀ t ∈ it.o.looksAt ops, x.o.dst ≠ some t) ∧ ∀ id ∈ it.rd, id ∉ wrE x.eff := by
    intro j x hx hne
    rcases Nat.lt_trichotomy j i with h | h | h
    · have hLj : L j = false := by
        cases hh : L j with
        | false => rfl
        | true => simp [hh, h] at hne
      have hr : reachB ops f j i = false := by
        cases hh : reachB ops f j i with
        | false => rfl
        | true => rw [up j hh] at hLj; cases hLj
      obtain ⟨p1, _, p3, _⟩ := T.pair h hx hi hr
      exact ⟨fun t ht hd => (p1 t hd).1 ht, fun id hid hw => p3 id hw hid⟩
    · subst h; simp [hn] at hne
    · have hLj : L j = true := by
        cases hh : L j with
        | true => rfl
        | false => simp [hh, Nat.not_lt.2 (Nat.le_of_lt h)] at hne
      have hr : reachB ops f i j = false := by
        cases hh : reachB ops f i j with
        | false => rfl
        | true => have := reachB_down hL f i j hh hLj; rw [this] at hn; cases hn
      obtain ⟨_, p2, _, p4⟩ := T.pair h hi hx hr
      exact ⟨fun t ht hd => p2 t hd ht, fun id hid hw => p4 id hw hid⟩
  refine ⟨fun t ht => phi_env L _ t its 0 s s rfl fun j x hx hne => ?_, fun id hid => phi_hp L _ id its 0 s s rfl fun j x hx hne => ?_⟩
  · rw [Nat.zero_add] at hne; exact (diff j x hx hne).1 t ht
  · rw [Nat.zero_add] at hne; exact (diff j x hx hne).2 id hid

theorem TraceOK.insert (T : TraceOK C ops f s its) {L : Nat → Bool} (hL : Down ops L) {i : Nat} {it : Item} (hi : its[i]? = some it) (hn : L i = false) :
    (phi L 0 its s).app it.o.dst it.eff = phi (fun j => L j || j == i) 0 its s := by
  refine phi_insert L i hn its 0 s it (Nat.zero_le _) (by simpa using hi) fun j x hx hlt hl => ?_
  rw [Nat.zero_add] at hlt hl
  have hr : reachB ops f i j = false := by
    cases hh : reachB ops f i j with
    | false => rfl
    | true => have := reachB_down hL f i j hh hl; rw [this] at hn; cases hn
  obtain ⟨p1, _, p3, _⟩ := T.pair hlt hi hx hr
  refine ⟨?_, fun id hid hw => p3 id hid (T.wr j x hx id hw)⟩
  cases hd : it.o.dst with
  | none => exact .inr rfl
  | some d => exact .inl fun h => (p1 d hd).2 h.symm

theorem mem_ready_down {listed : Array Bool} (hL : Down ops (fun j => listed.getD j false)) {i : Nat} (hi : i ∈ Region.ready .any ops listed) : i < ops.size ∧ listed.getD i true = false ∧ Down ops (fun j => listed.getD j false || j == i) := by
  rw [mem_ready] at hi
  obtain ⟨hin, o, ho, hready⟩ := hi
  refine ⟨(Array.getElem?_eq_some_iff.1 ho).1, hin, fun k o' ho' hk e he hb => ?_⟩
  simp only [Bool.or_eq_true, beq_iff_eq] at hk ⊢
  rcases hk with hk | rfl
  · exact .inl (hL k o' ho' hk e he hb)
  · rw [ho] at ho'; simp at ho'; subst ho'
    exact .inl (hready e he hb)

/-- The free operations, in any order; then what is behind them all. -/
theorem TraceOK.any (T : TraceOK C ops f s its) {Q : Exit → Act → World → Prop} {extra : Nat}
    (hQ : ∀ (listed : Array Bool) a w, listed.size = ops.size → (∀ j, listed.getD j false = decide (j < its.length)) → Rel C (phi (fun _ => true) 0 its s) a w → wpAny C.E0.P .any ops Q extra listed a w) :
    ∀ (fuel : Nat) (listed : Array Bool) (a : Act) (w : World), listed.size = ops.size → Down ops (fun j => listed.getD j false) → (∀ j, its.length ≤ j → listed.getD j false = false) → ((List.range its.length).filter fun j => !listed.getD j false).length = fuel →
      Rel C (phi (fun j => listed.getD j false) 0 its s) a w → wpAny C.E0.P .any ops Q (fuel + extra) listed a w := by
  have full : ∀ (listed : Array Bool), (∀ j, j < its.length → listed.getD j false = true) → phi (fun j => listed.getD j false) 0 its s = phi (fun _ => true) 0 its s := by
    intro listed h
    have key : ∀ (l : List Item) (k : Nat) (s : ASt), k + l.length ≤ its.length → phi (fun j => listed.getD j false) k l s = phi (fun _ => true) k l s := by
      intro l
      induction l with
      | nil => intro k s _; rfl
      | cons x r ih =>
        intro k s hk
        simp only [List.length_cons] at hk
        simp only [phi, h k (by omega), if_true]
        exact ih (k + 1) _ (by omega)
    exact key its 0 s (by omega)
  have hlen := T.len
  have noready : ∀ (listed : Array Bool), Region.ready .any ops listed = [] → listed.size = ops.size → ∀ j, j < ops.size → listed.getD j false = true := by
    intro listed hr hsz j
    induction j using Nat.strongRecOn with
    | _ j ih =>
      intro hj
      cases hh : listed.getD j false with
      | true => rfl
      | false =>
        exfalso
        have : j ∈ Region.ready .any ops listed := by
          rw [mem_ready]
          obtain ⟨o, ho⟩ : ∃ o, ops[j]? = some o := ⟨ops[j], by simp [hj]⟩
          have hgt : listed.getD j true = false := by
            rw [Array.getD_eq_getD_getElem?] at hh ⊢
            have : j < listed.size := by omega
            simpa [this] using hh
          refine ⟨hgt, o, ho, fun e he hb => ?_⟩
          have := T.back ho he hb
          exact ih e.on this (by omega)
        rw [hr] at this; cases this
  intro fuel
  induction fuel with
  | zero =>
    intro listed a w hsz hdown hhi hcount hrel
    have hall : ∀ j, j < its.length → listed.getD j false = true := by
      intro j hj
      have h0 : ((List.range its.length).filter fun j => !listed.getD j false) = [] := List.eq_nil_of_length_eq_zero (by omega)
      rw [List.filter_eq_nil_iff] at h0
      have := h0 j (by simpa using hj)
      simpa using this
    rw [Nat.zero_add]
    refine hQ listed a w hsz (fun j => ?_) (by rw [← full listed hall]; exact hrel)
    by_cases h : j < its.length
    · rw [hall j h]; simp [h]
    · rw [hhi j (by omega)]; simp [h]
  | succ fuel ih =>
    intro listed a w hsz hdown hhi hcount hrel
    have hsome : ∃ j, j < its.length ∧ listed.getD j false = false := by
      have : ((List.range its.length).filter fun j => !listed.getD j false) ≠ [] := by intro h; rw [h] at hcount; simp at hcount
      obtain ⟨j, hj⟩ := List.exists_mem_of_ne_nil _ this
      simp only [List.mem_filter, List.mem_range, Bool.not_eq_true'] at hj
      exact ⟨j, hj⟩
    rw [show fuel + 1 + extra = (fuel + extra) + 1 by omega]
    refine ⟨fun hr => ?_, fun i hi => ?_⟩
    · obtain ⟨j, hj, hf⟩ := hsome
      have := noready listed hr hsz j (by omega)
      rw [this] at hf; cases hf
    obtain ⟨hilt, hin, hdown'⟩ := mem_ready_down hdown hi
    have him : i < its.length := by
      rcases Nat.lt_or_ge i its.length with h | h
      · exact h
      · exfalso
        obtain ⟨j, hj, hf⟩ := hsome
        have hr := tailB.out T.tail h hilt (by omega : j < i)
        have := reachB_down hdown' f j i hr (by simp)
        simp only [hf, Bool.false_or, beq_iff_eq] at this
        omega
    rw [mem_ready] at hi
    obtain ⟨_, o, ho, hready⟩ := hi
    have hiL : listed.getD i false = false := by
      rw [Array.getD_eq_getD_getElem?] at hin ⊢
      have : i < listed.size := by omega
      simpa [this] using hin
    obtain ⟨it, hit⟩ : ∃ it, its[i]? = some it := ⟨its[i]'him, by simp [him]⟩
    have hop := T.op i it hit
    rw [ho] at hop
    simp only [Option.some.injEq] at hop
    subst hop
    obtain ⟨g1, g2⟩ := T.agree hdown hit hiL hready
    have hset : ∀ j, (listed.setIfInBounds i true).getD j false = (listed.getD j false || j == i) := by
      intro j
      rw [Array.getD_eq_getD_getElem?, Array.getD_eq_getD_getElem?, Array.getElem?_setIfInBounds]
      by_cases e : i = j
      · subst e
        have : i < listed.size := by omega
        simp [this]
      · have : (j == i) = false := by simp; omega
        simp [e, this]
    have hfun : (fun j => (listed.setIfInBounds i true).getD j false) = (fun j => listed.getD j false || j == i) := funext hset
    have hins := T.insert hdown hit hiL
    rw [← hfun] at hdown'
    have hhi' : ∀ j, its.length ≤ j → (listed.setIfInBounds i true).getD j false = false := by
      intro j hj
      have : (j == i) = false := by simp; omega
      rw [hset, this, hhi j hj]; rfl
    have hcount' : ((List.range its.length).filter fun j => !(listed.setIfInBounds i true).getD j false).length = fuel := by
      have key : ∀ (l : List Nat), l.Nodup → i ∈ l → (l.filter fun j => !(listed.setIfInBounds i true).getD j false).length + 1 = (l.filter fun j => !listed.getD j false).length := by
        intro l
        induction l with
        | nil => intro _ h; cases h
        | cons x l ihl =>
          intro hnd hm
          simp only [List.nodup_cons] at hnd
          by_cases e : x = i
          · subst e
            have hx1 : (listed.setIfInBounds x true).getD x false = true := by rw [hset]; simp
            have same : (l.filter fun j => !(listed.setIfInBounds x true).getD j false) = (l.filter fun j => !listed.getD j false) := by
              apply List.filter_congr
              intro j hj
              have : (j == x) = false := by simp; rintro rfl; exact hnd.1 hj
              rw [hset, this, Bool.or_false]
            rw [List.filter_cons, List.filter_cons, hx1, hiL, same]
            simp
          · have hm' : i ∈ l := by
              rcases List.mem_cons.1 hm with h | h
              · exact absurd h.symm e
              · exact h
            have hxs : (listed.setIfInBounds i true).getD x false = listed.getD x false := by
              have : (x == i) = false := by simp [e]
              rw [hset, this, Bool.or_false]
            have := ihl hnd.2 hm'
            rw [List.filter_cons, List.filter_cons, hxs]
            split
            · simp only [List.length_cons]; omega
            · exact this
      have := key (List.range its.length) List.nodup_range (by simpa using him)
      omega
    have hstep := T.ok i it hit (phi (fun j => listed.getD j false) 0 its s) g1 g2
    unfold wpOp
    simp only [ho]
    rcases hstep with ⟨_, hw, hsem⟩ | ⟨_, hw, heff⟩
    · rw [wanted_of_wantP hrel hw]
      simp only [if_true]
      refine .inl (hsem a w hrel _ _ fun a' w' r' => ?_)
      rw [hins, ← hfun] at r'
      exact ih _ a' w' (by simpa using hsz) hdown' hhi' hcount' r'
    · rw [wanted_of_wantP hrel hw]
      simp only [Bool.false_eq_true, if_false]
      have r' : Rel C ((phi (fun j => listed.getD j false) 0 its s).app it.o.dst it.eff) (a.put it.o.dst undef) w := by
        rw [heff]
        exact hrel.put (dstOK.out (T.dst i it hit)) fun _ _ _ _ => V_und
      rw [hins, ← hfun] at r'
      exact ih _ _ w (by simpa using hsz) hdown' hhi' hcount' r'

/-- What is behind all, in the text's order. -/
theorem tail_any {Q : Exit → Act → World → Prop} {K : ASt → Prop} (hK : ∀ s a w, K s → Rel C s a w → Q .normal a w) (hb : backB ops = true) :
    ∀ (l : List Oper) (k : Nat), ops.toList.drop k = l → k + l.length = ops.size → tailB ops f k = true → ∀ (listed : Array Bool) s a w, listed.size = ops.size → (∀ j, listed.getD j false = decide (j < k)) → Rel C s a w → goOps C ops l s K →
      wpAny C.E0.P .any ops Q l.length listed a w
  | [], k, hl, hk, ht, listed, s, a, w, hsz, hli, r, h => by
    refine ⟨?_, hK s a w h r⟩
    cases hr : Region.ready .any ops listed with
    | nil => rfl
    | cons j rest =>
      have hm : j ∈ Region.ready .any ops listed := by rw [hr]; simp
      rw [mem_ready] at hm
      obtain ⟨h2, o, ho, _⟩ := hm
      have hjlt := (Array.getElem?_eq_some_iff.1 ho).1
      have h1 := hli j
      simp only [List.length_nil, Nat.add_zero] at hk
      rw [Array.getD_eq_getD_getElem?] at h1 h2
      have : j < listed.size := by omega
      simp only [this, getElem?_pos, Option.getD_some] at h1 h2
      rw [h1] at h2
      simp at h2; omega
  | o :: rest, k, hl, hk, ht, listed, s, a, w, hsz, hli, r, h => by
    simp only [List.length_cons] at hk
    have hko : ops[k]? = some o := by
      have : (ops.toList.drop k)[0]? = some o := by rw [hl]; rfl
      rw [List.getElem?_drop] at this
      simpa using this
    have hrest : ops.toList.drop (k + 1) = rest := by rw [← List.drop_drop, hl]; rfl
    have back : ∀ {i : Nat} {o : Oper}, ops[i]? = some o → ∀ {e : Edge}, e ∈ o.after → Region.binds .any e = true → e.on < i := by
      intro i o ho e he hbd
      unfold backB at hb
      simp only [List.all_eq_true, List.mem_range] at hb
      have h1 := hb i (Array.getElem?_eq_some_iff.1 ho).1
      simp only [ho, Array.all_eq_true_iff_forall_mem] at h1
      have := h1 e he
      simpa [hbd] using this
    have hdown : Down ops (fun j => listed.getD j false) := by
      intro j o' ho' hj e he hbd
      have := back ho' he hbd
      simp only [hli] at hj ⊢
      simp only [decide_eq_true_eq] at hj ⊢
      omega
    have hready : k ∈ Region.ready .any ops listed := by
      rw [mem_ready]
      refine ⟨?_, o, hko, fun e he hbd => ?_⟩
      · have h1 := hli k
        rw [Array.getD_eq_getD_getElem?] at h1 ⊢
        have : k < listed.size := by omega
        simp only [this, getElem?_pos, Option.getD_some] at h1 ⊢
        rw [h1]; simp
      · rw [hli]; simp only [decide_eq_true_eq]; exact back hko he hbd
    refine ⟨fun hr => ?_, fun i hi => ?_⟩
    · rw [hr] at hready; cases hready
    obtain ⟨hilt, hin, hdown'⟩ := mem_ready_down hdown hi
    have hik : i = k := by
      have h1 : ¬ i < k := by
        intro hlt
        have h1 := hli i
        rw [Array.getD_eq_getD_getElem?] at h1 hin
        have : i < listed.size := by omega
        simp only [this, getElem?_pos, Option.getD_some] at h1 hin
        rw [h1] at hin; simp [hlt] at hin
      rcases Nat.lt_or_ge k i with h2 | h2
      · exfalso
        have hr := tailB.out ht (by omega : k ≤ i) hilt h2
        have := reachB_down hdown' f k i hr (by simp)
        rw [hli] at this
        simp at this
        omega
      · omega
    subst hik
    obtain ⟨hd, h⟩ := h
    have ht' : tailB ops f (i + 1) = true := by
      unfold tailB at ht ⊢
      simp only [List.all_eq_true, List.mem_range, Bool.or_eq_true, decide_eq_true_eq] at ht ⊢
      intro j hj
      rcases ht j hj with h | h
      · exact .inl (by omega)
      · exact .inr h
    have hli' : ∀ j, (listed.setIfInBounds i true).getD j false = decide (j < i + 1) := by
      intro j
      rw [Array.getD_eq_getD_getElem?, Array.getElem?_setIfInBounds]
      by_cases e : i = j
      · subst e
        have : i < listed.size := by omega
        simp [this]
      · rw [if_neg e, ← Array.getD_eq_getD_getElem?, hli j]
        have : (j < i) ↔ (j < i + 1) := by omega
        simp [this]
    unfold wpOp
    simp only [hko]
    cases hw : wantP ops s o with
    | none => simp [hw] at h
    | some t =>
      simp only [hw] at h
      rw [wanted_of_wantP r hw]
      cases t with
      | true =>
        simp only [if_true]
        exact .inl (stepK_sound (h.1 rfl) r hd fun s' a' w' hs' r' => tail_any hK hb rest (i + 1) hrest (by omega) ht' _ s' a' w' (by simpa using hsz) hli' r' hs')
      | false =>
        simp only [Bool.false_eq_true, if_false]
        refine tail_any hK hb rest (i + 1) hrest (by omega) ht' _ _ _ w (by simpa using hsz) hli' ?_ (h.2 rfl)
        exact r.put (dstOK.out hd) fun _ _ _ _ => V_und

/-- A region whose order is drawn: a trace of what is free, then the rest. -/
theorem awp_region_draw {id : Nat} {Q : Exit → ASt → Prop} (T : TraceOK C ops f s its) (hm : C.E0.P.follows .mixedOrders = true) (h : goOps C ops (ops.toList.drop its.length) (phi (fun _ => true) 0 its s) (Q .normal)) : awp C (.region id ops true) Q s := by
  intro a w r
  refine wp_region_any hm ?_
  have r' : Rel C s a { w with drawn := w.drawn + 1 } := by
    obtain ⟨g1, g2, ι, I, hat, henv⟩ := r
    exact ⟨g1, g2, ι, I, ⟨hat.hok, hat.le, hat.os, hat.tape, hat.output, hat.size, hat.keep, hat.stay, hat.Inew⟩, henv⟩
  have hb : backB ops = true := by have := T.slots; unfold slotsB at this; simp only [Bool.and_eq_true] at this; exact this.1
  have h0 : ∀ j, (Array.replicate ops.size false).getD j false = false := by
    intro j; rw [Array.getD_eq_getD_getElem?, Array.getElem?_replicate]; split <;> rfl
  have hf : ∀ (l : List Item) (k : Nat) (s : ASt), phi (fun j => (Array.replicate ops.size false).getD j false) k l s = s := by
    intro l
    induction l with
    | nil => intro k s; rfl
    | cons x l ih =>
      intro k s
      have e : (if (fun j => (Array.replicate ops.size false).getD j false) k = true then s.app x.o.dst x.eff else s) = s := by rw [if_neg]; simp only [h0]; simp
      show phi _ (k + 1) l _ = s
      rw [e]; exact ih _ _
  have hlen := T.len
  have := T.any (Q := fun e a' w' => ∃ s', Q e s' ∧ Rel C s' a' w') (extra := ops.size - its.length) (fun listed a w hsz hli r => ?_) its.length (Array.replicate ops.size false) a { w with drawn := w.drawn + 1 }
    (by simp) (fun j o _ hj => by simp only [h0] at hj; cases hj) (fun j _ => h0 j) ?_ (by rw [hf]; exact r')
  · rw [show its.length + (ops.size - its.length) = ops.size by omega] at this
    exact this
  · have e : (ops.toList.drop its.length).length = ops.size - its.length := by simp
    have := tail_any (f := f) (Q := fun e a' w' => ∃ s', Q e s' ∧ Rel C s' a' w') (K := Q .normal) (fun s a w k r => ⟨s, k, r⟩) hb (ops.toList.drop its.length) its.length rfl (by rw [e]; omega) T.tail listed _ a w hsz hli r h
    rw [e] at this
    exact this
  · have : ((List.range its.length).filter fun j => !(Array.replicate ops.size false).getD j false) = List.range its.length := by
      rw [List.filter_eq_self]; intro j _; rw [h0]; rfl
    rw [this]; simp

end
end Go.Abs
