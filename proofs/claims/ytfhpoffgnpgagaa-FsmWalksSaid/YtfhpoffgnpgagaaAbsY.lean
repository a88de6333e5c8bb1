/- Meeting places, unseen steps, ways out: over states that are lists. No condition. -/
import Derived.Test.YtfhpoffgnpgagaaAbsX
set_option linter.unusedSimpArgs false
set_option linter.unusedVariables false
namespace Go.Abs

def SubL (l : List (Nat × PV)) : List (Nat × PV) → Prop
  | [] => True
  | (a, x) :: l' => envL l a = x ∧ SubL l l'
def AgrL (N : Nat) (hp : HP) : List (Nat × (Nat × Option AObj)) → Prop
  | [] => True
  | (d, o) :: m => hp (N + d) = o ∧ AgrL N hp m

theorem SubL.get {l : List (Nat × PV)} : ∀ {l' : List (Nat × PV)}, SubL l l' → ∀ t, envL l' t = envL l t ∨ envL l' t = .dead
  | [], _, t => .inr rfl
  | (a, x) :: l', h, t => by
    simp only [envL]
    cases hb : Nat.beq t a with
    | true => have := Nat.eq_of_beq_eq_true hb; subst this; exact .inl h.1.symm
    | false => exact h.2.get t

theorem hpL_abs {N : Nat} {hp : HP} : ∀ {m : List (Nat × (Nat × Option AObj))}, AgrL N hp m → hpL N hp m = hp
  | [], _ => rfl
  | (d, o) :: m, h => by
    simp only [hpL, hpL_abs h.2]
    funext j
    simp only [upd]
    split
    · rename_i e; subst e; exact h.1.symm
    · rfl

section
variable {C : Ctx} {N : Nat} {hp : HP} {l l' : List (Nat × PV)} {m m' : List (Nat × (Nat × Option AObj))} {Q : Exit → ASt → Prop} {c : Code}

theorem Gh.sub {h : HP} (hs : SubL l l') : Gh C ⟨envL l, h⟩ ⟨envL l', h⟩ := Gh.forget (s := ⟨envL l, h⟩) hs.get

/-- To a meeting place. -/
theorem Gh.join (hs : SubL l l') (hm : AgrL N (hpL N hp m) m') : Gh C ⟨envL l, hpL N hp m⟩ ⟨envL l', hpL N (hpL N hp m) m'⟩ := by
  rw [hpL_abs hm]; exact Gh.sub hs

theorem low_join {hp0 : HP} {P : Nat → Prop} (h : ∀ id, id < N → P id → hp id = hp0 id) : ∀ id, id < N → P id → hpL N hp m id = hp0 id := fun id hid hP => (hpL_low hid).trans (h id hid hP)
theorem low_join0 {hp0 : HP} (h : ∀ id, id < N → hp id = hp0 id) : ∀ id, id < N → hpL N hp m id = hp0 id := fun id hid => (hpL_low hid).trans (h id hid)

end

section
variable {P : Program} {n N : Nat} {hp0 hp : HP} {X : Ext} {l : List (Nat × PV)} {m : List (Nat × (Nat × Option AObj))} {Q : Exit → ASt → Prop} {c : Code}

theorem envL_set {l : List (Nat × PV)} {t : Nat} {g : PV → PV} {x : PV} (h : g (envL l t) = x) : setEnv (envL l) g [t] = envL ((t, x) :: l) := by
  funext j
  simp only [setEnv, List.mem_singleton, envL]
  by_cases e : j = t
  · subst e; simp [h]
  · have : Nat.beq j t = false := by
      cases h' : Nat.beq j t
      · rfl
      · exact absurd (Nat.eq_of_beq_eq_true h') e
    simp [e, this]

/-- An own slice is kept for good. -/
theorem Gh.frz {t d v len : Nat} {e : TypeId} {row : List PV} {R : List PD} (hX : ∀ id, N ≤ id → (hp0 id).2 = none) (ht : envL l t = .own (N + d) v 0 len) (ho : hpL N hp m (N + d) = (v, some (.cells e row))) (hd : toDs row = some R) (hl : len * szOf P e = R.length) :
    Gh (mkC n N P hp0 X) ⟨envL l, hpL N hp m⟩ ⟨envL ((t, .d true (.lst len R)) :: l), hpL N hp ((d, (v + 1, none)) :: m)⟩ := by
  have := Gh.freeze (C := mkC n N P hp0 X) (s := ⟨envL l, hpL N hp m⟩) (N + d) [t] ho (hX _ (by omega)) hd
  have e2 : setEnv (envL l) (frzV (N + d) v (szOf P e) R) [t] = envL ((t, .d true (.lst len R)) :: l) := by
    apply envL_set
    rw [ht]
    have h1 : 0 + len * szOf P e ≤ R.length := by omega
    have h2 : List.take (len * szOf P e) R = R := by rw [hl]; simp
    simp [frzV, frzD, h2, hl]
  simp only [mkC_P] at this
  rw [e2] at this
  exact this
theorem awp_frz {t d v len : Nat} {e : TypeId} {row : List PV} {R : List PD} (hX : ∀ id, N ≤ id → (hp0 id).2 = none) (ht : envL l t = .own (N + d) v 0 len) (ho : hpL N hp m (N + d) = (v, some (.cells e row))) (hd : toDs row = some R) (hl : len * szOf P e = R.length)
    (hk : awp (mkC n N P hp0 X) c Q ⟨envL ((t, .d true (.lst len R)) :: l), hpL N hp ((d, (v + 1, none)) :: m)⟩) : awp (mkC n N P hp0 X) c Q ⟨envL l, hpL N hp m⟩ := awp_gh (Gh.frz hX ht ho hd hl) hk
theorem callL_frz {o : Oper} {gs : List (Option Tmp)} {rest : List Oper} {K : ASt → Prop} {t d v len : Nat} {e : TypeId} {row : List PV} {R : List PD} (hX : ∀ id, N ≤ id → (hp0 id).2 = none) (ht : envL l t = .own (N + d) v 0 len) (ho : hpL N hp m (N + d) = (v, some (.cells e row))) (hd : toDs row = some R) (hl : len * szOf P e = R.length)
    (hk : CallL (mkC n N P hp0 X) ⟨envL ((t, .d true (.lst len R)) :: l), hpL N hp ((d, (v + 1, none)) :: m)⟩ o gs rest K) : CallL (mkC n N P hp0 X) ⟨envL l, hpL N hp m⟩ o gs rest K := callL_gh (Gh.frz hX ht ho hd hl) hk

/-- A nil is an object from now on. -/
theorem awp_virt {t d : Nat} {k : Bool} (e : TypeId) (hdn : d < n) (ht : envL l t = .d k .nil) (hk : ∀ v, awp (mkC n N P hp0 X) c Q ⟨envL ((t, .own (N + d) v 0 0) :: l), hpL N hp ((d, (v, some (.cells e []))) :: m)⟩) : awp (mkC n N P hp0 X) c Q ⟨envL l, hpL N hp m⟩ := by
  have g := Gh.virtual (C := mkC n N P hp0 X) (s := ⟨envL l, hpL N hp m⟩) (N + d) (by show N + d < N + n; omega) [t] e
  refine awp_gh g ?_
  have e2 := envL_set (l := l) (t := t) (g := ownNil (N + d) ((hpL N hp m (N + d)).1 + 1)) (x := .own (N + d) ((hpL N hp m (N + d)).1 + 1) 0 0) (by rw [ht]; rfl)
  rw [e2]
  exact hk _

/-- A row is cut. -/
theorem Gh.trunc {C : Ctx} {s : ASt} (id : Nat) (q : Nat) {v : Nat} {e : TypeId} {row : List PV} (ho : s.hp id = (v, some (.cells e row))) : Gh C s ⟨s.env, upd s.hp id (v, some (.cells e (row.take q)))⟩ := by
  intro a w ⟨g1, g2, ι, I, hat, henv⟩
  have ho2 : (s.hp id).2 = some (.cells e row) := by rw [ho]
  cases hb : ι id with
  | none =>
    obtain ⟨e', he⟩ := hat.hok.atNone id _ ho2 hb
    simp at he
    obtain ⟨_, rfl⟩ := he
    have e2 : upd s.hp id (v, some (.cells e ([].take q))) = s.hp := by
      funext j; simp only [upd, List.take_nil]; split
      · rename_i h; subst h; exact ho.symm
      · rfl
    rw [e2]
    exact ⟨g1, g2, ι, I, hat, henv⟩
  | some b =>
    obtain ⟨n1, n2, c, hc, hl, hr⟩ := hat.hok.atSome id _ b ho2 hb
    obtain ⟨r1, r2⟩ := hat.change (w' := w) id v (some (.cells e (row.take q))) (some b) I (by rw [ho]; exact Nat.le_refl _)
      (fun hh x hx => by
        simp at hx; subst hx
        refine ⟨⟨_, ho2, hb.symm⟩, fun e' r' he => ?_⟩
        simp at he
        obtain ⟨rfl, _⟩ := he
        refine ⟨row, ho2, fun b2 hb2 => ?_⟩
        have : b2 = b := by rw [hb] at hb2; simpa using hb2.symm
        subst this
        exact ⟨c, c, hc, hc, rfl⟩)
      rfl rfl rfl (Nat.le_refl _) (fun b hb _ => rfl) (fun b h => h) (fun b h => .inl h)
      (fun b h => hat.hok.bound b (.inl h)) (fun kd o b2 hne2 hk hi2 => ⟨(hat.hok.atSome kd o b2 hk hi2).1, fun h => by
        exfalso
        have : b = b2 := by simpa using h
        subst this
        exact hne2 (hat.hok.inj kd id o _ b hk ho2 hi2 hb)⟩)
      (fun x hx h => by cases h)
      (fun x b2 hx hb2 => by
        simp at hx hb2; subst hx; subst hb2
        refine ⟨n1, n2, .inl ⟨_, ho2, hb⟩, fun E' L h1 h2 h3 => ⟨c, by rw [h1]; exact hc, by simp; omega, fun k x hx => ?_⟩⟩
        rw [List.getElem?_take] at hx
        split at hx
        · obtain ⟨v1, v2⟩ := hr k x hx
          exact ⟨v1.mono L, v2⟩
        · cases hx)
    refine ⟨g1, ⟨g2.1, fun kd hk => ?_⟩, _, _, r1, fun t => (henv t).mono r2⟩
    have h1 : kd ≠ id := by
      rintro rfl
      have := g2.2 kd hk
      rw [ho2] at this; cases this
    simp only [upd, h1, if_false]; exact g2.2 kd hk
theorem awp_trunc {d v : Nat} (q : Nat) {e : TypeId} {R : List PD} (ho : hpL N hp m (N + d) = (v, some (.cells e (R.map (PV.d true))))) (hk : awp (mkC n N P hp0 X) c Q ⟨envL l, hpL N hp ((d, (v, some (.cells e ((R.take q).map (PV.d true))))) :: m)⟩) : awp (mkC n N P hp0 X) c Q ⟨envL l, hpL N hp m⟩ := by
  refine awp_gh (Gh.trunc (s := ⟨envL l, hpL N hp m⟩) (N + d) q ho) ?_
  rw [← List.map_take]; exact hk
end

/-- What one way of telling a value says, another says too. -/
def Wk (x y : PV) : Prop := ∀ E v, V E x v → V E y v
theorem Wk.refl {x : PV} : Wk x x := fun _ _ h => h
theorem Wk.trans {x y z : PV} (h : Wk x y) (k : Wk y z) : Wk x z := fun E v g => k E v (h E v g)
theorem Wk.of_eq {x y : PV} (h : x = y) : Wk x y := by subst h; exact Wk.refl
theorem Wk.agg {k : Bool} {ds : List PD} : Wk (.d k (.agg ds)) (.agg (ds.map (dk k))) := by
  intro E v h
  cases h with
  | d _ _ _ h =>
    cases h with
    | agg _ cs h1 h2 =>
      refine .agg _ cs (by simpa using h1) fun i d hd => ?_
      rw [List.getElem?_map] at hd
      cases hx : ds[i]? with
      | none => simp [hx] at hd
      | some y => simp [hx] at hd; subst hd; exact V_dk (.d k y _ (h2 i y hx))
theorem Wk.aggE {k : Bool} {ds : List PD} {cs : List PV} (h : ds.map (dk k) = cs) : Wk (.d k (.agg ds)) (.agg cs) := by subst h; exact Wk.agg
theorem Wk.toD {x : PV} {d : PD} (h : toD x = some d) : Wk x (.d true d) := fun _ _ k => .d true d _ (toD_V k d h)
theorem Wk.low {x : PD} {k : Bool} : Wk (.d true x) (.d k x) := by
  intro E v h
  cases k with
  | true => exact h
  | false =>
    cases h with
    | d _ _ _ h => exact .d false x v (h.mono (fun b hb => .inl hb) (fun _ _ => rfl))
theorem Wk.lowk {x : PD} {k : Bool} : Wk (.d true x) (dk k x) := fun E v h => V_dk (Wk.low E v h)
def WkL : List PV → List PV → Prop
  | [], [] => True
  | x :: l, y :: m => Wk x y ∧ WkL l m
  | _, _ => False
theorem WkL.len : ∀ {l m : List PV}, WkL l m → l.length = m.length
  | [], [], _ => rfl
  | x :: l, y :: m, h => by simp [WkL.len h.2]
  | [], _ :: _, h => h.elim
  | _ :: _, [], h => h.elim
theorem WkL.get : ∀ {l m : List PV}, WkL l m → ∀ (i : Nat) x, m[i]? = some x → ∃ y, l[i]? = some y ∧ Wk y x
  | [], [], _, i, x, hx => by simp at hx
  | a :: l, b :: m, h, i, x, hx => by
    cases i with
    | zero => simp at hx; subst hx; exact ⟨a, rfl, h.1⟩
    | succ i => exact WkL.get h.2 i x (by simpa using hx)
  | [], _ :: _, h, _, _, _ => h.elim
  | _ :: _, [], h, _, _, _ => h.elim
theorem WkL.refl : ∀ {l : List PV}, WkL l l
  | [] => trivial
  | _ :: _ => ⟨Wk.refl, WkL.refl⟩
theorem ACalls.weak {P : Program} {f : FuncId} {N : Nat} {args args' : List PV} {hp : HP} {Q : PV → HP → Prop} (hw : WkL args args') (h : ACalls P f N args' hp Q) : ACalls P f N args hp Q := by
  intro X vs h1 h2 h3 h4
  refine h X vs h1 h2 (by rw [h3, hw.len]) fun i x hx => ?_
  obtain ⟨y, hy, hk⟩ := hw.get i x hx
  exact hk _ _ (h4 i y hy)

/-- Results that are data. -/
def ResL (P : Program) (s : ASt) : List ResultVar → List PD → Prop
  | [], [] => True
  | r :: rs, d :: ds => ((resP P s r).1 ∧ toD (resP P s r).2.x = some d) ∧ ResL P s rs ds
  | _, _ => False
theorem ResL.out {P : Program} {s : ASt} : ∀ {rs : List ResultVar} {ds : List PD}, ResL P s rs ds → (resPs P s rs).1 ∧ toDs (resPs P s rs).2 = some ds
  | [], [], _ => ⟨trivial, rfl⟩
  | r :: rs, d :: ds, h => by
    obtain ⟨h1, h2⟩ := ResL.out h.2
    exact ⟨⟨h.1.1, h1⟩, by simp only [resPs, toDs, h.1.2, h2]⟩
  | [], _ :: _, h => h.elim
  | _ :: _, [], h => h.elim

section
variable {P : Program} {n N : Nat} {hp0 hp : HP} {X : Ext} {l : List (Nat × PV)} {m : List (Nat × (Nat × Option AObj))} {Q : PV → HP → Prop} {s : ASt}

theorem res_t {P : Program} {s : ASt} {t : Nat} {d : PD} {x : PV} (hx : s.env t = x) (hd : toD x = some d) : (resP P s (.tmp t)).1 ∧ toD (resP P s (.tmp t)).2.x = some d := ⟨trivial, by simp only [resP, val, hx, hd]⟩
theorem res_c {P : Program} {s : ASt} {t T id v sz : Nat} {e : TypeId} {row : List PV} {ds : List PD} (ht : tyT P T = some (true, sz)) (hx : s.env t = .ptr id v 0) (ho : s.hp id = (v, some (.cells e row))) (hl : row.length = sz) (hd : toDs row = some ds) : (resP P s (.cell t T)).1 ∧ toD (resP P s (.cell t T)).2.x = some (.agg ds) := by
  simp only [resP, hx, fLoad, ht, ho, valIf]
  refine ⟨⟨trivial, by omega, .inl trivial⟩, ?_⟩
  have : List.take sz row = row := by rw [← hl]; simp
  simp [toD, this, hd]
theorem res_c1 {P : Program} {s : ASt} {t T id v : Nat} {e : TypeId} {x : PV} {d : PD} (ht : tyT P T = some (false, 1)) (hx : s.env t = .ptr id v 0) (ho : s.hp id = (v, some (.cells e [x]))) (hd : toD x = some d) : (resP P s (.cell t T)).1 ∧ toD (resP P s (.cell t T)).2.x = some d := by
  simp only [resP, hx, fLoad, ht, ho, valIf]
  exact ⟨⟨trivial, by simp, .inr trivial⟩, by simpa using hd⟩

theorem normP_toD {x : PV} {d : PD} (h : toD x = some d) : normP x = .d true d := by simp [normP, h]

/-- One result, as data; what is the caller's is as hp2 says. -/
theorem ret1 {r : ResultVar} {d : PD} {hp2 : HP} (hr : (resP P s r).1 ∧ toD (resP P s r).2.x = some d) (h1 : ∀ id, id < N → s.hp id = hp2 id) (h2 : ∀ id, N ≤ id → hp2 id = hp0 id) (h3 : lowOK N hp0 hp2) (hq : Q (.d true d) hp2) {e : Exit} (he : e = .normal ∨ e = .ret) : retA (mkC n N P hp0 X) [r] Q e s := by
  have : retP (mkC n N P hp0 X) [r] Q s := by
    simp only [retP, resPs, mkC_P]
    refine ⟨⟨hr.1, trivial⟩, ?_⟩
    rw [normP_toD hr.2]
    exact finP_to h1 h2 h3 trivial hq
  rcases he with rfl | rfl <;> exact this
/-- Several. -/
theorem retn {rs : List ResultVar} {ds : List PD} {hp2 : HP} (hn : rs.length ≠ 1) (hr : ResL P s rs ds) (h1 : ∀ id, id < N → s.hp id = hp2 id) (h2 : ∀ id, N ≤ id → hp2 id = hp0 id) (h3 : lowOK N hp0 hp2) (hq : Q (.d true (.tup ds)) hp2) {e : Exit} (he : e = .normal ∨ e = .ret) : retA (mkC n N P hp0 X) rs Q e s := by
  obtain ⟨q1, q2⟩ := hr.out
  have hlen := resPs_length P s rs
  have : retP (mkC n N P hp0 X) rs Q s := by
    unfold retP
    simp only [mkC_P]
    split
    · rename_i c x he
      rw [he] at hlen; simp at hlen; omega
    · rename_i c xs hne he
      rw [he] at q1 q2
      refine ⟨q1, ?_⟩
      simp only at q2
      rw [q2]
      exact finP_to h1 h2 h3 trivial hq
  rcases he with rfl | rfl <;> exact this
theorem lowOK_same {hp0 : HP} : lowOK N hp0 hp0 := fun _ _ => .inl rfl
end
end Go.Abs
