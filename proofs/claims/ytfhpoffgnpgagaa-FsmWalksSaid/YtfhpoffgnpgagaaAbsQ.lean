/- Steps of the calculus that the program does not take: an object is let go, kept for good, a nil becomes one. No condition. -/
import Derived.Test.YtfhpoffgnpgagaaAbsP
set_option linter.unusedSimpArgs false
set_option linter.unusedVariables false
namespace Go.Abs

/-- What the first state says, the second one says too. -/
def Gh (C : Ctx) (s s' : ASt) : Prop := ∀ a w, Rel C s a w → Rel C s' a w

theorem Gh.refl {C : Ctx} (s : ASt) : Gh C s s := fun _ _ h => h
theorem Gh.trans {C : Ctx} {s t u : ASt} (h : Gh C s t) (k : Gh C t u) : Gh C s u := fun a w r => k a w (h a w r)

section
variable {C : Ctx} {Q : Exit → ASt → Prop} {s : ASt}

theorem awp_gh {c : Code} {s' : ASt} (g : Gh C s s') (h : awp C c Q s') : awp C c Q s := fun a w r => h a w (g a w r)

/-- A piece of code, with what is told of the states behind it. -/
theorem awp_post {c : Code} {Q' : Exit → ASt → Prop} (h : awp C c Q' s) (hq : ∀ e s', Q' e s' → ∃ s'', Gh C s' s'' ∧ Q e s'') : awp C c Q s := by
  intro a w r
  refine wp_mono (h a w r) fun e a' w' ⟨s', q, r'⟩ => ?_
  obtain ⟨s'', g, q'⟩ := hq e s' q
  exact ⟨s'', q', g a' w' r'⟩

/-- One piece, then the other, with a word between them. -/
theorem awp_cut {x y : Code} (R : ASt → Prop) (h : awp C x (thenA R Q) s) (k : ∀ s', R s' → awp C y Q s') : awp C (.seq x y) Q s := by
  refine awp_seq (awp_mono h fun e s' q => ?_)
  cases e with
  | normal => exact k s' q
  | exit id => exact q
  | goto l => exact q
  | ret => exact q
  | panic ch => exact q
  | outgrown => exact q

/-- Slots are forgotten. -/
theorem Gh.forget {env' : Nat → PV} (h : ∀ t, env' t = s.env t ∨ env' t = .dead) : Gh C s ⟨env', s.hp⟩ := by
  intro a w ⟨g1, g2, ι, I, hat, henv⟩
  refine ⟨g1, g2, ι, I, hat, fun t => ?_⟩
  rcases h t with e | e
  · simp only [e]; exact henv t
  · simp only [e]; exact .dead _

end

/-- What a frozen object's handles become. -/
def frzD (id v sz : Nat) (ds : List PD) : PV → PV
  | .own id' v' off len => if id' = id ∧ v' = v ∧ off + len * sz ≤ ds.length then .d true (.lst len ((ds.drop off).take (len * sz))) else .own id' v' off len
  | x => x

def frzV (id v sz : Nat) (ds : List PD) : PV → PV
  | .agg cs => .agg (cs.map (frzD id v sz ds))
  | x => frzD id v sz ds x

def setEnv (env : Nat → PV) (g : PV → PV) (ts : List Nat) : Nat → PV := fun t => if t ∈ ts then g (env t) else env t

theorem VL_get {E : AEnv} {ds : List PV} {vs : List Value} (h : VL E ds vs) {i : Nat} {d : PV} {v : Value} (hd : ds[i]? = some d) (hv : vs[i]? = some v) : V E d v ∧ v.oneCell' = true := h.2 i d v hd hv

section
variable {C : Ctx} {s : ASt}

/-- An object of this call's own is kept for good: from now on it is data. -/
theorem Gh.freeze (id : Nat) (ts : List Nat) {v : Nat} {e : TypeId} {row : List PV} {ds : List PD} (ho : s.hp id = (v, some (.cells e row))) (h0 : (C.E0.hp id).2 = none) (hd : toDs row = some ds) :
    Gh C s ⟨setEnv s.env (frzV id v (szOf C.E0.P e) ds) ts, upd s.hp id (v + 1, none)⟩ := by
  intro a w ⟨g1, g2, ι, I, hat, henv⟩
  have ho2 : (s.hp id).2 = some (.cells e row) := by rw [ho]
  have hlenD := toDs_length row ds hd
  let I' : Nat → Prop := fun b => I b ∨ ι id = some b
  obtain ⟨q1, q2⟩ := hat.change (w' := w) id (v + 1) none none I' (by rw [ho]; simp) (fun hh x hx => by cases hx) rfl rfl rfl (Nat.le_refl _) (fun b hb _ => rfl) (fun b h => .inl h)
    (fun b h => by
      rcases h with h | h
      · exact .inl h
      · refine .inr (.inr ⟨_, ho2, h, ?_⟩)
        rcases Nat.lt_or_ge b C.w0.heap.size with hb | hb
        · obtain ⟨o0, e0, _⟩ := hat.stay id _ b ho2 h hb
          rw [h0] at e0; cases e0
        · exact hb)
    (fun b h => by
      rcases h with h | h
      · exact hat.hok.bound b (.inl h)
      · exact (hat.hok.atSome id _ b ho2 h).2.2.lt)
    (fun jd o b hne hj hi => by
      refine ⟨fun h => ?_, fun _ => rfl⟩
      rcases h with h | h
      · exact (hat.hok.atSome jd o b hj hi).1 h
      · exact hne (hat.hok.inj jd id o _ b hj ho2 hi h))
    (fun x hx _ => by cases hx) (fun x b hx _ => by cases hx)
  -- how a handle reads
  have one : ∀ x u, V ⟨C.E0.P, s.hp, ι, I, C.E0.A, w.heap⟩ x u → V ⟨C.E0.P, upd s.hp id (v + 1, none), upd ι id none, I', C.E0.A, w.heap⟩ (frzD id v (szOf C.E0.P e) ds x) u := by
    intro x u hx
    cases x with
    | own id' v' off len =>
      simp only [frzD]
      split
      · rename_i hc
        obtain ⟨rfl, rfl, hle⟩ := hc
        cases hx with
        | own _ _ _ _ _ hown =>
          obtain ⟨k1, k2⟩ := hown.2 (by simp [ho]) e row ho2
          cases hi : ι id' with
          | none =>
            obtain ⟨rfl, rfl, rfl⟩ := k1 hi
            exact .d true _ _ (by simpa using VD.lst0 none 0)
          | some b =>
            obtain ⟨off', cap, c, rfl, hlc, hoff, hh, _⟩ := k2 b hi
            by_cases hl0 : len = 0
            · subst hl0
              exact .d true _ _ (by simpa using VD.lst0 _ cap)
            · have : off' = off := hoff (.inl (by omega))
              subst this
              obtain ⟨c2, hc2, hl2, hrow⟩ := hat.hok.row (id := id') (e := e) (row := row) ho2 hi
              have : c2 = c := by simp only at hc2 hh; rw [hh] at hc2; simpa using hc2.symm
              subst this
              have hl2' : row.length ≤ c2.size := hl2
              have hlen : ((ds.drop off').take (len * szOf C.E0.P e)).length = len * szOf C.E0.P e := by simp; omega
              have cell : ∀ (i : Nat) d, ((ds.drop off').take (len * szOf C.E0.P e))[i]? = some d → VD I' w.heap d (c2.getD (off' + i) undef) ∧ (c2.getD (off' + i) undef).oneCell' = true := by
                intro i d hdd
                rw [List.getElem?_take] at hdd
                split at hdd <;> try (cases hdd; done)
                rw [List.getElem?_drop] at hdd
                have hlt : off' + i < ds.length := (List.getElem?_eq_some_iff.1 hdd).1
                have hlt2 : off' + i < row.length := by omega
                have hlt3 : off' + i < c2.size := by omega
                have hcx : (c2.toList.take row.length)[off' + i]? = some c2[off' + i] := by
                  rw [List.getElem?_take, if_pos hlt2]; simp [hlt3]
                have hg : c2.getD (off' + i) undef = c2[off' + i] := by rw [Array.getD_eq_getD_getElem?]; simp [hlt3]
                obtain ⟨v1, v2⟩ := VL_get hrow (d := row[off' + i]) (by simp [hlt2]) hcx
                rw [hg]
                refine ⟨(toD_V v1 d (toDs_get row ds hd (off' + i) _ d (by simp [hlt2]) hdd)).mono (fun b hb => .inl hb) (fun _ _ => rfl), v2⟩
              have hw2 : w.heap[b]? = some (.cells c2 e (0, 0)) := hc2
              refine .d true _ _ (.lst len _ b off' cap c2 e (0, 0) (.inr hi) hw2 (by rw [hlen]; omega) hlc (fun i d hdd => (cell i d hdd).1) (fun i d hdd => (cell i d hdd).2))
      · exact hx.mono q2
    | _ => exact hx.mono q2
  have one' : ∀ x u, V ⟨C.E0.P, s.hp, ι, I, C.E0.A, w.heap⟩ x u → V ⟨C.E0.P, upd s.hp id (v + 1, none), upd ι id none, I', C.E0.A, w.heap⟩ (frzV id v (szOf C.E0.P e) ds x) u := by
    intro x u hx
    cases x with
    | agg cs =>
      cases hx with
      | agg _ c hl hv =>
        refine .agg _ c (by simpa using hl) fun i d hdd => ?_
        rw [List.getElem?_map] at hdd
        cases hx : cs[i]? with
        | none => simp [hx] at hdd
        | some y => simp [hx] at hdd; subst hdd; exact one y _ (hv i y hx)
    | _ => exact one _ u hx
  refine ⟨g1, ⟨g2.1, fun jd hj => ?_⟩, upd ι id none, I', q1, fun t => ?_⟩
  · by_cases hh : jd = id
    · subst hh; simp [upd]
    · simp only [upd, hh, if_false]; exact g2.2 jd hj
  · simp only [setEnv]
    split
    · exact one' _ _ (henv t)
    · exact (henv t).mono q2

/-- An object is let go. -/
theorem Gh.letgo (id : Nat) : Gh C s ⟨s.env, upd s.hp id ((s.hp id).1, none)⟩ := by
  intro a w ⟨g1, g2, ι, I, hat, henv⟩
  obtain ⟨q1, q2⟩ := hat.change (w' := w) id (s.hp id).1 none none I (Nat.le_refl _) (fun hh x hx => by cases hx) rfl rfl rfl (Nat.le_refl _) (fun b hb _ => rfl) (fun b h => h) (fun b h => .inl h)
    (fun b h => hat.hok.bound b (.inl h)) (fun jd o b hne hj hi => ⟨(hat.hok.atSome jd o b hj hi).1, fun _ => rfl⟩) (fun x hx _ => by cases hx) (fun x b hx _ => by cases hx)
  refine ⟨g1, ⟨g2.1, fun jd hj => ?_⟩, _, _, q1, fun t => (henv t).mono q2⟩
  by_cases hh : jd = id
  · subst hh; simp [upd]
  · simp only [upd, hh, if_false]; exact g2.2 jd hj

def ownNil (id v : Nat) : PV → PV
  | .d _ .nil => .own id v 0 0
  | x => x

/-- A nil slice is an object from now on. -/
theorem Gh.virtual (id : Nat) (hid : id < C.T) (ts : List Nat) (e : TypeId) : Gh C s ⟨setEnv s.env (ownNil id ((s.hp id).1 + 1)) ts, upd s.hp id ((s.hp id).1 + 1, some (.cells e []))⟩ := by
  intro a w ⟨g1, g2, ι, I, hat, henv⟩
  obtain ⟨q1, q2⟩ := hat.virtual id ((s.hp id).1 + 1) (by omega) e
  refine ⟨g1, ⟨g2.1, fun jd hj => ?_⟩, _, _, q1, fun t => ?_⟩
  · have hh : jd ≠ id := by omega
    simp only [upd, hh, if_false]; exact g2.2 jd hj
  · simp only [setEnv]
    split
    · have hv := henv t
      generalize s.env t = x at hv ⊢
      have h2 := hv.mono q2
      cases x with
      | d k y =>
        cases y with
        | nil =>
          cases hv with
          | d _ _ _ hv =>
            generalize a.tmps.getD t undef = u at *
            cases hv
            exact own_virtual
        | _ => exact h2
      | _ => exact h2
    · exact (henv t).mono q2

/-- The same for a nil in an object's row. -/
theorem Gh.virtual_cell (id : Nat) (hid : id < C.T) (e : TypeId) {jd v i : Nat} {et : TypeId} {row : List PV} (hne : jd ≠ id) (hj : s.hp jd = (v, some (.cells et row))) {k : Bool} (hi : row[i]? = some (.d k .nil)) :
    Gh C s ⟨s.env, upd (upd s.hp id ((s.hp id).1 + 1, some (.cells e []))) jd (v, some (.cells et (row.set i (.own id ((s.hp id).1 + 1) 0 0))))⟩ := by
  intro a w ⟨g1, g2, ι, I, hat, henv⟩
  obtain ⟨q1, q2⟩ := hat.virtual id ((s.hp id).1 + 1) (by omega) e
  have hj2 : (s.hp jd).2 = some (.cells et row) := by rw [hj]
  have hu : upd s.hp id ((s.hp id).1 + 1, some (.cells e [])) jd = (v, some (.cells et row)) := by simp [upd, hne, hj]
  have hrow : row ≠ [] := by rintro rfl; simp at hi
  obtain ⟨b, hb⟩ : ∃ b, ι jd = some b := by
    cases hb : ι jd with
    | none => obtain ⟨e', he⟩ := hat.hok.atNone jd _ hj2 hb; simp at he; exact absurd he.2 hrow
    | some b => exact ⟨b, rfl⟩
  have hb' : upd ι id none jd = some b := by simp [upd, hne, hb]
  obtain ⟨n1, n2, c, hc, hl, hr⟩ := q1.hok.atSome jd (.cells et row) b (congrArg Prod.snd hu) hb'
  obtain ⟨r1, r2⟩ := q1.change (w' := w) jd v (some (.cells et (row.set i (.own id ((s.hp id).1 + 1) 0 0)))) (some b) I (by rw [hu]; exact Nat.le_refl _)
    (fun hh x hx => by
      simp at hx; subst hx
      refine ⟨⟨_, by rw [hu], hb'.symm⟩, fun e' r' he => ?_⟩
      simp at he
      obtain ⟨rfl, _⟩ := he
      refine ⟨row, by rw [hu], fun b2 hb2 => ?_⟩
      have : b2 = b := by rw [hb'] at hb2; simpa using hb2.symm
      subst this
      exact ⟨c, c, hc, hc, rfl⟩)
    rfl rfl rfl (Nat.le_refl _) (fun b hb _ => rfl) (fun b h => h) (fun b h => .inl h)
    (fun b h => q1.hok.bound b (.inl h)) (fun kd o b2 hne2 hk hi2 => ⟨(q1.hok.atSome kd o b2 hk hi2).1, fun h => by
      exfalso
      have : b = b2 := by simpa using h
      subst this
      exact hne2 (q1.hok.inj kd jd o (.cells et row) b hk (congrArg Prod.snd hu) hi2 hb')⟩)
    (fun x hx h => by cases h)
    (fun x b2 hx hb2 => by
      simp at hx hb2; subst hx; subst hb2
      refine ⟨n1, n2, .inl ⟨_, by rw [hu], hb'⟩, fun E' L h1 h2 h3 => ⟨c, by rw [h1]; exact hc, by simpa using hl, fun k x hx => ?_⟩⟩
      rw [List.getElem?_set] at hx
      split at hx
      · rename_i hik
        subst hik
        split at hx <;> try (cases hx; done)
        simp at hx; subst hx
        obtain ⟨v1, v2⟩ := hr i _ hi
        refine ⟨?_, v2⟩
        cases v1 with
        | d _ _ _ hv =>
          generalize c.getD i undef = u at *
          cases hv
          exact own_virtual.mono L
      · obtain ⟨v1, v2⟩ := hr k x hx
        exact ⟨v1.mono L, v2⟩)
  refine ⟨g1, ⟨g2.1, fun kd hk => ?_⟩, _, _, r1, fun t => ((henv t).mono q2).mono r2⟩
  have h1 : kd ≠ jd := by
    rintro rfl
    have := g2.2 kd hk
    rw [hj2] at this; cases this
  have h2 : kd ≠ id := by omega
  simp only [upd, h1, h2, if_false]; exact g2.2 kd hk

end
end Go.Abs
