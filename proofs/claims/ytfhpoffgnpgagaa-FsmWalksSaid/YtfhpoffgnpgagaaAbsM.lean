/- Contracts of calls. No condition. -/
import Derived.Test.YtfhpoffgnpgagaaAbsL
set_option linter.unusedSimpArgs false
set_option linter.unusedVariables false
namespace Go.Abs

/-- What a call finds that its walk never looks at. -/
structure Ext where
  ι : Nat → Option Nat
  I : Nat → Prop
  A : Nat → Prop
  w : World

def mkCn (n N T : Nat) (P : Program) (hp : HP) (X : Ext) (nm : Nat → Nat) (hnm : ∀ d, d < n → nm d < T) : Ctx := ⟨n, N, T, ⟨P, hp, X.ι, X.I, X.A, X.w.heap⟩, X.w, nm, hnm⟩

/-- The same, each object named by its own slot. -/
def mkC (n N : Nat) (P : Program) (hp : HP) (X : Ext) : Ctx := mkCn n N (N + n) P hp X (fun d => N + d) fun d h => by omega

/-- Function f, handed these: it returns, and Q of the result and of the objects. N: from here on there are none when it begins, nor any new one when it ends. -/
def ACalls (P : Program) (f : FuncId) (N : Nat) (args : List PV) (hp : HP) (Q : PV → HP → Prop) : Prop :=
  ∀ (X : Ext) (vs : Array Value), (∀ id, N ≤ id → (hp id).2 = none) → HOK ⟨P, hp, X.ι, X.I, X.A, X.w.heap⟩ → vs.size = args.length →
    (∀ (i : Nat) x, args[i]? = some x → V ⟨P, hp, X.ι, X.I, X.A, X.w.heap⟩ x (vs.getD i undef)) →
    Calls P f vs X.w fun e w' => ∃ ι' I' hp' r v, e = .returned v ∧ Q r hp' ∧ At (mkC 0 N P hp X) ι' I' hp' w' ∧ V ⟨P, hp', ι', I', X.A, w'.heap⟩ r v ∧ ∀ id, N ≤ id → hp' id = hp id

theorem ACalls.mono {P : Program} {f : FuncId} {N : Nat} {args : List PV} {hp : HP} {Q Q' : PV → HP → Prop} (h : ACalls P f N args hp Q) (hq : ∀ r hp', Q r hp' → Q' r hp') : ACalls P f N args hp Q' :=
  fun X vs h1 h2 h3 h4 => (h X vs h1 h2 h3 h4).mono fun _ _ ⟨ι', I', hp', r, v, e, q, k⟩ => ⟨ι', I', hp', r, v, e, hq r hp' q, k⟩

mutual
/-- A value as data, if it is. -/
def toD : PV → Option PD
  | .d true x => some x
  | .d false (.int k n) => some (.int k n)
  | .d false (.bool b) => some (.bool b)
  | .d false (.str s) => some (.str s)
  | .d false .nil => some .nil
  | .agg cs => (toDs cs).map .agg
  | _ => none
def toDs : List PV → Option (List PD)
  | [] => some []
  | x :: l => match toD x, toDs l with
    | some d, some r => some (d :: r)
    | _, _ => none
end

theorem toDs_length : ∀ (l : List PV) (ds : List PD), toDs l = some ds → ds.length = l.length
  | [], ds, h => by simp [toDs] at h; subst h; rfl
  | x :: l, ds, h => by
    simp only [toDs] at h
    split at h <;> try (cases h; done)
    rename_i d r _ hr
    simp at h; subst h
    simp [toDs_length l r hr]

theorem toDs_get : ∀ (l : List PV) (ds : List PD), toDs l = some ds → ∀ (i : Nat) x d, l[i]? = some x → ds[i]? = some d → toD x = some d
  | [], ds, h, i, x, d, hx, _ => by simp at hx
  | y :: l, ds, h, i, x, d, hx, hd => by
    simp only [toDs] at h
    split at h <;> try (cases h; done)
    rename_i d' r hy hr
    simp at h; subst h
    cases i with
    | zero => simp at hx hd; subst hx; subst hd; exact hy
    | succ i => exact toDs_get l r hr i x d (by simpa using hx) (by simpa using hd)

theorem toD_V {E : AEnv} {x : PV} {v : Value} (h : V E x v) : ∀ d, toD x = some d → VD E.I E.h d v := by
  induction h with
  | d k x v hv =>
    intro d hd
    cases k with
    | true => simp [toD] at hd; subst hd; exact hv
    | false => cases hv <;> simp [toD] at hd <;> subst hd <;> constructor
  | agg ds cs hl hv ih =>
    intro d hd
    simp only [toD] at hd
    cases hr : toDs ds with
    | none => simp [hr] at hd
    | some r =>
      simp [hr] at hd; subst hd
      have hlen := toDs_length ds r hr
      refine .agg r cs (by omega) fun i d' hd' => ?_
      have hi : i < ds.length := by rw [← hlen]; exact (List.getElem?_eq_some_iff.1 hd').1
      exact ih i ds[i] (by simp [hi]) d' (toDs_get ds r hr i ds[i] d' (by simp [hi]) hd')
  | own => intro d hd; simp [toD] at hd
  | ptr => intro d hd; simp [toD] at hd
  | fn => intro d hd; simp [toD] at hd
  | dead => intro d hd; simp [toD] at hd

def normP (x : PV) : PV := match toD x with | some d => .d true d | none => x

theorem normP_V {E : AEnv} {x : PV} {v : Value} (h : V E x v) : V E (normP x) v := by
  unfold normP
  split
  · rename_i d hd; exact .d true d v (toD_V h d hd)
  · exact h

/-- A handle on this frame's own objects: none such may stand in what goes out. -/
def locOK (N : Nat) : PV → Prop
  | .d _ _ => True
  | .own id _ _ _ => id < N
  | .ptr id _ _ => id < N
  | _ => False

def locsOK (N : Nat) : List PV → Prop
  | [] => True
  | x :: l => locOK N x ∧ locsOK N l

theorem locsOK_get {N : Nat} : ∀ (l : List PV), locsOK N l → ∀ (i : Nat) x, l[i]? = some x → locOK N x
  | [], _, i, x, hx => by simp at hx
  | y :: l, h, i, x, hx => by
    cases i with
    | zero => simp at hx; subst hx; exact h.1
    | succ i => exact locsOK_get l h.2 i x (by simpa using hx)

def cutN (N : Nat) (hp0 hp : HP) : HP := fun id => if id < N then hp id else hp0 id

theorem loc_V {P : Program} {hp hp0 : HP} {N : Nat} {ι : Nat → Option Nat} {I A : Nat → Prop} {h : Array Obj} {x : PV} {v : Value} (hx : locOK N x) (k : V ⟨P, hp, ι, I, A, h⟩ x v) : V ⟨P, cutN N hp0 hp, ι, I, A, h⟩ x v := by
  cases k with
  | d k x v hv => exact .d k x v (by cases k <;> exact hv)
  | own id ver off len v hv =>
    have hid : id < N := hx
    have e : cutN N hp0 hp id = hp id := by simp [cutN, hid]
    refine .own id ver off len v ?_
    unfold OwnOK at hv ⊢
    simp only [e]
    exact hv
  | ptr id ver off v hv =>
    have hid : id < N := hx
    have e : cutN N hp0 hp id = hp id := by simp [cutN, hid]
    refine .ptr id ver off v ?_
    unfold PtrOK at hv ⊢
    simp only [e]
    exact hv
  | fn => exact hx.elim
  | agg => exact hx.elim
  | dead => exact hx.elim

/-- An inherited object is as it was, or its row bears no handle of this frame's. -/
def lowOK (N : Nat) (hp0 hp : HP) : Prop := ∀ id, id < N → hp id = hp0 id ∨ ∀ e row, (hp id).2 = some (.cells e row) → locsOK N row

theorem At.cut {C : Ctx} {ι : Nat → Option Nat} {I : Nat → Prop} {hp : HP} {w : World} (k : At C ι I hp w) (hlow : lowOK C.N C.E0.hp hp) (htop : ∀ id, C.N ≤ id → (C.E0.hp id).2 = none) (h0 : HOK C.E0) (hh0 : C.E0.h = C.w0.heap) :
    At C ι I (cutN C.N C.E0.hp hp) w := by
  have hlt : ∀ id, id < C.N → cutN C.N C.E0.hp hp id = hp id := fun id h => by simp [cutN, h]
  have hge : ∀ id, C.N ≤ id → cutN C.N C.E0.hp hp id = C.E0.hp id := fun id h => by simp [cutN, Nat.not_lt.2 h]
  have live : ∀ id o, (cutN C.N C.E0.hp hp id).2 = some o → id < C.N ∧ (hp id).2 = some o := by
    intro id o ho
    rcases Nat.lt_or_ge id C.N with h | h
    · rw [hlt id h] at ho; exact ⟨h, ho⟩
    · rw [hge id h, htop id h] at ho; cases ho
  have le' : Le C.E0 ⟨C.E0.P, cutN C.N C.E0.hp hp, ι, I, C.E0.A, w.heap⟩ := by
    refine ⟨rfl, k.le.I, rfl, k.le.h, fun id => ?_, fun id hv o' ho' => ?_, fun id hv e r' ho' => ?_⟩
    · show (C.E0.hp id).1 ≤ (cutN C.N C.E0.hp hp id).1
      rcases Nat.lt_or_ge id C.N with h | h
      · rw [hlt id h]; exact k.le.ver id
      · rw [hge id h]; exact Nat.le_refl _
    · obtain ⟨h, h2⟩ := live id o' ho'
      simp only [hlt id h] at hv
      exact k.le.obj id hv o' h2
    · obtain ⟨h, h2⟩ := live id _ ho'
      simp only [hlt id h] at hv
      exact k.le.row id hv e r' h2
  refine ⟨⟨fun id o ho hn => ?_, fun id o b ho hi => ?_, fun id id' o o' b ho ho' hi hi' => ?_, k.hok.bound⟩, le', k.os, k.tape, k.output, k.size, k.keep, fun id o b ho hi hb => ?_, k.Inew⟩
  · exact k.hok.atNone id o (live id o ho).2 hn
  · obtain ⟨h, h2⟩ := live id o ho
    obtain ⟨n1, n2, n3⟩ := k.hok.atSome id o b h2 hi
    refine ⟨n1, n2, ?_⟩
    cases o with
    | iter s pos => exact n3
    | cells e row =>
      obtain ⟨c, hc, hl, hr⟩ := n3
      refine ⟨c, hc, hl, fun i x hx => ⟨?_, (hr i x hx).2⟩⟩
      rcases hlow id h with hs | hs
      · -- as it was: the cell lies as it lay, and what stood in it stood at the start
        have h2' : (C.E0.hp id).2 = some (.cells e row) := by rw [← hs]; exact h2
        obtain ⟨o0, ho0, hi0⟩ := k.le.obj id (by simp only [hs]) _ h2
        have hib : C.E0.ι id = some b := by rw [← hi0]; exact hi
        obtain ⟨_, _, c0, hc0, hl0, hr0⟩ := h0.atSome id _ b h2' hib
        have hv0 := (hr0 i x hx).1
        have hv1 := (hr i x hx).1
        have bd : ∀ (x : PV) (v0 v1 : Value), V C.E0 x v0 → V ⟨C.E0.P, hp, ι, I, C.E0.A, w.heap⟩ x v1 → V ⟨C.E0.P, cutN C.N C.E0.hp hp, ι, I, C.E0.A, w.heap⟩ x v1 := by
          intro x v0 v1 k0
          induction k0 generalizing v1 with
          | d kk y v hv => intro k1; cases k1 with | d _ _ _ hv1 => exact .d kk y v1 (by cases kk <;> exact hv1)
          | own jd ver off len v hv =>
            intro k1
            cases k1 with
            | own _ _ _ _ _ hv1 =>
              rcases Nat.lt_or_ge jd C.N with hj | hj
              · refine .own jd ver off len v1 ?_
                unfold OwnOK at hv1 ⊢
                simp only [hlt jd hj]
                exact hv1
              · refine .own jd ver off len v1 ⟨by simp only [hge jd hj]; exact hv.1, fun _ e' r' hr' => ?_⟩
                simp only [hge jd hj, htop jd hj] at hr'
                cases hr'
          | ptr jd ver off v hv =>
            intro k1
            cases k1 with
            | ptr _ _ _ _ hv1 =>
              rcases Nat.lt_or_ge jd C.N with hj | hj
              · refine .ptr jd ver off v1 ?_
                unfold PtrOK at hv1 ⊢
                simp only [hlt jd hj]
                exact hv1
              · refine .ptr jd ver off v1 ⟨by simp only [hge jd hj]; exact hv.1, fun _ o' hr' => ?_⟩
                simp only [hge jd hj, htop jd hj] at hr'
                cases hr'
          | fn f a b a' b' l1 l2 g1 g2 i1 i2 =>
            intro k1
            cases k1 with
            | fn _ _ _ a2 b2 m1 m2 q1 q2 => exact .fn f a b a2 b2 m1 m2 (fun i x hx => i1 i x hx _ (q1 i x hx)) (fun i x hx => i2 i x hx _ (q2 i x hx))
          | agg ds cs l1 g1 i1 =>
            intro k1
            cases k1 with
            | agg _ cs2 m1 q1 => exact .agg ds cs2 m1 fun i x hx => i1 i x hx _ (q1 i x hx)
          | dead v => intro _; exact .dead v1
        exact bd x _ _ hv0 hv1
      · exact loc_V (locsOK_get row (hs e row h2) i x hx) (hr i x hx).1
  · exact k.hok.inj id id' o o' b (live id o ho).2 (live id' o' ho').2 hi hi'
  · exact k.stay id o b (live id o ho).2 hi hb

/-- One result. -/
def resP (P : Program) (s : ASt) : ResultVar → Out
  | .tmp t => val (s.env t)
  | .cell x t => fLoad P s.hp t (s.env x)

def resPs (P : Program) (s : ASt) : List ResultVar → Prop × List PV
  | [] => (True, [])
  | r :: l => ((resP P s r).1 ∧ (resPs P s l).1, (resP P s r).2.x :: (resPs P s l).2)

/-- What goes out. -/
def finP (C : Ctx) (s : ASt) (r : PV) (Q : PV → HP → Prop) : Prop :=
  Q r (cutN C.N C.E0.hp s.hp) ∧ locOK C.N r ∧ lowOK C.N C.E0.hp s.hp

def retP (C : Ctx) (rs : List ResultVar) (Q : PV → HP → Prop) (s : ASt) : Prop :=
  match resPs C.E0.P s rs with
  | (c, [x]) => c ∧ finP C s (normP x) Q
  | (c, xs) => c ∧ match toDs xs with
    | some ds => finP C s (.d true (.tup ds)) Q
    | none => False

def retA (C : Ctx) (rs : List ResultVar) (Q : PV → HP → Prop) : Exit → ASt → Prop
  | .normal, s => retP C rs Q s
  | .ret, s => retP C rs Q s
  | _, _ => False

def resRun (tmps : Array Value) : ResultVar → Sem Value
  | .tmp t => pure (tmps.getD t undef)
  | .cell x t => do loadVar t (← asAddr (tmps.getD x undef))

theorem results_eq (fn : Func) (tmps : Array Value) : results fn tmps = (do let vs ← fn.results.mapM (resRun tmps); pure (if h : vs.size = 1 then vs[0] else .tuple vs)) := by
  unfold results
  congr 1

theorem resP_sound {C : Ctx} {s : ASt} {a : Act} {w : World} {ι : Nat → Option Nat} {I : Nat → Prop} (hat : At C ι I s.hp w) (henv : ∀ t, V ⟨C.E0.P, s.hp, ι, I, C.E0.A, w.heap⟩ (s.env t) (a.tmps.getD t undef))
    {r : ResultVar} (hc : (resP C.E0.P s r).1) : ∃ u, V ⟨C.E0.P, s.hp, ι, I, C.E0.A, w.heap⟩ (resP C.E0.P s r).2.x u ∧
      (resRun a.tmps r).run C.E0.P w = .ok u w := by
  cases r with
  | tmp t => exact ⟨_, henv t, rfl⟩
  | cell x t =>
    obtain ⟨_, u, hu, ad, hv, hr⟩ := fLoad_sound hat (henv x) hc
    refine ⟨u, hu, ?_⟩
    simp only [resRun, hv, Sem.run_bind, asAddr, Sem.run_pure, Result.andThen_ok, hr]

theorem resPs_sound {C : Ctx} {s : ASt} {a : Act} {w : World} {ι : Nat → Option Nat} {I : Nat → Prop} (hat : At C ι I s.hp w) (henv : ∀ t, V ⟨C.E0.P, s.hp, ι, I, C.E0.A, w.heap⟩ (s.env t) (a.tmps.getD t undef)) :
    ∀ (l : List ResultVar), (resPs C.E0.P s l).1 → ∃ us : List Value, us.length = l.length ∧ (∀ (i : Nat) x u, (resPs C.E0.P s l).2[i]? = some x → us[i]? = some u → V ⟨C.E0.P, s.hp, ι, I, C.E0.A, w.heap⟩ x u) ∧
      (l.mapM (resRun a.tmps)).run C.E0.P w = .ok us w
  | [], _ => ⟨[], rfl, by simp [resPs], by simp⟩
  | r :: l, hc => by
    obtain ⟨hc1, hc2⟩ := hc
    obtain ⟨u, hu, hr⟩ := resP_sound hat henv hc1
    obtain ⟨us, hl, hv, hm⟩ := resPs_sound hat henv l hc2
    refine ⟨u :: us, by simp [hl], fun i x v hx hv' => ?_, ?_⟩
    · cases i with
      | zero => simp [resPs] at hx hv'; subst hx; subst hv'; exact hu
      | succ i => exact hv i x v (by simpa [resPs] using hx) (by simpa using hv')
    · simp only [List.mapM_cons, Sem.run_bind, hr, Result.andThen_ok, hm, Sem.run_pure]

theorem resPs_length (P : Program) (s : ASt) : ∀ l, (resPs P s l).2.length = l.length
  | [] => rfl
  | r :: l => by simp [resPs, resPs_length P s l]

/-- THE BODY GIVES THE CONTRACT. -/
theorem acalls_body_nm {P : Program} {f : FuncId} {fn : Func} {c : Code} {rs : List ResultVar} (hf : P.funcs[f]? = some fn) (hb : fn.body = some c) (hrs : fn.results = rs.toArray) {n : Nat} (hn : fn.ntmps = n) {N : Nat} {args : List PV} (hl : args.length ≤ n) {T : Nat} (hT : N ≤ T) (nm : Nat → Nat) (hnm : ∀ d, d < n → nm d < T)
    {hp : HP} {Q : PV → HP → Prop} (h : ∀ X : Ext, (∀ id, N ≤ id → (hp id).2 = none) → awp (mkCn n N T P hp X nm hnm) c (retA (mkCn n N T P hp X nm hnm) rs Q) ⟨fun t => args.getD t .dead, hp⟩) : ACalls P f N args hp Q := by
  intro X vs htop hok hsz hv
  refine calls_of_wp hf hb ?_
  have hle := hok.le_refl
  have hat : At (mkCn n N T P hp X nm hnm) X.ι X.I hp X.w := ⟨hok, hle, rfl, rfl, rfl, Nat.le_refl _, fun _ _ _ => rfl, fun id o b ho hi _ => ⟨o, ho, hi⟩, fun b hb => .inl hb⟩
  have henv : ∀ t, V ⟨P, hp, X.ι, X.I, X.A, X.w.heap⟩ (args.getD t .dead) ((vs ++ Array.replicate (fn.ntmps - vs.size) undef).getD t undef) := by
    intro t
    cases ht : args[t]? with
    | none => simp only [List.getD, ht]; exact .dead _
    | some x =>
      have hlt : t < vs.size := by rw [hsz]; exact (List.getElem?_eq_some_iff.1 ht).1
      have : (vs ++ Array.replicate (fn.ntmps - vs.size) undef).getD t undef = vs.getD t undef := by
        rw [Array.getD_eq_getD_getElem?, Array.getD_eq_getD_getElem?, Array.getElem?_append_left hlt]
      rw [this]
      simp only [List.getD, ht]
      exact hv t x ht
  have hrel : Rel (mkCn n N T P hp X nm hnm) ⟨fun t => args.getD t .dead, hp⟩ { tmps := vs ++ Array.replicate (fn.ntmps - vs.size) undef, defers := [] } X.w :=
    ⟨rfl, ⟨by simp [mkCn]; omega, fun id hid => htop id (by simp [mkCn] at hid; omega)⟩, X.ι, X.I, hat, henv⟩
  have fin : ∀ s a' w', retP (mkCn n N T P hp X nm hnm) rs Q s → Rel (mkCn n N T P hp X nm hnm) s a' w' → a'.defers = [] ∧ ∃ v, (results fn a'.tmps).run P w' = .ok v w' ∧
      ∃ ι' I' hp' r v', Ending.returned v = .returned v' ∧ Q r hp' ∧ At (mkC 0 N P hp X) ι' I' hp' w' ∧ V ⟨P, hp', ι', I', X.A, w'.heap⟩ r v' ∧ ∀ id, N ≤ id → hp' id = hp id := by
    intro s a' w' hret hr
    obtain ⟨g1, g2, ι, I, hat', henv'⟩ := hr
    refine ⟨g1, ?_⟩
    have hcut : ∀ x u, V ⟨P, s.hp, ι, I, X.A, w'.heap⟩ x u → finP (mkCn n N T P hp X nm hnm) s x Q → ∃ ι' I' hp' r v', Ending.returned u = .returned v' ∧ Q r hp' ∧ At (mkC 0 N P hp X) ι' I' hp' w' ∧ V ⟨P, hp', ι', I', X.A, w'.heap⟩ r v' ∧ ∀ id, N ≤ id → hp' id = hp id := by
      intro x u hx hfin
      obtain ⟨q1, q2, q3⟩ := hfin
      have hc := hat'.cut q3 (fun id hid => htop id hid) hok rfl
      refine ⟨ι, I, cutN N hp s.hp, x, u, rfl, q1, ?_, loc_V q2 hx, fun id hid => by simp [cutN, Nat.not_lt.2 hid]⟩
      exact ⟨hc.hok, hc.le, hc.os, hc.tape, hc.output, hc.size, hc.keep, hc.stay, hc.Inew⟩
    have hc1 : (resPs P s rs).1 := by
      unfold retP at hret
      simp only [mkCn] at hret
      split at hret
      · rename_i c' x hh; rw [hh]; exact hret.1
      · rename_i c' xs _ hh; rw [hh]; exact hret.1
    obtain ⟨us, hul, huv, hum⟩ := resPs_sound hat' henv' rs hc1
    have hlen := resPs_length P s rs
    have hum' : (fn.results.mapM (resRun a'.tmps)).run P w' = .ok us.toArray w' := by
      rw [hrs, Array.mapM_eq_mapM_toList]
      simp only [Sem.run_map]
      have hum2 := hum
      simp only [mkCn] at hum2
      rw [hum2]; rfl
    have hres : (results fn a'.tmps).run P w' = .ok (if h : us.toArray.size = 1 then us.toArray[0] else .tuple us.toArray) w' := by
      rw [results_eq]
      simp only [Sem.run_bind]
      rw [hum']
      rfl
    refine ⟨_, hres, ?_⟩
    unfold retP at hret
    simp only [mkCn] at hret
    split at hret
    · rename_i c' x hh
      have h1 : us.length = 1 := by rw [hul, ← hlen, hh]; rfl
      have h2 : us.toArray.size = 1 := by simpa using h1
      rw [dif_pos h2]
      have hx : V ⟨P, s.hp, ι, I, X.A, w'.heap⟩ x us.toArray[0] := by
        refine huv 0 x _ ?_ ?_
        · simp only [mkCn]; rw [hh]; rfl
        · have h3 : 0 < us.length := by omega
          simp [h3]
      exact hcut _ _ (normP_V hx) hret.2
    · rename_i c' xs hne hh
      obtain ⟨_, hret⟩ := hret
      split at hret <;> try (exact hret.elim)
      rename_i ds hds
      have h2 : ¬ us.toArray.size = 1 := by
        intro h
        have : xs.length = 1 := by
          have := congrArg (fun p => p.2.length) hh
          simp only at this
          rw [← this, hlen, ← hul]; simpa using h
        obtain ⟨x, rfl⟩ := List.length_eq_one_iff.1 this
        exact hne x rfl
      rw [dif_neg h2]
      refine hcut (.d true (.tup ds)) _ (.d true _ _ (.tup ds _ ?_ fun i d hd => ?_)) hret
      · have e1 := toDs_length xs ds hds
        have e2 := congrArg (fun p => p.2.length) hh
        simp only at e2
        simp [hul]; omega
      · have e1 := toDs_length xs ds hds
        have e2 := congrArg (fun p => p.2.length) hh
        simp only at e2
        have hi : i < ds.length := (List.getElem?_eq_some_iff.1 hd).1
        have hi2 : i < us.length := by omega
        have hi3 : i < xs.length := by omega
        have : us.toArray.getD i undef = us[i] := by rw [Array.getD_eq_getD_getElem?]; simp [hi2]
        rw [this]
        have hx := huv i xs[i] us[i] (by simp only [mkCn]; rw [hh]; simp [hi3]) (by simp [hi2])
        exact toD_V hx d (toDs_get xs ds hds i xs[i] d (by simp [hi3]) hd)
  refine wp_mono (h X htop _ _ hrel) fun e a' w' ⟨s', q, r'⟩ => ?_
  cases e with
  | normal => exact fin s' a' w' q r'
  | ret => exact fin s' a' w' q r'
  | exit id => exact q.elim
  | goto l => exact q.elim
  | panic ch => exact q.elim
  | outgrown => exact q.elim

theorem acalls_body {P : Program} {f : FuncId} {fn : Func} {c : Code} {rs : List ResultVar} (hf : P.funcs[f]? = some fn) (hb : fn.body = some c) (hrs : fn.results = rs.toArray) {n : Nat} (hn : fn.ntmps = n) {N : Nat} {args : List PV} (hl : args.length ≤ n)
    {hp : HP} {Q : PV → HP → Prop} (h : ∀ X : Ext, (∀ id, N ≤ id → (hp id).2 = none) → awp (mkC n N P hp X) c (retA (mkC n N P hp X) rs Q) ⟨fun t => args.getD t .dead, hp⟩) : ACalls P f N args hp Q :=
  acalls_body_nm hf hb hrs hn hl (T := N + n) (Nat.le_add_right _ _) (fun d => N + d) (fun d h => by omega) h

/-- May function f be entered? -/
def enterOK (P : Program) (f : FuncId) : Bool :=
  match P.funcs[f]? with
  | some fn => fn.body.isSome && !(fn.name == "runtime.NumGoroutine")
  | none => false

theorem enterOK_run {P : Program} {f : FuncId} (h : enterOK P f = true) (args : Array Value) (w : World) : (callFunc f args).run P w = .ok (.enter f args) w := by
  unfold enterOK at h
  split at h
  · rename_i fn hf
    simp only [Bool.and_eq_true, Bool.not_eq_true'] at h
    obtain ⟨h1, h2⟩ := h
    obtain ⟨c, hb⟩ := Option.isSome_iff_exists.1 h1
    have h3 : ¬ fn.name = "runtime.NumGoroutine" := by simpa using h2
    simp [callFunc, hf, h3, hb]
  · cases h

/-- What a call's operand calls: which function, with what ahead of and behind the arguments. -/
def calleeP : PV → Option (FuncId × List PV × List PV)
  | .fn f first caps => some (f, first, caps)
  | _ => none

theorem V_list {E : AEnv} {l : List PV} {a : Array Value} (hl : l.length = a.size) (h : ∀ (i : Nat) x, l[i]? = some x → V E x (a.getD i undef)) {m : List PV} {b : Array Value} (hm : m.length = b.size) (k : ∀ (i : Nat) x, m[i]? = some x → V E x (b.getD i undef)) :
    ∀ (i : Nat) x, (l ++ m)[i]? = some x → V E x ((a ++ b).getD i undef) := by
  intro i x hx
  rw [List.getElem?_append] at hx
  split at hx
  · rename_i hi
    rw [Array.getD_eq_getD_getElem?, Array.getElem?_append_left (by omega), ← Array.getD_eq_getD_getElem?]
    exact h i x hx
  · rename_i hi
    rw [Array.getD_eq_getD_getElem?, Array.getElem?_append_right (by omega), ← Array.getD_eq_getD_getElem?, ← hl]
    exact k _ x hx

/-- A call by its contract. -/
theorem callStep {C : Ctx} {s : ASt} {o : Oper} {fv : Operand} {as : Array Operand} {ats : Array TypeId} (ho : o.op = .call { callee := .value fv, args := as, argTypes := ats }) {f : FuncId} {first caps : List PV}
    (hf : calleeP (s.ev fv) = some (f, first, caps)) (he : enterOK C.E0.P f = true) {Q : PV → HP → Prop} (hA : ACalls C.E0.P f (C.T) (first ++ evs s as ++ caps) s.hp Q) (hd : dstOK C.n o = true)
    {K : ASt → Prop} (hK : ∀ r hp', Q r hp' → K ⟨(s.put o.dst r).env, hp'⟩) : CallStep C s o K := by
  intro a w r next Q' hnext
  obtain ⟨h1, h2, ι, I, hat, henv⟩ := r
  have hfv := V_ev henv fv
  unfold calleeP at hf
  split at hf <;> try (cases hf; done)
  rename_i f' first' caps' hev
  simp only [Option.some.injEq, Prod.mk.injEq] at hf
  obtain ⟨rfl, rfl, rfl⟩ := hf
  rw [hev] at hfv
  generalize hfe : a.eval fv = vf at hfv
  cases hfv with
  | fn _ _ _ fa ca l1 l2 g1 g2 =>
    have hrun : (execOp a.eval o).run C.E0.P w = .ok (.enter f' (fa ++ as.map a.eval ++ ca)) w := by
      have := enterOK_run he (fa ++ as.map a.eval ++ ca) w
      simp only [execOp, ho, resolve, hfe, Deferred.ofValue, Sem.run_bind, Sem.run_pure, Result.andThen_ok, invoke, this]
    unfold Oper.wp
    rw [hrun, Oper.upon_enter]
    have hargs : ∀ (i : Nat) x, (evs s as)[i]? = some x → V ⟨C.E0.P, s.hp, ι, I, C.E0.A, w.heap⟩ x ((as.map a.eval).getD i undef) := by
      intro i x hx
      simp only [evs, List.getElem?_map] at hx
      cases hy : as.toList[i]? with
      | none => simp [hy] at hx
      | some y =>
        simp [hy] at hx; subst hx
        have hy' : as[i]? = some y := by simpa using hy
        have : (as.map a.eval).getD i undef = a.eval y := by rw [Array.getD_eq_getD_getElem?]; simp [hy']
        rw [this]; exact V_ev henv y
    have hall := V_list (l := first' ++ evs s as) (a := fa ++ as.map a.eval) (by simp [evs, l1]) (V_list l1 g1 (by simp [evs]) hargs) l2 g2
    have hcall := hA ⟨ι, I, C.E0.A, w⟩ (fa ++ as.map a.eval ++ ca) h2.2 hat.hok (by simp [evs, l1, l2]) hall
    refine hcall.mono fun e w' hh => ?_
    obtain ⟨ι', I', hp', r, v, rfl, hq, hat', hv, htop'⟩ := hh
    simp only
    refine hnext _ _ _ (hK r hp' hq) ?_
    have hatC : At C ι' I' hp' w' := by
      refine ⟨hat'.hok, hat.le.trans hat'.le, hat'.os.trans hat.os, hat'.tape.trans hat.tape, hat'.output.trans hat.output, Nat.le_trans hat.size hat'.size, fun b hb hn => ?_, fun id o b ho hi hb => ?_, fun b hb => ?_⟩
      · refine (hat'.keep b (Nat.lt_of_lt_of_le hb hat.size) fun id o ho hi => ?_).trans (hat.keep b hb hn)
        obtain ⟨o0, g1, g2⟩ := hat.stay id o b ho hi hb
        exact hn id o0 g1 g2
      · obtain ⟨o1, g1, g2⟩ := hat'.stay id o b ho hi (Nat.lt_of_lt_of_le hb hat.size)
        exact hat.stay id o1 b g1 g2 hb
      · rcases hat'.Inew b hb with h | h
        · exact hat.Inew b h
        · exact .inr (Nat.le_trans hat.size h)
    have hle' : Le ⟨C.E0.P, s.hp, ι, I, C.E0.A, w.heap⟩ ⟨C.E0.P, hp', ι', I', C.E0.A, w'.heap⟩ := hat'.le
    have ee : (s.put o.dst r).env = ((⟨s.env, hp'⟩ : ASt).put o.dst r).env := by cases o.dst <;> rfl
    refine ⟨(put_defers a o.dst v).trans h1, ⟨(put_size a o.dst v).trans h2.1, fun id hid => by show (hp' id).2 = none; rw [htop' id hid]; exact h2.2 id hid⟩, ι', I', hatC, ?_⟩
    have := env_put (s := ⟨s.env, hp'⟩) (dst := o.dst) h2.1 (dstOK.out hd) (fun t => (henv t).mono hle') hv
    simpa [ee] using this

end Go.Abs
