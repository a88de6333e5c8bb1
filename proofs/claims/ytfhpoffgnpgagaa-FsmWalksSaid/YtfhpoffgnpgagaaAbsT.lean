/- Ways out. No condition. -/
import Derived.Test.YtfhpoffgnpgagaaAbsS
set_option linter.unusedSimpArgs false
set_option linter.unusedVariables false
namespace Go.Abs

section
variable {P : Program} {n N : Nat} {hp h : HP} {env : Nat → PV} {X : Ext} {Q : PV → HP → Prop}

/-- A result that is data. -/
theorem ret_d {Q' : Exit → ASt → Prop} {t : Nat} {k : Bool} {x : PD} (hQ : ∀ s, retA (mkC n N P hp X) [.tmp t] Q .ret s → Q' .ret s) (ht : normP (env t) = .d k x) (hlow : ∀ id, id < N → h id = hp id) (hq : Q (.d k x) hp) : awp (mkC n N P hp X) .ret Q' ⟨env, h⟩ := by
  refine awp_ret (hQ _ ?_)
  simp only [rets, ht]
  exact finP_low hlow hq

/-- A number, a truth. -/
theorem ret_i {Q' : Exit → ASt → Prop} {t : Nat} {k : Bool} {K : IntKind} {z : Int} (hQ : ∀ s, retA (mkC n N P hp X) [.tmp t] Q .ret s → Q' .ret s) (ht : env t = .d k (.int K z)) (hlow : ∀ id, id < N → h id = hp id) (hq : Q (.d true (.int K z)) hp) : awp (mkC n N P hp X) .ret Q' ⟨env, h⟩ :=
  ret_d hQ (by rw [ht, normP_int]) hlow hq
theorem ret_b {Q' : Exit → ASt → Prop} {t : Nat} {k : Bool} {z : Bool} (hQ : ∀ s, retA (mkC n N P hp X) [.tmp t] Q .ret s → Q' .ret s) (ht : env t = .d k (.bool z)) (hlow : ∀ id, id < N → h id = hp id) (hq : Q (.d true (.bool z)) hp) : awp (mkC n N P hp X) .ret Q' ⟨env, h⟩ :=
  ret_d hQ (by rw [ht, normP_bool]) hlow hq

/-- A result that is an own slice: it is kept for good. -/
theorem ret_own {Q' : Exit → ASt → Prop} {t id v len : Nat} {e : TypeId} {row : List PV} (ds : List PD) (hQ : ∀ s, retA (mkC n N P hp X) [.tmp t] Q .ret s → Q' .ret s) (hX : ∀ id, N ≤ id → (hp id).2 = none) (hid : N ≤ id) (ht : env t = .own id v 0 len) (ho : h id = (v, some (.cells e row))) (hd : toDs row = some ds) (hl : len * szOf P e = ds.length)
    (hlow : ∀ id, id < N → h id = hp id) (hq : Q (.d true (.lst len ds)) hp) : awp (mkC n N P hp X) .ret Q' ⟨env, h⟩ := by
  refine awp_gh (Gh.freeze (s := ⟨env, h⟩) id [t] ho (hX id hid) hd) (ret_d (k := true) (x := .lst len ds) hQ ?_ ?_ hq)
  · have : 0 + len * szOf P e ≤ ds.length := by omega
    have e2 : List.take (len * szOf P e) ds = ds := by rw [hl]; simp
    simp only [setEnv, List.mem_singleton, if_true, ht, frzV, frzD, mkC_P, this, and_self, List.drop_zero, e2]
    rfl
  · intro jd hj
    have : jd ≠ id := by omega
    simp only [upd, this, if_false]
    exact hlow jd hj

theorem finP_to {s : ASt} {hp2 : HP} {r : PV} (h1 : ∀ id, id < N → s.hp id = hp2 id) (h2 : ∀ id, N ≤ id → hp2 id = hp id) (h3 : lowOK N hp hp2) (hl : locOK N r) (hq : Q r hp2) : finP (mkC n N P hp X) s r Q := by
  have e : cutN N hp s.hp = hp2 := by
    funext id
    by_cases hid : id < N
    · simp [cutN, hid, h1 id hid]
    · simp [cutN, hid, h2 id (by omega)]
  refine ⟨?_, hl, fun id hid => ?_⟩
  · simp only [mkC_N, mkC_hp, e]; exact hq
  · simp only [mkC_hp]
    rw [h1 id hid]
    exact h3 id hid

/-- No result; what has turned lies below. -/
theorem retA_none {s : ASt} {hp2 : HP} (h1 : ∀ id, id < N → s.hp id = hp2 id) (h2 : ∀ id, N ≤ id → hp2 id = hp id) (h3 : lowOK N hp hp2) (hq : Q (.d true (.tup [])) hp2) {e : Exit} (he : e = .normal ∨ e = .ret) : retA (mkC n N P hp X) [] Q e s := by
  have : retP (mkC n N P hp X) [] Q s := ⟨trivial, finP_to h1 h2 h3 trivial hq⟩
  rcases he with rfl | rfl <;> exact this

/-- Two own slices. -/
theorem ret_own2 {Q' : Exit → ASt → Prop} {t t' id id' v v' len len' : Nat} {e e' : TypeId} {row row' : List PV} (ds ds' : List PD) (hQ : ∀ s, retA (mkC n N P hp X) [.tmp t, .tmp t'] Q .ret s → Q' .ret s) (hX : ∀ id, N ≤ id → (hp id).2 = none) (hid : N ≤ id) (hid' : N ≤ id') (hne : id ≠ id') (htt : t ≠ t')
    (ht : env t = .own id v 0 len) (ht' : env t' = .own id' v' 0 len') (ho : h id = (v, some (.cells e row))) (ho' : h id' = (v', some (.cells e' row'))) (hd : toDs row = some ds) (hd' : toDs row' = some ds')
    (hl : len * szOf P e = ds.length) (hl' : len' * szOf P e' = ds'.length)
    (hlow : ∀ id, id < N → h id = hp id) (hq : Q (.d true (.tup [.lst len ds, .lst len' ds'])) hp) : awp (mkC n N P hp X) .ret Q' ⟨env, h⟩ := by
  refine awp_gh (Gh.freeze (s := ⟨env, h⟩) id [t] ho (hX id hid) hd) (awp_gh (Gh.freeze (v := v') (e := e') (row := row') id' [t'] ?_ (hX id' hid') hd') (awp_ret (hQ _ ?_)))
  · exact (upd_ne (f := h) _ hne.symm).trans ho'
  · have e1 : List.take (len * szOf P e) ds = ds := by rw [hl]; simp
    have e2 : List.take (len' * szOf P e') ds' = ds' := by rw [hl']; simp
    have c1 : 0 + len * szOf P e ≤ ds.length := by omega
    have c2 : 0 + len' * szOf P e' ≤ ds'.length := by omega
    simp only [retA, retP, resPs, resP, val, setEnv, List.mem_singleton, if_true, htt, htt.symm, if_false, ht, ht', frzV, frzD, mkC_P, c1, c2, and_self, List.drop_zero, e1, e2, toDs, toD, true_and, and_true]
    refine finP_low (fun jd hj => ?_) hq
    have n1 : jd ≠ id := by omega
    have n2 : jd ≠ id' := by omega
    simp only [upd, n1, n2, if_false]
    exact hlow jd hj

end

/-- Behind a piece an unseen step is taken. -/
theorem awp_thenGh {C : Ctx} {Q : Exit → ASt → Prop} {s : ASt} {x : Code} {R' : ASt → Prop} (R : ASt → Prop) (h : awp C x (thenA R Q) s) (k : ∀ s', R s' → ∃ s'', Gh C s' s'' ∧ R' s'') : awp C x (thenA R' Q) s := by
  refine awp_post h fun e s' q => ?_
  cases e with
  | normal => exact k s' q
  | _ => exact ⟨s', Gh.refl s', q⟩

/-- A scope whose label stands behind its first piece. -/
theorem awp_scope_seq {C : Ctx} {Q : Exit → ASt → Prop} {s : ASt} {x rest : Code} (l : Nat) (J : Nat → ASt → Prop) (hf : findLabel (.seq x (.seq (.label l) rest)) l = some (.seq .skip rest))
    (first : awp C x (thenA (fun s' => ∃ n, J n s') (jumpA l (fun s' => ∃ n, J n s') Q)) s)
    (pass : ∀ n s, J n s → awp C rest (jumpA l (fun s' => ∃ n', n' < n ∧ J n' s') Q) s) : awp C (.scope (.seq x (.seq (.label l) rest))) Q s := by
  refine awp_scope l J hf (awp_seq (awp_mono first fun e s' q => ?_)) (fun n s' hJ => awp_seq (awp_skip (pass n s' hJ)))
  cases e with
  | normal =>
    obtain ⟨n, hJ⟩ := q
    refine awp_seq (awp_label (awp_mono (pass n s' hJ) fun e s'' q => ?_))
    cases e with
    | goto l' => obtain ⟨rfl, n', _, hJ'⟩ := q; exact ⟨rfl, n', hJ'⟩
    | _ => exact q
  | _ => exact q

/-- A call in a plain region, by its contract. -/
theorem callL {C : Ctx} {s : ASt} {dst : Option Tmp} {fv : Operand} {as : Array Operand} {ats : Array TypeId} {ty : TypeId} {pos : String} {aft : Array Edge} {g : Option (Nat × Bool)} {gs : List (Option Tmp)} {rest : List Oper} {K : ASt → Prop}
    {f : FuncId} {first caps args : List PV} {Q : PV → HP → Prop} (hf : calleeP (s.ev fv) = some (f, first, caps)) (hargs : first ++ evs s as ++ caps = args) (he : enterOK C.E0.P f = true) (hd : dstOK C.n ⟨dst, .call ⟨.value fv, as, ats⟩, ty, pos, aft, g⟩ = true)
    (hA : ACalls C.E0.P f (C.T) args s.hp Q) (hK : ∀ r hp', Q r hp' → goL C gs rest ⟨(s.put dst r).env, hp'⟩ K) : CallL C s ⟨dst, .call ⟨.value fv, as, ats⟩, ty, pos, aft, g⟩ gs rest K := by
  subst hargs
  exact callStep rfl hf he hA hd hK

/-- Ahead of a call an unseen step can be taken. -/
theorem callL_gh {C : Ctx} {s s' : ASt} {o : Oper} {gs : List (Option Tmp)} {rest : List Oper} {K : ASt → Prop} (g : Gh C s s') (h : CallL C s' o gs rest K) : CallL C s o gs rest K :=
  fun a w r next Q hn => h a w (g a w r) next Q hn

theorem lowOK_upd {N : Nat} {hp : HP} {id v : Nat} {e : TypeId} {row : List PV} (h : locsOK N row) : lowOK N hp (upd hp id (v, some (.cells e row))) := by
  intro j hj
  by_cases hh : j = id
  · subst hh
    refine .inr fun e' r' hr => ?_
    simp [upd] at hr
    rw [← hr.2]; exact h
  · exact .inl (by simp [upd, hh])

theorem locsOK_d (N : Nat) : ∀ (l : List PV), (∀ x ∈ l, ∃ k d, x = .d k d) → locsOK N l
  | [], _ => trivial
  | x :: l, h => by
    obtain ⟨k, d, rfl⟩ := h x (by simp)
    exact ⟨trivial, locsOK_d N l fun y hy => h y (by simp [hy])⟩

theorem toDs_d (k : Bool) (f : Int → PD) (hf : ∀ n, toD (.d k (f n)) = some (f n)) : ∀ l : List Int, toDs ((l.map f).map (.d k)) = some (l.map f)
  | [] => rfl
  | n :: l => by simp only [List.map_cons, toDs, hf, toDs_d k f hf l]

theorem toDs_true : ∀ l : List PD, toDs (l.map (.d true)) = some l
  | [] => rfl
  | x :: l => by simp only [List.map_cons, toDs, toD, toDs_true l]

end Go.Abs
