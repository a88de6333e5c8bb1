/- Rules by which a program lays a walk. No condition. -/
import Derived.Test.YtfhpoffgnpgagaaAbsY
set_option linter.unusedSimpArgs false
set_option linter.unusedVariables false
namespace Go.Abs

section
variable {C : Ctx} {Q Q' : Exit → ASt → Prop} {s : ASt} {next : ASt → Prop} {id id' l l' : Nat}

theorem thenA_n (h : next s) : thenA next Q .normal s := h
theorem thenA_e (h : Q (.exit id) s) : thenA next Q (.exit id) s := h
theorem thenA_g (h : Q (.goto l) s) : thenA next Q (.goto l) s := h
theorem thenA_r (h : Q .ret s) : thenA next Q .ret s := h
theorem blockA_n (h : Q .normal s) : blockA id Q .normal s := h
theorem blockA_r (h : Q .ret s) : blockA id Q .ret s := h
theorem blockA_g (h : Q (.goto l) s) : blockA id Q (.goto l) s := h
theorem blockA_h (h : Q .normal s) : blockA id Q (.exit id) s := by simp [blockA]; exact h
theorem blockA_m (hne : Nat.beq id' id = false) (h : Q (.exit id') s) : blockA id Q (.exit id') s := by
  have : id' ≠ id := by intro e; subst e; simp at hne
  simp [blockA, this]; exact h
theorem jumpA_n {J : ASt → Prop} (h : Q .normal s) : jumpA l J Q .normal s := h
theorem jumpA_r {J : ASt → Prop} (h : Q .ret s) : jumpA l J Q .ret s := h
theorem jumpA_e {J : ASt → Prop} (h : Q (.exit id) s) : jumpA l J Q (.exit id) s := h
theorem jumpA_h {J : ASt → Prop} (h : J s) : jumpA l J Q (.goto l) s := ⟨rfl, h⟩

theorem awp_ifL {c : Operand} {x y : Code} {k b : Bool} (hc : s.ev c = .d k (.bool b)) (h1 : ∀ x', x' = x → b = true → awp C x' Q s) (h2 : ∀ y', y' = y → b = false → awp C y' Q s) : awp C (.cond c x y) Q s := by
  refine awp_cond ?_
  simp only [condK, hc]
  exact ⟨h1 x rfl, h2 y rfl⟩
theorem awp_ifT {c : Operand} {x y : Code} {k b : Bool} (hc : s.ev c = .d k (.bool b)) (hb : b = true) (h1 : awp C x Q s) : awp C (.cond c x y) Q s := by
  subst hb
  refine awp_cond ?_
  simp only [condK, hc]
  exact ⟨fun _ => h1, (fun h => by cases h)⟩
theorem awp_ifF {c : Operand} {x y : Code} {k b : Bool} (hc : s.ev c = .d k (.bool b)) (hb : b = false) (h1 : awp C y Q s) : awp C (.cond c x y) Q s := by
  subst hb
  refine awp_cond ?_
  simp only [condK, hc]
  exact ⟨(fun h => by cases h), fun _ => h1⟩
theorem goL_fork {gs : List (Option Tmp)} {ops : List Oper} {K : ASt → Prop} (b : Bool) (h1 : b = true → goL C gs ops s K) (h2 : b = false → goL C gs ops s K) : goL C gs ops s K := by
  cases b
  · exact h2 rfl
  · exact h1 rfl
theorem goA_fork {gs : List (Option Tmp)} {ops : Array Oper} {l : List Oper} {acc : List (List Nat × List Nat)} {K : List (List Nat × List Nat) → ASt → Prop} (b : Bool) (h1 : b = true → goA C ops gs l s acc K) (h2 : b = false → goA C ops gs l s acc K) : goA C ops gs l s acc K := by
  cases b
  · exact h2 rfl
  · exact h1 rfl

/-- What one starts from. -/
def StartL (args : List PV) : List (Nat × PV) → Prop
  | [] => True
  | (a, x) :: l => args.getD a .dead = x ∧ StartL args l
theorem StartL.get {args : List PV} : ∀ {l : List (Nat × PV)}, StartL args l → ∀ t, envL l t = args.getD t .dead ∨ envL l t = .dead
  | [], _, t => .inr rfl
  | (a, x) :: l', h, t => by
    simp only [envL]
    cases hb : Nat.beq t a with
    | true => have := Nat.eq_of_beq_eq_true hb; subst this; exact .inl h.1.symm
    | false => exact h.2.get t
theorem awp_start {c : Code} {args : List PV} {hp : HP} {N : Nat} {l : List (Nat × PV)} (h : StartL args l) (hk : awp C c Q ⟨envL l, hpL N hp []⟩) : awp C c Q ⟨fun t => args.getD t .dead, hp⟩ :=
  awp_gh (Gh.forget (s := ⟨fun t => args.getD t .dead, hp⟩) h.get) hk
end

section
variable {C : Ctx} {N : Nat} {l : List (Nat × PV)} {gs : List (Option Tmp)} {rest : List Oper} {K : ASt → Prop} {ty : TypeId} {pos : String} {aft : Array Edge}
  {d : Nat} {fv : Operand} {as : Array Operand} {ats : Array TypeId} {f : FuncId} {first caps args args' : List PV} {r : PV}

/-- A call that leaves all as it was. -/
theorem goL_cp {h : HP} (hf : calleeP ((⟨envL l, h⟩ : ASt).ev fv) = some (f, first, caps)) (hargs : first ++ evs ⟨envL l, h⟩ as ++ caps = args) (hw : WkL args args') (he : enterOK C.E0.P f = true) (hd : dstOK C.n ⟨some d, .call ⟨.value fv, as, ats⟩, ty, pos, aft, none⟩ = true)
    (hA : ACalls C.E0.P f C.T args' h fun r' hp' => r' = r ∧ hp' = h) (hk : goL C gs rest ⟨envL ((d, r) :: l), h⟩ K) : goL C gs (⟨some d, .call ⟨.value fv, as, ats⟩, ty, pos, aft, none⟩ :: rest) ⟨envL l, h⟩ K := by
  rw [goL_call]
  refine ⟨hd, callL hf hargs he hd (ACalls.weak hw hA) ?_⟩
  rintro r' hp' ⟨rfl, rfl⟩
  simp only [ASt.put, envL_upd]; exact hk
/-- A call that turns one of this call's own objects. -/
theorem goL_co {hp : HP} {m : List (Nat × (Nat × Option AObj))} {d' : Nat} {o : Nat × Option AObj} (hf : calleeP ((⟨envL l, hpL N hp m⟩ : ASt).ev fv) = some (f, first, caps)) (hargs : first ++ evs ⟨envL l, hpL N hp m⟩ as ++ caps = args) (hw : WkL args args') (he : enterOK C.E0.P f = true) (hd : dstOK C.n ⟨some d, .call ⟨.value fv, as, ats⟩, ty, pos, aft, none⟩ = true)
    (hA : ACalls C.E0.P f C.T args' (hpL N hp m) fun r' hp' => r' = r ∧ hp' = upd (hpL N hp m) (N + d') o) (hk : goL C gs rest ⟨envL ((d, r) :: l), hpL N hp ((d', o) :: m)⟩ K) : goL C gs (⟨some d, .call ⟨.value fv, as, ats⟩, ty, pos, aft, none⟩ :: rest) ⟨envL l, hpL N hp m⟩ K := by
  rw [goL_call]
  refine ⟨hd, callL hf hargs he hd (ACalls.weak hw hA) ?_⟩
  rintro r' hp' ⟨rfl, rfl⟩
  simp only [ASt.put, envL_upd]; exact hk
/-- .. one of the caller's. -/
theorem goL_cc {hp : HP} {m : List (Nat × (Nat × Option AObj))} {id : Nat} {o : Nat × Option AObj} (hid : id < N) (hf : calleeP ((⟨envL l, hpL N hp m⟩ : ASt).ev fv) = some (f, first, caps)) (hargs : first ++ evs ⟨envL l, hpL N hp m⟩ as ++ caps = args) (hw : WkL args args') (he : enterOK C.E0.P f = true) (hd : dstOK C.n ⟨some d, .call ⟨.value fv, as, ats⟩, ty, pos, aft, none⟩ = true)
    (hA : ACalls C.E0.P f C.T args' (hpL N hp m) fun r' hp' => r' = r ∧ hp' = upd (hpL N hp m) id o) (hk : goL C gs rest ⟨envL ((d, r) :: l), hpL N (upd hp id o) m⟩ K) : goL C gs (⟨some d, .call ⟨.value fv, as, ats⟩, ty, pos, aft, none⟩ :: rest) ⟨envL l, hpL N hp m⟩ K := by
  rw [goL_call]
  refine ⟨hd, callL hf hargs he hd (ACalls.weak hw hA) ?_⟩
  rintro r' hp' ⟨rfl, rfl⟩
  simp only [ASt.put, envL_upd, hpL_updlow _ hid]; exact hk

end
end Go.Abs
namespace Go.Abs
/-- An aggregate's cells, one by one. -/
theorem exN {cs : List PD} {n : Nat} {f : PD → PV} (h : n ≤ cs.length) : (cs.take n).map f = (List.range n).map fun i => f (cs.getD i .nil) := by
  apply List.ext_getElem
  · simp [h]
  · intro i h1 h2
    have : i < cs.length := by simp at h1; omega
    simp [this]
section
variable {cs : List PD} {k : Bool}
theorem ex1 (h : 1 ≤ cs.length) : (cs.take 1).map (dk k) = [dk k (cs.getD 0 .nil)] := exN h
theorem ex2 (h : 2 ≤ cs.length) : (cs.take 2).map (dk k) = [dk k (cs.getD 0 .nil), dk k (cs.getD 1 .nil)] := exN h
theorem ex3 (h : 3 ≤ cs.length) : (cs.take 3).map (dk k) = [dk k (cs.getD 0 .nil), dk k (cs.getD 1 .nil), dk k (cs.getD 2 .nil)] := exN h
theorem ex4 (h : 4 ≤ cs.length) : (cs.take 4).map (dk k) = [dk k (cs.getD 0 .nil), dk k (cs.getD 1 .nil), dk k (cs.getD 2 .nil), dk k (cs.getD 3 .nil)] := exN h
theorem ex5 (h : 5 ≤ cs.length) : (cs.take 5).map (dk k) = [dk k (cs.getD 0 .nil), dk k (cs.getD 1 .nil), dk k (cs.getD 2 .nil), dk k (cs.getD 3 .nil), dk k (cs.getD 4 .nil)] := exN h
theorem ex6 (h : 6 ≤ cs.length) : (cs.take 6).map (dk k) = [dk k (cs.getD 0 .nil), dk k (cs.getD 1 .nil), dk k (cs.getD 2 .nil), dk k (cs.getD 3 .nil), dk k (cs.getD 4 .nil), dk k (cs.getD 5 .nil)] := exN h
theorem ex7 (h : 7 ≤ cs.length) : (cs.take 7).map (dk k) = [dk k (cs.getD 0 .nil), dk k (cs.getD 1 .nil), dk k (cs.getD 2 .nil), dk k (cs.getD 3 .nil), dk k (cs.getD 4 .nil), dk k (cs.getD 5 .nil), dk k (cs.getD 6 .nil)] := exN h
theorem exR1 (h : 1 ≤ cs.length) : (cs.take 1).map (PV.d true) = [PV.d true (cs.getD 0 .nil)] := exN h
theorem exR2 (h : 2 ≤ cs.length) : (cs.take 2).map (PV.d true) = [PV.d true (cs.getD 0 .nil), PV.d true (cs.getD 1 .nil)] := exN h
theorem exR3 (h : 3 ≤ cs.length) : (cs.take 3).map (PV.d true) = [PV.d true (cs.getD 0 .nil), PV.d true (cs.getD 1 .nil), PV.d true (cs.getD 2 .nil)] := exN h
theorem exR4 (h : 4 ≤ cs.length) : (cs.take 4).map (PV.d true) = [PV.d true (cs.getD 0 .nil), PV.d true (cs.getD 1 .nil), PV.d true (cs.getD 2 .nil), PV.d true (cs.getD 3 .nil)] := exN h
theorem exR5 (h : 5 ≤ cs.length) : (cs.take 5).map (PV.d true) = [PV.d true (cs.getD 0 .nil), PV.d true (cs.getD 1 .nil), PV.d true (cs.getD 2 .nil), PV.d true (cs.getD 3 .nil), PV.d true (cs.getD 4 .nil)] := exN h
theorem exR7 (h : 7 ≤ cs.length) : (cs.take 7).map (PV.d true) = [PV.d true (cs.getD 0 .nil), PV.d true (cs.getD 1 .nil), PV.d true (cs.getD 2 .nil), PV.d true (cs.getD 3 .nil), PV.d true (cs.getD 4 .nil), PV.d true (cs.getD 5 .nil), PV.d true (cs.getD 6 .nil)] := exN h
theorem cells_ad {ds : List PD} {cs : List PV} (h : ds.map (dk k) = cs) : cellsOf (.d k (.agg ds)) = some cs := by simp [cellsOf, h]
theorem cells_ar {ds cs : List PV} (h : ds = cs) : cellsOf (.agg ds) = some cs := by simp [cellsOf, h]
theorem Wk.aggR {ds cs : List PV} (h : ds = cs) : Wk (.agg ds) (.agg cs) := Wk.of_eq (by rw [h])
theorem app_D (R ds : List PD) : R.map (PV.d true) ++ ds.map (PV.d true) = (R ++ ds).map (PV.d true) := by simp
end
theorem st_sl_front {C : Ctx} {s : ASt} {d : Nat} {t e e' : TypeId} {x y : Operand} {k2 : Bool} {K : IntKind} {id v len sz : Nat} {row : List PV} {h : Int} (he : elemT C.E0.P t = some e) (hs : szOf C.E0.P e = sz) (h0 : 0 < sz) (hx : s.ev x = .own id v 0 len) (ho : s.hp id = (v, some (.cells e' row))) (hi : s.ev y = .d k2 (.int K h)) (hg : 0 ≤ (0 : Int) ∧ 0 ≤ h ∧ h ≤ (len : Nat)) :
    St C s (.slice t x none (some y) none) (some d) (.own id v 0 h.toNat) none := by
  have := st_sl_o (C := C) (s := s) (d := d) (t := t) (x := x) (lo := none) (hi := some y) (l := 0) (h := h) he hs h0 hx ho rfl (by simp [hi, optInt]) hg
  simpa using this
theorem conv_lst {P : Program} {hp : HP} {t u : TypeId} {y : PD} (h : isLst y = true) : fConv P hp t u (.d true y) = fBytes P hp t u (.d true y) := by
  rw [isLst_eq h]; rfl
end Go.Abs

namespace Go.Abs
section
variable {P : Program} {n N : Nat} {hp0 hp : HP} {X : Ext} {l : List (Nat × PV)} {m : List (Nat × (Nat × Option AObj))} {Q : Exit → ASt → Prop} {c : Code}
/-- A nil is an object from now on. -/
theorem Gh.truncL {C : Ctx} {d v : Nat} (q : Nat) {e : TypeId} {R : List PD} (ho : hpL N hp m (N + d) = (v, some (.cells e (R.map (PV.d true))))) : Gh C ⟨envL l, hpL N hp m⟩ ⟨envL l, hpL N hp ((d, (v, some (.cells e ((R.take q).map (PV.d true))))) :: m)⟩ := by
  have := Gh.trunc (C := C) (s := ⟨envL l, hpL N hp m⟩) (N + d) q ho
  rw [← List.map_take] at this; exact this

end
section
variable {C : Ctx} {N : Nat} {hp : HP} {l : List (Nat × PV)} {m : List (Nat × (Nat × Option AObj))} {Q : Exit → ASt → Prop} {c : Code}
/-- Several slots that hold one own slice. -/
def AllO (l : List (Nat × PV)) (x : PV) : List Nat → Prop
  | [] => True
  | t :: ts => envL l t = x ∧ AllO l x ts
def setL (x : PV) : List Nat → List (Nat × PV) → List (Nat × PV)
  | [], l => l
  | t :: ts, l => (t, x) :: setL x ts l
theorem setEnv_setL {l : List (Nat × PV)} {g : PV → PV} {x y : PV} (hg : g x = y) : ∀ {ts : List Nat}, AllO l x ts → setEnv (envL l) g ts = envL (setL y ts l)
  | [], _ => by funext t; simp [setEnv, setL]
  | t :: ts, h => by
    have ih := setEnv_setL hg h.2
    funext j
    have ihj := congrFun ih j
    simp only [setEnv, List.mem_cons, setL, envL] at ihj ⊢
    by_cases e : j = t
    · subst e; simp [h.1, hg]
    · have : Nat.beq j t = false := by
        cases h' : Nat.beq j t
        · rfl
        · exact absurd (Nat.eq_of_beq_eq_true h') e
      simp only [e, false_or, this, cond_false]; exact ihj
theorem Gh.frzs (ts : List Nat) {d v len : Nat} {e : TypeId} {row : List PV} {R : List PD} (hX : ∀ id, N ≤ id → (C.E0.hp id).2 = none) (ht : AllO l (.own (N + d) v 0 len) ts) (ho : hpL N hp m (N + d) = (v, some (.cells e row))) (hd : toDs row = some R) (hl : len * szOf C.E0.P e = R.length) :
    Gh C ⟨envL l, hpL N hp m⟩ ⟨envL (setL (.d true (.lst len R)) ts l), hpL N hp ((d, (v + 1, none)) :: m)⟩ := by
  have := Gh.freeze (C := C) (s := ⟨envL l, hpL N hp m⟩) (N + d) ts ho (hX _ (by omega)) hd
  have e2 : setEnv (envL l) (frzV (N + d) v (szOf C.E0.P e) R) ts = envL (setL (.d true (.lst len R)) ts l) := by
    refine setEnv_setL ?_ ht
    have h1 : 0 + len * szOf C.E0.P e ≤ R.length := by omega
    have h2 : List.take (len * szOf C.E0.P e) R = R := by rw [hl]; simp
    simp [frzV, frzD, h2, hl]
  rw [e2] at this
  exact this
theorem awp_frzs (ts : List Nat) {d v len : Nat} {e : TypeId} {row : List PV} {R : List PD} (hX : ∀ id, N ≤ id → (C.E0.hp id).2 = none) (ht : AllO l (.own (N + d) v 0 len) ts) (ho : hpL N hp m (N + d) = (v, some (.cells e row))) (hd : toDs row = some R) (hl : len * szOf C.E0.P e = R.length)
    (hk : awp C c Q ⟨envL (setL (.d true (.lst len R)) ts l), hpL N hp ((d, (v + 1, none)) :: m)⟩) : awp C c Q ⟨envL l, hpL N hp m⟩ := awp_gh (Gh.frzs ts hX ht ho hd hl) hk
theorem goL_ghc {C : Ctx} {s s' : ASt} {gs : List (Option Tmp)} {rest : List Oper} {K : ASt → Prop} {dst : Option Tmp} {fv : Operand} {as : Array Operand} {ats : Array TypeId} {ty : TypeId} {pos : String} {aft : Array Edge} (g : Gh C s s') (h : goL C gs (⟨dst, .call ⟨.value fv, as, ats⟩, ty, pos, aft, none⟩ :: rest) s' K) :
    goL C gs (⟨dst, .call ⟨.value fv, as, ats⟩, ty, pos, aft, none⟩ :: rest) s K := by
  rw [goL_call] at h ⊢
  exact ⟨h.1, callL_gh g h.2⟩
theorem goL_frzc (ts : List Nat) {d v len : Nat} {e : TypeId} {row : List PV} {R : List PD} (hX : ∀ id, N ≤ id → (C.E0.hp id).2 = none) (ht : AllO l (.own (N + d) v 0 len) ts) (ho : hpL N hp m (N + d) = (v, some (.cells e row))) (hd : toDs row = some R) (hl : len * szOf C.E0.P e = R.length)
    {gs : List (Option Tmp)} {rest : List Oper} {K : ASt → Prop} {dst : Option Tmp} {fv : Operand} {as : Array Operand} {ats : Array TypeId} {ty : TypeId} {pos : String} {aft : Array Edge}
    (hk : goL C gs (⟨dst, .call ⟨.value fv, as, ats⟩, ty, pos, aft, none⟩ :: rest) ⟨envL (setL (.d true (.lst len R)) ts l), hpL N hp ((d, (v + 1, none)) :: m)⟩ K) : goL C gs (⟨dst, .call ⟨.value fv, as, ats⟩, ty, pos, aft, none⟩ :: rest) ⟨envL l, hpL N hp m⟩ K := goL_ghc (Gh.frzs ts hX ht ho hd hl) hk
end
end Go.Abs
namespace Go.Abs
theorem goA_nil {C : Ctx} {ops : Array Oper} {gs : List (Option Tmp)} {s : ASt} {acc : List (List Nat × List Nat)} {K : List (List Nat × List Nat) → ASt → Prop} (h : K acc.reverse s) : goA C ops gs [] s acc K := h
end Go.Abs
namespace Go.Abs
def isNilD : PD → Bool | .nil => true | _ => false
def nilOK : PD → Bool | .nil => true | .lst n _ => decide (0 < n) | _ => false
theorem st_eqnil {C : Ctx} {s : ASt} {d : Nat} {t e yt : TypeId} {x y : Operand} {k k' : Bool} {p : PD} (he : elemT C.E0.P t = some e) (hx : s.ev x = .d k p) (hy : s.ev y = .d k' .nil) (hg : nilOK p = true) : St C s (.binOp .eql t x y yt) (some d) (.d true (.bool (isNilD p))) none := by
  refine .mk' rfl (binP C.E0.P .eql t (s.ev x) (s.ev y)) (fun _ _ _ => rfl) ?_ ?_ <;> rw [hx, hy] <;> cases p <;> simp [nilOK] at hg <;> simp [binP, binX, he, hg, eqOut, val, isNilD]
theorem st_nenil {C : Ctx} {s : ASt} {d : Nat} {t e yt : TypeId} {x y : Operand} {k k' : Bool} {p : PD} (he : elemT C.E0.P t = some e) (hx : s.ev x = .d k p) (hy : s.ev y = .d k' .nil) (hg : nilOK p = true) : St C s (.binOp .neq t x y yt) (some d) (.d true (.bool (!isNilD p))) none := by
  refine .mk' rfl (binP C.E0.P .neq t (s.ev x) (s.ev y)) (fun _ _ _ => rfl) ?_ ?_ <;> rw [hx, hy] <;> cases p <;> simp [nilOK] at hg <;> simp [binP, binX, he, hg, eqOut, val, isNilD]
theorem st_eqa {C : Ctx} {s : ASt} {d : Nat} {op : BinOp} {t yt : TypeId} {x y : Operand} {l : List (Nat × Nat)} {vx vy : PV} {ds es : List PD} {r : Bool} {v : PV} (hl : eqT C.E0.P t = some l) (hx : s.ev x = vx) (hy : s.ev y = vy) (hd : aggD vx = some ds) (he : aggD vy = some es) (hr : eqCells l ds es = some r)
    (hv : eqOut op r = (True, ⟨v, none⟩)) (hb : binP C.E0.P op t vx vy = binX C.E0.P op t vx vy) (hb' : binX C.E0.P op t vx vy = (match eqT C.E0.P t, aggD vx, aggD vy with
    | some l, some ds, some es => match eqCells l ds es with
      | some b => eqOut op b
      | none => no
    | _, _, _ => no)) : St C s (.binOp op t x y yt) (some d) v none := by
  refine .mk' rfl (binP C.E0.P op t (s.ev x) (s.ev y)) (fun _ _ _ => rfl) ?_ ?_ <;> rw [hx, hy, hb, hb'] <;> simp [hl, hd, he, hr, hv]
theorem eI {K : IntKind} {y : PD} (h : isI K y = true) : y = .int K (intD y) := by
  cases y <;> simp [isI] at h
  subst h; rfl
theorem eB {y : PD} (h : isB y = true) : y = .bool (boolD y) := by cases y <;> simp [isB] at h; rfl
theorem eS {y : PD} (h : isS y = true) : y = .str (strD y) := by cases y <;> simp [isS] at h; rfl
theorem exP {cs : List PD} {n : Nat} (h : n ≤ cs.length) : cs.take n = (List.range n).map fun i => cs.getD i .nil := by
  apply List.ext_getElem
  · simp [h]
  · intro i h1 h2
    have : i < cs.length := by simp at h1; omega
    simp [this]
theorem li1 {α : Type} {a b : α} (h : a = b) : [a] = [b] := by rw [h]
theorem li2 {α : Type} {a b : α} {l m : List α} (h : a = b) (k : l = m) : a :: l = b :: m := by rw [h, k]
end Go.Abs
