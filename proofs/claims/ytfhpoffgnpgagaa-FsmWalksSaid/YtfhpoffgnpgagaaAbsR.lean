/- Walking by rewriting. No condition. -/
import Derived.Test.YtfhpoffgnpgagaaAbsQ
set_option linter.unusedSimpArgs false
set_option linter.unusedVariables false
namespace Go.Abs

def wantG (gs : List (Option Tmp)) (s : ASt) (j : Nat) (w : Bool) : Option Bool :=
  match gs[j]? with
  | some (some t) => match s.env t with
    | .d _ (.bool b) => some b
    | .d _ (.tup []) => some (!w)
    | _ => none
  | _ => none

def goL (C : Ctx) (gs : List (Option Tmp)) : List Oper → ASt → (ASt → Prop) → Prop
  | [], s, K => K s
  | o :: rest, s, K => dstOK C.n o = true ∧ match o.guard with
    | none => stepK C s o fun s' => goL C gs rest s' K
    | some (j, w) => match wantG gs s j w with
      | some b => (b = w → stepK C s o fun s' => goL C gs rest s' K) ∧ (b = !w → goL C gs rest (s.put o.dst und) K)
      | none => False

theorem stepK_mono {C : Ctx} {s : ASt} {o : Oper} {K K' : ASt → Prop} (hk : ∀ s', K s' → K' s') (h : stepK C s o K) : stepK C s o K' := by
  unfold stepK at h ⊢
  split at h
  · exact fun a w r next Q hn => h a w r next Q fun s' a' w' k r' => hn s' a' w' (hk s' k) r'
  · exact ⟨h.1, hk _ h.2⟩

theorem goL_goOps {C : Ctx} {ops : Array Oper} {K : ASt → Prop} : ∀ (l : List Oper) (s : ASt), goL C (ops.toList.map (·.dst)) l s K → goOps C ops l s K
  | [], _, h => h
  | o :: rest, s, h => by
    obtain ⟨hd, h⟩ := h
    refine ⟨hd, ?_⟩
    unfold wantP
    cases hg : o.guard with
    | none =>
      simp only [hg] at h ⊢
      exact ⟨fun _ => stepK_mono (fun s' h => goL_goOps rest s' h) h, fun h => by cases h⟩
    | some g =>
      obtain ⟨j, w⟩ := g
      simp only [hg, wantG, List.getElem?_map] at h
      have e : ops.toList[j]? = ops[j]? := by simp
      rw [e] at h
      cases hj : ops[j]? with
      | none => simp [hj] at h
      | some o' =>
        simp only [hj, Option.map_some] at h
        cases hd' : o'.dst with
        | none => simp [hd'] at h
        | some t =>
          simp only [hd'] at h
          simp only [hj, Option.bind_some, hd']
          cases hx : s.env t with
          | d k y =>
            cases y with
            | bool b =>
              simp only [hx] at h ⊢
              refine ⟨fun hb => stepK_mono (fun s' h => goL_goOps rest s' h) (h.1 (by simpa using hb)), fun hb => goL_goOps rest _ (h.2 ?_)⟩
              cases b <;> cases w <;> simp at hb ⊢
            | tup l =>
              cases l with
              | nil =>
                simp only [hx] at h ⊢
                exact ⟨(fun hb => by cases hb), fun _ => goL_goOps rest _ (h.2 trivial)⟩
              | cons _ _ => simp [hx] at h
            | _ => simp [hx] at h
          | _ => simp [hx] at h

section
variable {C : Ctx} {Q : Exit → ASt → Prop} {s : ASt}

/-- A region, what is behind it hidden. -/
theorem awp_regionL {id : Nat} {ops : Array Oper} {y : Code} (h : ∀ y', y' = y → goL C (ops.toList.map (·.dst)) ops.toList s (awp C y' Q)) : awp C (.seq (.region id ops false) y) Q s := by
  refine awp_seq (awp_region (goL_goOps _ _ ?_))
  exact h y rfl

theorem awp_regionL1 {id : Nat} {ops : Array Oper} (h : goL C (ops.toList.map (·.dst)) ops.toList s (Q .normal)) : awp C (.region id ops false) Q s := awp_region (goL_goOps _ _ h)

/-- A condition, its branches hidden. -/
theorem awp_condL {c : Operand} {x y : Code} (h : ∀ x' y', x' = x → y' = y → condK s c (awp C x' Q s) (awp C y' Q s)) : awp C (.cond c x y) Q s := awp_cond (h x y rfl rfl)

theorem awp_hide {x y : Code} (h : ∀ y', y' = y → awp C x (thenA (awp C y' Q) Q) s) : awp C (.seq x y) Q s := awp_seq (h y rfl)

theorem awp_seq_ret {x : Code} (h : awp C x (thenA (Q .ret) Q) s) : awp C (.seq x .ret) Q s :=
  awp_seq (awp_mono h fun e s' q => by cases e <;> first | exact awp_ret q | exact q)

end

/-- A call, what is behind it wrapped up. -/
def CallL (C : Ctx) (s : ASt) (o : Oper) (gs : List (Option Tmp)) (rest : List Oper) (K : ASt → Prop) : Prop := CallStep C s o fun s' => goL C gs rest s' K

section
variable {C : Ctx} {gs : List (Option Tmp)} {s : ASt} {K : ASt → Prop} {ty : TypeId} {pos : String} {aft : Array Edge} {rest : List Oper}

theorem goL_nil : goL C gs [] s K = K s := rfl

theorem dstOK_some {n d : Nat} {op : Op} {g} : (dstOK n ⟨some d, op, ty, pos, aft, g⟩ = true) = (d < n) := by simp [dstOK]
theorem dstOK_none {n : Nat} {op : Op} {g} : (dstOK n ⟨none, op, ty, pos, aft, g⟩ = true) = (0 < n) := by simp [dstOK]

theorem goL_guard {dst : Option Tmp} {op : Op} {j : Nat} {w : Bool} : goL C gs (⟨dst, op, ty, pos, aft, some (j, w)⟩ :: rest) s K =
    match wantG gs s j w with
    | some b => (b = w → goL C gs (⟨dst, op, ty, pos, aft, none⟩ :: rest) s K) ∧ (b = !w → dstOK C.n ⟨dst, op, ty, pos, aft, none⟩ = true ∧ goL C gs rest (s.put dst und) K)
    | none => False := by
  have e : dstOK C.n ⟨dst, op, ty, pos, aft, some (j, w)⟩ = dstOK C.n ⟨dst, op, ty, pos, aft, none⟩ := rfl
  have e2 : ∀ K, stepK C s ⟨dst, op, ty, pos, aft, some (j, w)⟩ K = stepK C s ⟨dst, op, ty, pos, aft, none⟩ K := by
    intro K; unfold stepK; rfl
  simp only [goL, e, e2]
  cases wantG gs s j w with
  | none => simp
  | some b => cases b <;> cases w <;> simp

theorem goL_step {dst : Option Tmp} {op : Op} (h : ∀ f as ats, op ≠ .call ⟨.value f, as, ats⟩) : goL C gs (⟨dst, op, ty, pos, aft, none⟩ :: rest) s K =
    (dstOK C.n ⟨dst, op, ty, pos, aft, none⟩ = true ∧ (fstep C.E0.P C.nm s ⟨dst, op, ty, pos, aft, none⟩).1 ∧ goL C gs rest (s.app dst (fstep C.E0.P C.nm s ⟨dst, op, ty, pos, aft, none⟩).2) K) := by
  simp only [goL]
  unfold stepK
  split
  · rename_i f as ats he; exact absurd he (h _ _ _)
  · rfl

theorem goL_move {d : Nat} {x : Operand} : goL C gs (⟨some d, .move x, ty, pos, aft, none⟩ :: rest) s K = (d < C.n ∧ goL C gs rest ⟨upd s.env d (s.ev x), s.hp⟩ K) := by
  rw [goL_step (by simp), dstOK_some]; simp [fstep, val, ASt.app, ASt.put]
theorem goL_assign {d : Nat} {x : Operand} : goL C gs (⟨some d, .assign x, ty, pos, aft, none⟩ :: rest) s K = (d < C.n ∧ goL C gs rest ⟨upd s.env d (s.ev x), s.hp⟩ K) := by
  rw [goL_step (by simp), dstOK_some]; simp [fstep, val, ASt.app, ASt.put]

/-- An outcome, taken in. -/
def outL (C : Ctx) (gs : List (Option Tmp)) (rest : List Oper) (s : ASt) (dst : Option Tmp) (K : ASt → Prop) (o : Out) : Prop := o.1 ∧ goL C gs rest (s.app dst o.2) K

theorem outL_val {x : PV} {d : Nat} : outL C gs rest s (some d) K (val x) = goL C gs rest ⟨upd s.env d x, s.hp⟩ K := by simp [outL, val, ASt.app, ASt.put]
theorem outL_valIf {c : Prop} {x : PV} {d : Nat} : outL C gs rest s (some d) K (valIf c x) = (c ∧ goL C gs rest ⟨upd s.env d x, s.hp⟩ K) := by simp [outL, valIf, ASt.app, ASt.put]
theorem outL_none {c : Prop} {x : PV} {d : Nat} : outL C gs rest s (some d) K (c, ⟨x, none⟩) = (c ∧ goL C gs rest ⟨upd s.env d x, s.hp⟩ K) := by simp [outL, ASt.app, ASt.put]
theorem outL_some {c : Prop} {x : PV} {d id ver : Nat} {o : Option AObj} : outL C gs rest s (some d) K (c, ⟨x, some (id, ver, o)⟩) = (c ∧ goL C gs rest ⟨upd s.env d x, upd s.hp id (ver, o)⟩ K) := by simp [outL, ASt.app, ASt.put]
theorem outL_none0 {c : Prop} {x : PV} : outL C gs rest s none K (c, ⟨x, none⟩) = (c ∧ goL C gs rest s K) := by simp [outL, ASt.app, ASt.put]
theorem outL_some0 {c : Prop} {x : PV} {id ver : Nat} {o : Option AObj} : outL C gs rest s none K (c, ⟨x, some (id, ver, o)⟩) = (c ∧ goL C gs rest ⟨s.env, upd s.hp id (ver, o)⟩ K) := by simp [outL, ASt.app, ASt.put]
theorem outL_no {dst : Option Tmp} : outL C gs rest s dst K no = False := by simp [outL, no]

theorem goL_pick {d : Nat} {c a b : Operand} : goL C gs (⟨some d, .pick c a b, ty, pos, aft, none⟩ :: rest) s K = (d < C.n ∧ outL C gs rest s (some d) K (fPick (s.ev c) (s.ev a) (s.ev b))) := by
  rw [goL_step (by simp), dstOK_some]; rfl
theorem goL_alloc {d : Nat} {e : TypeId} : goL C gs (⟨some d, .alloc e, ty, pos, aft, none⟩ :: rest) s K = (d < C.n ∧ outL C gs rest s (some d) K (fAlloc C.E0.P s.hp e (C.nm d))) := by
  rw [goL_step (by simp), dstOK_some]; rfl
theorem goL_box {d : Nat} {e : TypeId} {x : Operand} : goL C gs (⟨some d, .box e x, ty, pos, aft, none⟩ :: rest) s K = (d < C.n ∧ outL C gs rest s (some d) K (fBox s.hp e (s.ev x) (C.nm d))) := by
  rw [goL_step (by simp), dstOK_some]; rfl
theorem goL_build {d : Nat} {t : TypeId} {ps : Array (Nat × Operand)} : goL C gs (⟨some d, .build t ps, ty, pos, aft, none⟩ :: rest) s K = (d < C.n ∧ outL C gs rest s (some d) K (fBuild C.E0.P s.hp t (ps.toList.map fun p => (p.1, s.ev p.2)))) := by
  rw [goL_step (by simp), dstOK_some]; rfl
theorem goL_buildSlice {d : Nat} {t : TypeId} {n : Nat} {ps : Array (Nat × Operand)} : goL C gs (⟨some d, .buildSlice t n ps, ty, pos, aft, none⟩ :: rest) s K = (d < C.n ∧ outL C gs rest s (some d) K (fBuildSlice C.E0.P s.hp t n (ps.toList.map fun p => (p.1, s.ev p.2)) (C.nm d))) := by
  rw [goL_step (by simp), dstOK_some]; rfl
theorem goL_load {d : Nat} {t : TypeId} {x : Operand} : goL C gs (⟨some d, .load t x, ty, pos, aft, none⟩ :: rest) s K = (d < C.n ∧ outL C gs rest s (some d) K (fLoad C.E0.P s.hp t (s.ev x))) := by
  rw [goL_step (by simp), dstOK_some]; rfl
theorem goL_store {dst : Option Tmp} {t : TypeId} {p x : Operand} : goL C gs (⟨dst, .store t p x, ty, pos, aft, none⟩ :: rest) s K = (dstOK C.n ⟨dst, .store t p x, ty, pos, aft, none⟩ = true ∧ outL C gs rest s dst K (fStore C.E0.P s.hp t (s.ev p) (s.ev x))) := by
  rw [goL_step (by simp)]; rfl
theorem goL_nilCheck {dst : Option Tmp} {x : Operand} : goL C gs (⟨dst, .nilCheck x, ty, pos, aft, none⟩ :: rest) s K = (dstOK C.n ⟨dst, .nilCheck x, ty, pos, aft, none⟩ = true ∧ outL C gs rest s dst K (fNil s.hp (s.ev x))) := by
  rw [goL_step (by simp)]; rfl
theorem goL_binOp {d : Nat} {op : BinOp} {t u : TypeId} {x y : Operand} : goL C gs (⟨some d, .binOp op t x y u, ty, pos, aft, none⟩ :: rest) s K = (d < C.n ∧ outL C gs rest s (some d) K (binP C.E0.P op t (s.ev x) (s.ev y))) := by
  rw [goL_step (by simp), dstOK_some]; rfl
theorem goL_unOp {d : Nat} {op : UnOp} {t : TypeId} {x : Operand} : goL C gs (⟨some d, .unOp op t x, ty, pos, aft, none⟩ :: rest) s K = (d < C.n ∧ outL C gs rest s (some d) K (unP op (s.ev x))) := by
  rw [goL_step (by simp), dstOK_some]; rfl
theorem goL_convert {d : Nat} {t u : TypeId} {x : Operand} : goL C gs (⟨some d, .convert t u x, ty, pos, aft, none⟩ :: rest) s K = (d < C.n ∧ outL C gs rest s (some d) K (fConv C.E0.P s.hp t u (s.ev x))) := by
  rw [goL_step (by simp), dstOK_some]; rfl
theorem goL_makeFunc {d : Nat} {f : FuncId} {a b : Array Operand} : goL C gs (⟨some d, .makeFunc (.func f) a b, ty, pos, aft, none⟩ :: rest) s K = (d < C.n ∧ goL C gs rest ⟨upd s.env d (.fn f (evs s a) (evs s b)), s.hp⟩ K) := by
  rw [goL_step (by simp), dstOK_some]; simp [fstep, val, ASt.app, ASt.put]
theorem goL_makeSlice {d : Nat} {t : TypeId} {x y : Operand} : goL C gs (⟨some d, .makeSlice t x y, ty, pos, aft, none⟩ :: rest) s K = (d < C.n ∧ outL C gs rest s (some d) K (fMake C.E0.P s.hp t (s.ev x) (s.ev y) (C.nm d))) := by
  rw [goL_step (by simp), dstOK_some]; rfl
theorem goL_slice {d : Nat} {t : TypeId} {x : Operand} {lo hi : Option Operand} : goL C gs (⟨some d, .slice t x lo hi none, ty, pos, aft, none⟩ :: rest) s K = (d < C.n ∧ outL C gs rest s (some d) K (fSlice C.E0.P s.hp t (s.ev x) (lo.map s.ev) (hi.map s.ev))) := by
  rw [goL_step (by simp), dstOK_some]; rfl
theorem goL_fieldAddr {d : Nat} {t : TypeId} {x : Operand} {f : Nat} : goL C gs (⟨some d, .fieldAddr t x f, ty, pos, aft, none⟩ :: rest) s K = (d < C.n ∧ outL C gs rest s (some d) K (fFieldAddr C.E0.P s.hp t (s.ev x) f)) := by
  rw [goL_step (by simp), dstOK_some]; rfl
theorem goL_field {d : Nat} {t : TypeId} {x : Operand} {f : Nat} : goL C gs (⟨some d, .field t x f, ty, pos, aft, none⟩ :: rest) s K = (d < C.n ∧ outL C gs rest s (some d) K (fField C.E0.P t (s.ev x) f)) := by
  rw [goL_step (by simp), dstOK_some]; rfl
theorem goL_indexAddr {d : Nat} {t : TypeId} {x i : Operand} : goL C gs (⟨some d, .indexAddr t x i, ty, pos, aft, none⟩ :: rest) s K = (d < C.n ∧ outL C gs rest s (some d) K (fIndexAddr C.E0.P s.hp t (s.ev x) (s.ev i))) := by
  rw [goL_step (by simp), dstOK_some]; rfl
theorem goL_index {d : Nat} {t : TypeId} {x i : Operand} : goL C gs (⟨some d, .index t x i, ty, pos, aft, none⟩ :: rest) s K = (d < C.n ∧ outL C gs rest s (some d) K (fIndex C.E0.P t (s.ev x) (s.ev i))) := by
  rw [goL_step (by simp), dstOK_some]; rfl
theorem goL_extract {d : Nat} {x : Operand} {i : Nat} : goL C gs (⟨some d, .extract x i, ty, pos, aft, none⟩ :: rest) s K = (d < C.n ∧ outL C gs rest s (some d) K (fExtract (s.ev x) i)) := by
  rw [goL_step (by simp), dstOK_some]; rfl
theorem goL_builtin {d : Nat} {b : Builtin} {as : Array Operand} {ats : Array TypeId} : goL C gs (⟨some d, .call ⟨.builtin b, as, ats⟩, ty, pos, aft, none⟩ :: rest) s K = (d < C.n ∧ outL C gs rest s (some d) K (fBuiltin C.E0.P s b as.toList ats.toList (C.nm d))) := by
  rw [goL_step (by simp), dstOK_some]; rfl
theorem goL_call {dst : Option Tmp} {fv : Operand} {as : Array Operand} {ats : Array TypeId} : goL C gs (⟨dst, .call ⟨.value fv, as, ats⟩, ty, pos, aft, none⟩ :: rest) s K = (dstOK C.n ⟨dst, .call ⟨.value fv, as, ats⟩, ty, pos, aft, none⟩ = true ∧ CallL C s ⟨dst, .call ⟨.value fv, as, ats⟩, ty, pos, aft, none⟩ gs rest K) := rfl

theorem ev_tmp {t : Nat} : s.ev (.tmp t) = s.env t := rfl
theorem ev_func {f : FuncId} : s.ev (.func f) = .fn f [] [] := rfl
theorem ev_int {k : IntKind} {n : Int} : s.ev (.const (.int k n)) = .d true (.int k n) := rfl
theorem ev_bool {b : Bool} : s.ev (.const (.bool b)) = .d true (.bool b) := rfl
theorem ev_nil : s.ev (.const (.slice none 0 0)) = .d true .nil := rfl
theorem ev_str {b : ByteArray} : s.ev (.const (.string b)) = .d true (.str b.data.toList) := rfl

theorem upd_app {α : Type} (f : Nat → α) (i j : Nat) (x : α) : upd f i x j = if j = i then x else f j := rfl

theorem mkC_n {n N : Nat} {P : Program} {hp : HP} {X : Ext} : (mkC n N P hp X).n = n := rfl
theorem mkC_N {n N : Nat} {P : Program} {hp : HP} {X : Ext} : (mkC n N P hp X).N = N := rfl
theorem mkC_P {n N : Nat} {P : Program} {hp : HP} {X : Ext} : (mkC n N P hp X).E0.P = P := rfl
theorem mkC_hp {n N : Nat} {P : Program} {hp : HP} {X : Ext} : (mkC n N P hp X).E0.hp = hp := rfl
theorem mkC_nm {n N d : Nat} {P : Program} {hp : HP} {X : Ext} : (mkC n N P hp X).nm d = N + d := rfl

end
end Go.Abs
