/- Drawn regions by rewriting. Laid by program (gen_goA.py). No condition. -/
import Derived.Test.YtfhpoffgnpgagaaAbsU
set_option linter.unusedSimpArgs false
set_option linter.unusedVariables false
namespace Go.Abs

/-- As goT, the trace gathered on the way. -/
def goA (C : Ctx) (ops : Array Oper) (gs : List (Option Tmp)) : List Oper → ASt → List (List Nat × List Nat) → (List (List Nat × List Nat) → ASt → Prop) → Prop
  | [], s, acc, K => K acc.reverse s
  | o :: rest, s, acc, K => dstOK C.n o = true ∧ match o.guard with
    | none => itemK C ops s o fun e rd => goA C ops gs rest (s.app o.dst e) ((wrE e, rd) :: acc) K
    | some (j, w) => match wantG gs s j w with
      | some b => (b = w → itemK C ops s o fun e rd => goA C ops gs rest (s.app o.dst e) ((wrE e, rd) :: acc) K) ∧ (b = !w → goA C ops gs rest (s.put o.dst und) (([], []) :: acc) K)
      | none => False

theorem itemK_mono {C : Ctx} {ops : Array Oper} {s : ASt} {o : Oper} {K K' : Eff → List Nat → Prop} (hk : ∀ e rd, K e rd → K' e rd) (h : itemK C ops s o K) : itemK C ops s o K' := by
  unfold itemK at h ⊢
  split at h
  · obtain ⟨r, rd, h1, h2⟩ := h; exact ⟨r, rd, h1, hk _ _ h2⟩
  · exact ⟨h.1, hk _ _ h.2⟩

theorem goA_goT {C : Ctx} {ops : Array Oper} {K : List (List Nat × List Nat) → ASt → Prop} : ∀ (l : List Oper) (s : ASt) (acc : List (List Nat × List Nat)), goA C ops (ops.toList.map (·.dst)) l s acc K → goT C ops l s fun t s' => K (acc.reverse ++ t) s'
  | [], _, acc, h => by simpa [goT, goA] using h
  | o :: rest, s, acc, h => by
    obtain ⟨hd, h⟩ := h
    have next : ∀ (e : Eff) (rd : List Nat), goA C ops (ops.toList.map (·.dst)) rest (s.app o.dst e) ((wrE e, rd) :: acc) K → goT C ops rest (s.app o.dst e) fun t s' => K (acc.reverse ++ (wrE e, rd) :: t) s' := by
      intro e rd h
      have := goA_goT rest _ _ h
      simpa using this
    have skip : goA C ops (ops.toList.map (·.dst)) rest (s.put o.dst und) (([], []) :: acc) K → goT C ops rest (s.put o.dst und) fun t s' => K (acc.reverse ++ ([], []) :: t) s' := by
      intro h
      have := goA_goT rest _ _ h
      simpa using this
    refine ⟨hd, ?_⟩
    unfold wantP
    cases hg : o.guard with
    | none =>
      simp only [hg] at h ⊢
      exact ⟨fun _ => itemK_mono (fun e rd h => next e rd h) h, fun h => by cases h⟩
    | some g =>
      obtain ⟨j, w⟩ := g
      simp only [hg, wantG, List.getElem?_map] at h
      have e : ops.toList[j]? = ops[j]? := by simp
      rw [e] at h
      cases hj : ops[j]? with
      | none => simp [hj] at h
      | some o' =>
        simp only [hj, Option.map_some] at h
        cases hd' : o'.dst with
        | none => simp [hd'] at h
        | some t =>
          simp only [hd'] at h
          simp only [hj, Option.bind_some, hd']
          cases hx : s.env t with
          | d k y =>
            cases y with
            | bool b =>
              simp only [hx] at h ⊢
              refine ⟨fun hb => itemK_mono (fun e rd h => next e rd h) (h.1 (by simpa using hb)), fun hb => skip (h.2 ?_)⟩
              cases b <;> cases w <;> simp at hb ⊢
            | tup l =>
              cases l with
              | nil =>
                simp only [hx] at h ⊢
                exact ⟨(fun hb => by cases hb), fun _ => skip (h.2 trivial)⟩
              | cons _ _ => simp [hx] at h
            | _ => simp [hx] at h
          | _ => simp [hx] at h

/-- A drawn region with code behind it, all hidden that is not to be walked. -/
theorem awp_drawL {C : Ctx} {Q : Exit → ASt → Prop} {s : ASt} {id : Nat} {ops : Array Oper} {y : Code} (f m : Nat) (r : List (Nat × Nat)) (hm : C.E0.P.follows .mixedOrders = true) (h1 : slotsB ops f = true) (h2 : tailB ops f m = true) (hlt : decide (m ≤ ops.size) = true)
    (hr : (r.all fun p => reachB ops f p.1 p.2) = true)
    (h : ∀ ops' K', ops' = ops → (∀ tr s', K' tr s' = (objsW (fun i j => r.contains (i, j)) tr 0 tr ∧ goOps C ops (ops.toList.drop m) s' (awp C y Q))) → goA C ops' (ops.toList.map (·.dst)) (ops.toList.take m) s [] K') :
    awp C (.seq (.region id ops true) y) Q s := by
  refine awp_seq (awp_draw f m (fun i j => r.contains (i, j)) hm h1 h2 (of_decide_eq_true hlt) (fun i j hij => ?_) ?_)
  · rw [List.all_eq_true] at hr
    exact hr (i, j) (by simpa using hij)
  · have := goA_goT _ _ _ (h ops (fun tr s' => objsW (fun i j => r.contains (i, j)) tr 0 tr ∧ goOps C ops (ops.toList.drop m) s' (awp C y Q)) rfl (fun _ _ => rfl))
    simp only [List.reverse_nil, List.nil_append] at this
    exact this

theorem awp_drawL1 {C : Ctx} {Q : Exit → ASt → Prop} {s : ASt} {id : Nat} {ops : Array Oper} (f m : Nat) (r : List (Nat × Nat)) (hm : C.E0.P.follows .mixedOrders = true) (h1 : slotsB ops f = true) (h2 : tailB ops f m = true) (hlt : decide (m ≤ ops.size) = true)
    (hr : (r.all fun p => reachB ops f p.1 p.2) = true)
    (h : ∀ ops' K', ops' = ops → (∀ tr s', K' tr s' = (objsW (fun i j => r.contains (i, j)) tr 0 tr ∧ goOps C ops (ops.toList.drop m) s' (Q .normal))) → goA C ops' (ops.toList.map (·.dst)) (ops.toList.take m) s [] K') :
    awp C (.region id ops true) Q s := by
  refine awp_draw f m (fun i j => r.contains (i, j)) hm h1 h2 (of_decide_eq_true hlt) (fun i j hij => ?_) ?_
  · rw [List.all_eq_true] at hr
    exact hr (i, j) (by simpa using hij)
  · have := goA_goT _ _ _ (h ops (fun tr s' => objsW (fun i j => r.contains (i, j)) tr 0 tr ∧ goOps C ops (ops.toList.drop m) s' (Q .normal)) rfl (fun _ _ => rfl))
    simpa using this

/-- What is behind all the others, walked as a plain region is. -/
theorem goOps_goL {C : Ctx} {ops : Array Oper} {l : List Oper} {s : ASt} {K : ASt → Prop} (h : goL C (ops.toList.map (·.dst)) l s K) : goOps C ops l s K := goL_goOps _ _ h

/-- An outcome in a drawn region, taken in. -/
def outA (C : Ctx) (ops : Array Oper) (gs : List (Option Tmp)) (rest : List Oper) (s : ASt) (acc : List (List Nat × List Nat)) (dst : Option Tmp) (rd : List Nat) (K : List (List Nat × List Nat) → ASt → Prop) (o : Out) : Prop :=
  o.1 ∧ goA C ops gs rest (s.app dst o.2) ((wrE o.2, rd ++ wrE o.2) :: acc) K

/-- A call in a drawn region, what is behind it wrapped up. -/
def CallA (C : Ctx) (ops : Array Oper) (s : ASt) (o : Oper) (gs : List (Option Tmp)) (rest : List Oper) (acc : List (List Nat × List Nat)) (K : List (List Nat × List Nat) → ASt → Prop) : Prop :=
  itemK C ops s o fun e rd => goA C ops gs rest (s.app o.dst e) ((wrE e, rd) :: acc) K

def isVC : Op → Bool
  | .call ⟨.value _, _, _⟩ => true
  | _ => false

section
variable {C : Ctx} {ops : Array Oper} {gs : List (Option Tmp)} {s : ASt} {acc : List (List Nat × List Nat)} {K : List (List Nat × List Nat) → ASt → Prop} {ty : TypeId} {pos : String} {aft : Array Edge} {rest : List Oper}

theorem goA_step {dst : Option Tmp} {op : Op} (h : ∀ f as ats, op ≠ .call ⟨.value f, as, ats⟩) : goA C ops gs (⟨dst, op, ty, pos, aft, none⟩ :: rest) s acc K =
    (dstOK C.n ⟨dst, op, ty, pos, aft, none⟩ = true ∧ outA C ops gs rest s acc dst (rdOf C.nm s ⟨dst, op, ty, pos, aft, none⟩) K (fstep C.E0.P C.nm s ⟨dst, op, ty, pos, aft, none⟩)) := by
  simp only [goA]
  unfold itemK outA
  split
  · rename_i f as ats he; exact absurd he (h _ _ _)
  · rfl

theorem goA_guard {dst : Option Tmp} {op : Op} {j : Nat} {w : Bool} : goA C ops gs (⟨dst, op, ty, pos, aft, some (j, w)⟩ :: rest) s acc K =
    match wantG gs s j w with
    | some b => (b = w → if isVC op = true then dstOK C.n ⟨dst, op, ty, pos, aft, some (j, w)⟩ = true ∧ CallA C ops s ⟨dst, op, ty, pos, aft, some (j, w)⟩ gs rest acc K else goA C ops gs (⟨dst, op, ty, pos, aft, none⟩ :: rest) s acc K) ∧
        (b = !w → dstOK C.n ⟨dst, op, ty, pos, aft, none⟩ = true ∧ goA C ops gs rest (s.put dst und) (([], []) :: acc) K)
    | none => False := by
  have e : dstOK C.n ⟨dst, op, ty, pos, aft, some (j, w)⟩ = dstOK C.n ⟨dst, op, ty, pos, aft, none⟩ := rfl
  have e2 : isVC op = false → goA C ops gs (⟨dst, op, ty, pos, aft, none⟩ :: rest) s acc K = (dstOK C.n ⟨dst, op, ty, pos, aft, none⟩ = true ∧ CallA C ops s ⟨dst, op, ty, pos, aft, some (j, w)⟩ gs rest acc K) := by
    intro hv
    simp only [goA, CallA]
    congr 1
    unfold itemK
    split
    · rename_i f as ats he; simp only at he; rw [he] at hv; cases hv
    · rfl
  by_cases hv : isVC op = true
  · simp only [goA, e, hv, if_true, CallA]
    cases wantG gs s j w with
    | none => simp
    | some b => cases b <;> cases w <;> simp
  · simp only [hv, if_false, Bool.false_eq_true]
    rw [e2 (by simpa using hv)]
    simp only [goA, e, CallA]
    cases wantG gs s j w with
    | none => simp
    | some b => cases b <;> cases w <;> simp

theorem goA_pick {d : Nat} {c : Operand} {a : Operand} {b : Operand} : goA C ops gs (⟨some d, .pick c a b, ty, pos, aft, none⟩ :: rest) s acc K = (d < C.n ∧ outA C ops gs rest s acc (some d) [] K (fPick (s.ev c) (s.ev a) (s.ev b))) := by
  rw [goA_step (by simp), dstOK_some]
  simp [rdOf, looksB, makesB, Op.operands, fstep]

theorem goA_alloc {d : Nat} {e : TypeId} : goA C ops gs (⟨some d, .alloc e, ty, pos, aft, none⟩ :: rest) s acc K = (d < C.n ∧ outA C ops gs rest s acc (some d) [C.nm d] K (fAlloc C.E0.P s.hp e (C.nm d))) := by
  rw [goA_step (by simp), dstOK_some]
  simp [rdOf, looksB, makesB, Op.operands, fstep]

theorem goA_box {d : Nat} {e : TypeId} {x : Operand} : goA C ops gs (⟨some d, .box e x, ty, pos, aft, none⟩ :: rest) s acc K = (d < C.n ∧ outA C ops gs rest s acc (some d) (idsP (s.ev x) ++ [C.nm d]) K (fBox s.hp e (s.ev x) (C.nm d))) := by
  rw [goA_step (by simp), dstOK_some]
  simp [rdOf, looksB, makesB, Op.operands, fstep]

theorem goA_load {d : Nat} {t : TypeId} {x : Operand} : goA C ops gs (⟨some d, .load t x, ty, pos, aft, none⟩ :: rest) s acc K = (d < C.n ∧ outA C ops gs rest s acc (some d) (idsP (s.ev x)) K (fLoad C.E0.P s.hp t (s.ev x))) := by
  rw [goA_step (by simp), dstOK_some]
  simp [rdOf, looksB, makesB, Op.operands, fstep]

theorem goA_binOp {d : Nat} {op : BinOp} {t : TypeId} {x : Operand} {y : Operand} {u : TypeId} : goA C ops gs (⟨some d, .binOp op t x y u, ty, pos, aft, none⟩ :: rest) s acc K = (d < C.n ∧ outA C ops gs rest s acc (some d) [] K (binP C.E0.P op t (s.ev x) (s.ev y))) := by
  rw [goA_step (by simp), dstOK_some]
  simp [rdOf, looksB, makesB, Op.operands, fstep]

theorem goA_unOp {d : Nat} {op : UnOp} {t : TypeId} {x : Operand} : goA C ops gs (⟨some d, .unOp op t x, ty, pos, aft, none⟩ :: rest) s acc K = (d < C.n ∧ outA C ops gs rest s acc (some d) [] K (unP op (s.ev x))) := by
  rw [goA_step (by simp), dstOK_some]
  simp [rdOf, looksB, makesB, Op.operands, fstep]

theorem goA_convert {d : Nat} {t : TypeId} {u : TypeId} {x : Operand} : goA C ops gs (⟨some d, .convert t u x, ty, pos, aft, none⟩ :: rest) s acc K = (d < C.n ∧ outA C ops gs rest s acc (some d) (idsP (s.ev x)) K (fConv C.E0.P s.hp t u (s.ev x))) := by
  rw [goA_step (by simp), dstOK_some]
  simp [rdOf, looksB, makesB, Op.operands, fstep]

theorem goA_makeSlice {d : Nat} {t : TypeId} {x : Operand} {y : Operand} : goA C ops gs (⟨some d, .makeSlice t x y, ty, pos, aft, none⟩ :: rest) s acc K = (d < C.n ∧ outA C ops gs rest s acc (some d) (idsP (s.ev x) ++ idsP (s.ev y) ++ [C.nm d]) K (fMake C.E0.P s.hp t (s.ev x) (s.ev y) (C.nm d))) := by
  rw [goA_step (by simp), dstOK_some]
  simp [rdOf, looksB, makesB, Op.operands, fstep]

theorem goA_fieldAddr {d : Nat} {t : TypeId} {x : Operand} {f : Nat} : goA C ops gs (⟨some d, .fieldAddr t x f, ty, pos, aft, none⟩ :: rest) s acc K = (d < C.n ∧ outA C ops gs rest s acc (some d) (idsP (s.ev x)) K (fFieldAddr C.E0.P s.hp t (s.ev x) f)) := by
  rw [goA_step (by simp), dstOK_some]
  simp [rdOf, looksB, makesB, Op.operands, fstep]

theorem goA_field {d : Nat} {t : TypeId} {x : Operand} {f : Nat} : goA C ops gs (⟨some d, .field t x f, ty, pos, aft, none⟩ :: rest) s acc K = (d < C.n ∧ outA C ops gs rest s acc (some d) [] K (fField C.E0.P t (s.ev x) f)) := by
  rw [goA_step (by simp), dstOK_some]
  simp [rdOf, looksB, makesB, Op.operands, fstep]

theorem goA_indexAddr {d : Nat} {t : TypeId} {x : Operand} {i : Operand} : goA C ops gs (⟨some d, .indexAddr t x i, ty, pos, aft, none⟩ :: rest) s acc K = (d < C.n ∧ outA C ops gs rest s acc (some d) (idsP (s.ev x) ++ idsP (s.ev i)) K (fIndexAddr C.E0.P s.hp t (s.ev x) (s.ev i))) := by
  rw [goA_step (by simp), dstOK_some]
  simp [rdOf, looksB, makesB, Op.operands, fstep]

theorem goA_index {d : Nat} {t : TypeId} {x : Operand} {i : Operand} : goA C ops gs (⟨some d, .index t x i, ty, pos, aft, none⟩ :: rest) s acc K = (d < C.n ∧ outA C ops gs rest s acc (some d) [] K (fIndex C.E0.P t (s.ev x) (s.ev i))) := by
  rw [goA_step (by simp), dstOK_some]
  simp [rdOf, looksB, makesB, Op.operands, fstep]

theorem goA_extract {d : Nat} {x : Operand} {i : Nat} : goA C ops gs (⟨some d, .extract x i, ty, pos, aft, none⟩ :: rest) s acc K = (d < C.n ∧ outA C ops gs rest s acc (some d) [] K (fExtract (s.ev x) i)) := by
  rw [goA_step (by simp), dstOK_some]
  simp [rdOf, looksB, makesB, Op.operands, fstep]

theorem goA_move {d : Nat} {x : Operand} : goA C ops gs (⟨some d, .move x, ty, pos, aft, none⟩ :: rest) s acc K = (d < C.n ∧ outA C ops gs rest s acc (some d) [] K (val (s.ev x))) := by
  rw [goA_step (by simp), dstOK_some]
  simp [rdOf, looksB, makesB, Op.operands, fstep]

theorem goA_assign {d : Nat} {x : Operand} : goA C ops gs (⟨some d, .assign x, ty, pos, aft, none⟩ :: rest) s acc K = (d < C.n ∧ outA C ops gs rest s acc (some d) [] K (val (s.ev x))) := by
  rw [goA_step (by simp), dstOK_some]
  simp [rdOf, looksB, makesB, Op.operands, fstep]

theorem goA_build {d : Nat} {t : TypeId} {ps : Array (Nat × Operand)} : goA C ops gs (⟨some d, .build t ps, ty, pos, aft, none⟩ :: rest) s acc K = (d < C.n ∧ outA C ops gs rest s acc (some d) (ps.toList.flatMap fun p => idsP (s.ev p.2)) K (fBuild C.E0.P s.hp t (ps.toList.map fun p => (p.1, s.ev p.2)))) := by
  rw [goA_step (by simp), dstOK_some]
  simp [rdOf, looksB, makesB, Op.operands, fstep, List.flatMap_map]

theorem goA_buildSlice {d : Nat} {t : TypeId} {n : Nat} {ps : Array (Nat × Operand)} : goA C ops gs (⟨some d, .buildSlice t n ps, ty, pos, aft, none⟩ :: rest) s acc K = (d < C.n ∧ outA C ops gs rest s acc (some d) ((ps.toList.flatMap fun p => idsP (s.ev p.2)) ++ [C.nm d]) K (fBuildSlice C.E0.P s.hp t n (ps.toList.map fun p => (p.1, s.ev p.2)) (C.nm d))) := by
  rw [goA_step (by simp), dstOK_some]
  simp [rdOf, looksB, makesB, Op.operands, fstep, List.flatMap_map]

theorem goA_store {dst : Option Tmp} {t : TypeId} {p x : Operand} : goA C ops gs (⟨dst, .store t p x, ty, pos, aft, none⟩ :: rest) s acc K = (dstOK C.n ⟨dst, .store t p x, ty, pos, aft, none⟩ = true ∧ outA C ops gs rest s acc dst (idsP (s.ev p) ++ idsP (s.ev x)) K (fStore C.E0.P s.hp t (s.ev p) (s.ev x))) := by
  rw [goA_step (by simp)]
  simp [rdOf, looksB, makesB, Op.operands, fstep]

theorem goA_slice {d : Nat} {t : TypeId} {x : Operand} {lo hi : Option Operand} : goA C ops gs (⟨some d, .slice t x lo hi none, ty, pos, aft, none⟩ :: rest) s acc K = (d < C.n ∧ outA C ops gs rest s acc (some d) (([x] ++ lo.toList ++ hi.toList).flatMap fun y => idsP (s.ev y)) K (fSlice C.E0.P s.hp t (s.ev x) (lo.map s.ev) (hi.map s.ev))) := by
  rw [goA_step (by simp), dstOK_some]
  cases lo <;> cases hi <;> simp [rdOf, looksB, makesB, Op.operands, fstep]

theorem goA_builtin {d : Nat} {b : Builtin} {as : Array Operand} {ats : Array TypeId} : goA C ops gs (⟨some d, .call ⟨.builtin b, as, ats⟩, ty, pos, aft, none⟩ :: rest) s acc K = (d < C.n ∧ outA C ops gs rest s acc (some d) ((as.toList.flatMap fun x => idsP (s.ev x)) ++ [C.nm d]) K (fBuiltin C.E0.P s b as.toList ats.toList (C.nm d))) := by
  rw [goA_step (by simp), dstOK_some]
  simp [rdOf, looksB, makesB, Op.operands, Call.operands, fstep]

theorem goA_call {dst : Option Tmp} {fv : Operand} {as : Array Operand} {ats : Array TypeId} : goA C ops gs (⟨dst, .call ⟨.value fv, as, ats⟩, ty, pos, aft, none⟩ :: rest) s acc K = (dstOK C.n ⟨dst, .call ⟨.value fv, as, ats⟩, ty, pos, aft, none⟩ = true ∧ CallA C ops s ⟨dst, .call ⟨.value fv, as, ats⟩, ty, pos, aft, none⟩ gs rest acc K) := by
  rfl

end

/-- Drawn regions: one operation behind the other. -/
theorem goAs :
    (∀ {C : Ctx} {ops : Array Oper} {gs : List (Option Tmp)} {s : ASt} {acc : List (List Nat × List Nat)} {K : List (List Nat × List Nat) → ASt → Prop}, goA C ops gs [] s acc K = K acc.reverse s) ∧
    (∀ {C : Ctx} {ops : Array Oper} {gs : List (Option Tmp)} {s : ASt} {acc : List (List Nat × List Nat)} {K : List (List Nat × List Nat) → ASt → Prop} {ty : TypeId} {pos : String} {aft : Array Edge} {rest : List Oper} {d : Nat} {c : Operand} {a : Operand} {b : Operand}, goA C ops gs (⟨some d, .pick c a b, ty, pos, aft, none⟩ :: rest) s acc K = (d < C.n ∧ outA C ops gs rest s acc (some d) [] K (fPick (s.ev c) (s.ev a) (s.ev b)))) ∧
    (∀ {C : Ctx} {ops : Array Oper} {gs : List (Option Tmp)} {s : ASt} {acc : List (List Nat × List Nat)} {K : List (List Nat × List Nat) → ASt → Prop} {ty : TypeId} {pos : String} {aft : Array Edge} {rest : List Oper} {d : Nat} {e : TypeId}, goA C ops gs (⟨some d, .alloc e, ty, pos, aft, none⟩ :: rest) s acc K = (d < C.n ∧ outA C ops gs rest s acc (some d) [C.nm d] K (fAlloc C.E0.P s.hp e (C.nm d)))) ∧
    (∀ {C : Ctx} {ops : Array Oper} {gs : List (Option Tmp)} {s : ASt} {acc : List (List Nat × List Nat)} {K : List (List Nat × List Nat) → ASt → Prop} {ty : TypeId} {pos : String} {aft : Array Edge} {rest : List Oper} {d : Nat} {e : TypeId} {x : Operand}, goA C ops gs (⟨some d, .box e x, ty, pos, aft, none⟩ :: rest) s acc K = (d < C.n ∧ outA C ops gs rest s acc (some d) (idsP (s.ev x) ++ [C.nm d]) K (fBox s.hp e (s.ev x) (C.nm d)))) ∧
    (∀ {C : Ctx} {ops : Array Oper} {gs : List (Option Tmp)} {s : ASt} {acc : List (List Nat × List Nat)} {K : List (List Nat × List Nat) → ASt → Prop} {ty : TypeId} {pos : String} {aft : Array Edge} {rest : List Oper} {d : Nat} {t : TypeId} {x : Operand}, goA C ops gs (⟨some d, .load t x, ty, pos, aft, none⟩ :: rest) s acc K = (d < C.n ∧ outA C ops gs rest s acc (some d) (idsP (s.ev x)) K (fLoad C.E0.P s.hp t (s.ev x)))) ∧
    (∀ {C : Ctx} {ops : Array Oper} {gs : List (Option Tmp)} {s : ASt} {acc : List (List Nat × List Nat)} {K : List (List Nat × List Nat) → ASt → Prop} {ty : TypeId} {pos : String} {aft : Array Edge} {rest : List Oper} {d : Nat} {op : BinOp} {t : TypeId} {x : Operand} {y : Operand} {u : TypeId}, goA C ops gs (⟨some d, .binOp op t x y u, ty, pos, aft, none⟩ :: rest) s acc K = (d < C.n ∧ outA C ops gs rest s acc (some d) [] K (binP C.E0.P op t (s.ev x) (s.ev y)))) ∧
    (∀ {C : Ctx} {ops : Array Oper} {gs : List (Option Tmp)} {s : ASt} {acc : List (List Nat × List Nat)} {K : List (List Nat × List Nat) → ASt → Prop} {ty : TypeId} {pos : String} {aft : Array Edge} {rest : List Oper} {d : Nat} {op : UnOp} {t : TypeId} {x : Operand}, goA C ops gs (⟨some d, .unOp op t x, ty, pos, aft, none⟩ :: rest) s acc K = (d < C.n ∧ outA C ops gs rest s acc (some d) [] K (unP op (s.ev x)))) ∧
    (∀ {C : Ctx} {ops : Array Oper} {gs : List (Option Tmp)} {s : ASt} {acc : List (List Nat × List Nat)} {K : List (List Nat × List Nat) → ASt → Prop} {ty : TypeId} {pos : String} {aft : Array Edge} {rest : List Oper} {d : Nat} {t : TypeId} {u : TypeId} {x : Operand}, goA C ops gs (⟨some d, .convert t u x, ty, pos, aft, none⟩ :: rest) s acc K = (d < C.n ∧ outA C ops gs rest s acc (some d) (idsP (s.ev x)) K (fConv C.E0.P s.hp t u (s.ev x)))) ∧
    (∀ {C : Ctx} {ops : Array Oper} {gs : List (Option Tmp)} {s : ASt} {acc : List (List Nat × List Nat)} {K : List (List Nat × List Nat) → ASt → Prop} {ty : TypeId} {pos : String} {aft : Array Edge} {rest : List Oper} {d : Nat} {t : TypeId} {x : Operand} {y : Operand}, goA C ops gs (⟨some d, .makeSlice t x y, ty, pos, aft, none⟩ :: rest) s acc K = (d < C.n ∧ outA C ops gs rest s acc (some d) (idsP (s.ev x) ++ idsP (s.ev y) ++ [C.nm d]) K (fMake C.E0.P s.hp t (s.ev x) (s.ev y) (C.nm d)))) ∧
    (∀ {C : Ctx} {ops : Array Oper} {gs : List (Option Tmp)} {s : ASt} {acc : List (List Nat × List Nat)} {K : List (List Nat × List Nat) → ASt → Prop} {ty : TypeId} {pos : String} {aft : Array Edge} {rest : List Oper} {d : Nat} {t : TypeId} {x : Operand} {f : Nat}, goA C ops gs (⟨some d, .fieldAddr t x f, ty, pos, aft, none⟩ :: rest) s acc K = (d < C.n ∧ outA C ops gs rest s acc (some d) (idsP (s.ev x)) K (fFieldAddr C.E0.P s.hp t (s.ev x) f))) ∧
    (∀ {C : Ctx} {ops : Array Oper} {gs : List (Option Tmp)} {s : ASt} {acc : List (List Nat × List Nat)} {K : List (List Nat × List Nat) → ASt → Prop} {ty : TypeId} {pos : String} {aft : Array Edge} {rest : List Oper} {d : Nat} {t : TypeId} {x : Operand} {f : Nat}, goA C ops gs (⟨some d, .field t x f, ty, pos, aft, none⟩ :: rest) s acc K = (d < C.n ∧ outA C ops gs rest s acc (some d) [] K (fField C.E0.P t (s.ev x) f))) ∧
    (∀ {C : Ctx} {ops : Array Oper} {gs : List (Option Tmp)} {s : ASt} {acc : List (List Nat × List Nat)} {K : List (List Nat × List Nat) → ASt → Prop} {ty : TypeId} {pos : String} {aft : Array Edge} {rest : List Oper} {d : Nat} {t : TypeId} {x : Operand} {i : Operand}, goA C ops gs (⟨some d, .indexAddr t x i, ty, pos, aft, none⟩ :: rest) s acc K = (d < C.n ∧ outA C ops gs rest s acc (some d) (idsP (s.ev x) ++ idsP (s.ev i)) K (fIndexAddr C.E0.P s.hp t (s.ev x) (s.ev i)))) ∧
    (∀ {C : Ctx} {ops : Array Oper} {gs : List (Option Tmp)} {s : ASt} {acc : List (List Nat × List Nat)} {K : List (List Nat × List Nat) → ASt → Prop} {ty : TypeId} {pos : String} {aft : Array Edge} {rest : List Oper} {d : Nat} {t : TypeId} {x : Operand} {i : Operand}, goA C ops gs (⟨some d, .index t x i, ty, pos, aft, none⟩ :: rest) s acc K = (d < C.n ∧ outA C ops gs rest s acc (some d) [] K (fIndex C.E0.P t (s.ev x) (s.ev i)))) ∧
    (∀ {C : Ctx} {ops : Array Oper} {gs : List (Option Tmp)} {s : ASt} {acc : List (List Nat × List Nat)} {K : List (List Nat × List Nat) → ASt → Prop} {ty : TypeId} {pos : String} {aft : Array Edge} {rest : List Oper} {d : Nat} {x : Operand} {i : Nat}, goA C ops gs (⟨some d, .extract x i, ty, pos, aft, none⟩ :: rest) s acc K = (d < C.n ∧ outA C ops gs rest s acc (some d) [] K (fExtract (s.ev x) i))) ∧
    (∀ {C : Ctx} {ops : Array Oper} {gs : List (Option Tmp)} {s : ASt} {acc : List (List Nat × List Nat)} {K : List (List Nat × List Nat) → ASt → Prop} {ty : TypeId} {pos : String} {aft : Array Edge} {rest : List Oper} {d : Nat} {x : Operand}, goA C ops gs (⟨some d, .move x, ty, pos, aft, none⟩ :: rest) s acc K = (d < C.n ∧ outA C ops gs rest s acc (some d) [] K (val (s.ev x)))) ∧
    (∀ {C : Ctx} {ops : Array Oper} {gs : List (Option Tmp)} {s : ASt} {acc : List (List Nat × List Nat)} {K : List (List Nat × List Nat) → ASt → Prop} {ty : TypeId} {pos : String} {aft : Array Edge} {rest : List Oper} {d : Nat} {x : Operand}, goA C ops gs (⟨some d, .assign x, ty, pos, aft, none⟩ :: rest) s acc K = (d < C.n ∧ outA C ops gs rest s acc (some d) [] K (val (s.ev x)))) ∧
    (∀ {C : Ctx} {ops : Array Oper} {gs : List (Option Tmp)} {s : ASt} {acc : List (List Nat × List Nat)} {K : List (List Nat × List Nat) → ASt → Prop} {ty : TypeId} {pos : String} {aft : Array Edge} {rest : List Oper} {d : Nat} {t : TypeId} {ps : Array (Nat × Operand)}, goA C ops gs (⟨some d, .build t ps, ty, pos, aft, none⟩ :: rest) s acc K = (d < C.n ∧ outA C ops gs rest s acc (some d) (ps.toList.flatMap fun p => idsP (s.ev p.2)) K (fBuild C.E0.P s.hp t (ps.toList.map fun p => (p.1, s.ev p.2))))) ∧
    (∀ {C : Ctx} {ops : Array Oper} {gs : List (Option Tmp)} {s : ASt} {acc : List (List Nat × List Nat)} {K : List (List Nat × List Nat) → ASt → Prop} {ty : TypeId} {pos : String} {aft : Array Edge} {rest : List Oper} {d : Nat} {t : TypeId} {n : Nat} {ps : Array (Nat × Operand)}, goA C ops gs (⟨some d, .buildSlice t n ps, ty, pos, aft, none⟩ :: rest) s acc K = (d < C.n ∧ outA C ops gs rest s acc (some d) ((ps.toList.flatMap fun p => idsP (s.ev p.2)) ++ [C.nm d]) K (fBuildSlice C.E0.P s.hp t n (ps.toList.map fun p => (p.1, s.ev p.2)) (C.nm d)))) ∧
    (∀ {C : Ctx} {ops : Array Oper} {gs : List (Option Tmp)} {s : ASt} {acc : List (List Nat × List Nat)} {K : List (List Nat × List Nat) → ASt → Prop} {ty : TypeId} {pos : String} {aft : Array Edge} {rest : List Oper} {dst : Option Tmp} {t : TypeId} {p x : Operand}, goA C ops gs (⟨dst, .store t p x, ty, pos, aft, none⟩ :: rest) s acc K = (dstOK C.n ⟨dst, .store t p x, ty, pos, aft, none⟩ = true ∧ outA C ops gs rest s acc dst (idsP (s.ev p) ++ idsP (s.ev x)) K (fStore C.E0.P s.hp t (s.ev p) (s.ev x)))) ∧
    (∀ {C : Ctx} {ops : Array Oper} {gs : List (Option Tmp)} {s : ASt} {acc : List (List Nat × List Nat)} {K : List (List Nat × List Nat) → ASt → Prop} {ty : TypeId} {pos : String} {aft : Array Edge} {rest : List Oper} {d : Nat} {t : TypeId} {x : Operand} {lo hi : Option Operand}, goA C ops gs (⟨some d, .slice t x lo hi none, ty, pos, aft, none⟩ :: rest) s acc K = (d < C.n ∧ outA C ops gs rest s acc (some d) (([x] ++ lo.toList ++ hi.toList).flatMap fun y => idsP (s.ev y)) K (fSlice C.E0.P s.hp t (s.ev x) (lo.map s.ev) (hi.map s.ev)))) ∧
    (∀ {C : Ctx} {ops : Array Oper} {gs : List (Option Tmp)} {s : ASt} {acc : List (List Nat × List Nat)} {K : List (List Nat × List Nat) → ASt → Prop} {ty : TypeId} {pos : String} {aft : Array Edge} {rest : List Oper} {d : Nat} {b : Builtin} {as : Array Operand} {ats : Array TypeId}, goA C ops gs (⟨some d, .call ⟨.builtin b, as, ats⟩, ty, pos, aft, none⟩ :: rest) s acc K = (d < C.n ∧ outA C ops gs rest s acc (some d) ((as.toList.flatMap fun x => idsP (s.ev x)) ++ [C.nm d]) K (fBuiltin C.E0.P s b as.toList ats.toList (C.nm d)))) ∧
    (∀ {C : Ctx} {ops : Array Oper} {gs : List (Option Tmp)} {s : ASt} {acc : List (List Nat × List Nat)} {K : List (List Nat × List Nat) → ASt → Prop} {ty : TypeId} {pos : String} {aft : Array Edge} {rest : List Oper} {dst : Option Tmp} {op : Op} {j : Nat} {w : Bool}, goA C ops gs (⟨dst, op, ty, pos, aft, some (j, w)⟩ :: rest) s acc K = match wantG gs s j w with | some b => (b = w → if isVC op = true then dstOK C.n ⟨dst, op, ty, pos, aft, some (j, w)⟩ = true ∧ CallA C ops s ⟨dst, op, ty, pos, aft, some (j, w)⟩ gs rest acc K else goA C ops gs (⟨dst, op, ty, pos, aft, none⟩ :: rest) s acc K) ∧ (b = !w → dstOK C.n ⟨dst, op, ty, pos, aft, none⟩ = true ∧ goA C ops gs rest (s.put dst und) (([], []) :: acc) K) | none => False) ∧
    (∀ {C : Ctx} {ops : Array Oper} {gs : List (Option Tmp)} {s : ASt} {acc : List (List Nat × List Nat)} {K : List (List Nat × List Nat) → ASt → Prop} {ty : TypeId} {pos : String} {aft : Array Edge} {rest : List Oper} {dst : Option Tmp} {fv : Operand} {as : Array Operand} {ats : Array TypeId}, goA C ops gs (⟨dst, .call ⟨.value fv, as, ats⟩, ty, pos, aft, none⟩ :: rest) s acc K = (dstOK C.n ⟨dst, .call ⟨.value fv, as, ats⟩, ty, pos, aft, none⟩ = true ∧ CallA C ops s ⟨dst, .call ⟨.value fv, as, ats⟩, ty, pos, aft, none⟩ gs rest acc K)) :=
  ⟨rfl, goA_pick, goA_alloc, goA_box, goA_load, goA_binOp, goA_unOp, goA_convert, goA_makeSlice, goA_fieldAddr, goA_field, goA_indexAddr, goA_index, goA_extract, goA_move, goA_assign, goA_build, goA_buildSlice, goA_store, goA_slice, goA_builtin, goA_guard, goA_call⟩

theorem outAs :
    (∀ {C : Ctx} {ops : Array Oper} {gs : List (Option Tmp)} {s : ASt} {acc : List (List Nat × List Nat)} {K : List (List Nat × List Nat) → ASt → Prop} {rest : List Oper} {rd : List Nat} {x d}, outA C ops gs rest s acc (some d) rd K (val x) = goA C ops gs rest ⟨upd s.env d x, s.hp⟩ (([], rd) :: acc) K) ∧
    (∀ {C : Ctx} {ops : Array Oper} {gs : List (Option Tmp)} {s : ASt} {acc : List (List Nat × List Nat)} {K : List (List Nat × List Nat) → ASt → Prop} {rest : List Oper} {rd : List Nat} {c x d}, outA C ops gs rest s acc (some d) rd K (valIf c x) = (c ∧ goA C ops gs rest ⟨upd s.env d x, s.hp⟩ (([], rd) :: acc) K)) ∧
    (∀ {C : Ctx} {ops : Array Oper} {gs : List (Option Tmp)} {s : ASt} {acc : List (List Nat × List Nat)} {K : List (List Nat × List Nat) → ASt → Prop} {rest : List Oper} {rd : List Nat} {c x d}, outA C ops gs rest s acc (some d) rd K (c, ⟨x, none⟩) = (c ∧ goA C ops gs rest ⟨upd s.env d x, s.hp⟩ (([], rd) :: acc) K)) ∧
    (∀ {C : Ctx} {ops : Array Oper} {gs : List (Option Tmp)} {s : ASt} {acc : List (List Nat × List Nat)} {K : List (List Nat × List Nat) → ASt → Prop} {rest : List Oper} {rd : List Nat} {c x d id ver o}, outA C ops gs rest s acc (some d) rd K (c, ⟨x, some (id, ver, o)⟩) = (c ∧ goA C ops gs rest ⟨upd s.env d x, upd s.hp id (ver, o)⟩ (([id], rd ++ [id]) :: acc) K)) ∧
    (∀ {C : Ctx} {ops : Array Oper} {gs : List (Option Tmp)} {s : ASt} {acc : List (List Nat × List Nat)} {K : List (List Nat × List Nat) → ASt → Prop} {rest : List Oper} {rd : List Nat} {c x}, outA C ops gs rest s acc none rd K (c, ⟨x, none⟩) = (c ∧ goA C ops gs rest s (([], rd) :: acc) K)) ∧
    (∀ {C : Ctx} {ops : Array Oper} {gs : List (Option Tmp)} {s : ASt} {acc : List (List Nat × List Nat)} {K : List (List Nat × List Nat) → ASt → Prop} {rest : List Oper} {rd : List Nat} {c x}, outA C ops gs rest s acc none rd K (valIf c x) = (c ∧ goA C ops gs rest s (([], rd) :: acc) K)) ∧
    (∀ {C : Ctx} {ops : Array Oper} {gs : List (Option Tmp)} {s : ASt} {acc : List (List Nat × List Nat)} {K : List (List Nat × List Nat) → ASt → Prop} {rest : List Oper} {rd : List Nat} {c x id ver o}, outA C ops gs rest s acc none rd K (c, ⟨x, some (id, ver, o)⟩) = (c ∧ goA C ops gs rest ⟨s.env, upd s.hp id (ver, o)⟩ (([id], rd ++ [id]) :: acc) K)) ∧
    (∀ {C : Ctx} {ops : Array Oper} {gs : List (Option Tmp)} {s : ASt} {acc : List (List Nat × List Nat)} {K : List (List Nat × List Nat) → ASt → Prop} {rest : List Oper} {rd : List Nat} {dst}, outA C ops gs rest s acc dst rd K no = False) := by
  refine ⟨?_, ?_, ?_, ?_, ?_, ?_, ?_, ?_⟩ <;> intros <;> simp [outA, val, valIf, no, ASt.app, ASt.put, wrE]

theorem awp_last {C : Ctx} {c : Code} {Q : Exit → ASt → Prop} {s : ASt} (R : ASt → Prop) (h : awp C c (thenA R Q) s) (k : ∀ s', R s' → Q .normal s') : awp C c Q s := by
  refine awp_mono h fun e s' q => ?_
  cases e with
  | normal => exact k s' q
  | exit id => exact q
  | goto l => exact q
  | ret => exact q
  | panic ch => exact q
  | outgrown => exact q

end Go.Abs
