/- The rules for walking, in packs. No condition. -/
import Derived.Test.YtfhpoffgnpgagaaAbsR
set_option linter.unusedSimpArgs false
set_option linter.unusedVariables false
namespace Go.Abs

theorem wrap_i64 {n : Int} (h1 : -9223372036854775808 ≤ n) (h2 : n < 9223372036854775808) : IntKind.i64.wrap n = n := by
  unfold IntKind.wrap
  simp [IntKind.signed, IntKind.bits]
  omega

theorem binP_int {P : Program} {op : BinOp} {t : TypeId} {k k' : Bool} {K : IntKind} {a b : Int} (h : isSh op = false) : binP P op t (.d k (.int K a)) (.d k' (.int K b)) = binInt op K a b := by
  simp [binP, h]

/-- Regions: one operation behind the other. -/
theorem goLs :
    (∀ {C : Ctx} {gs : List (Option Tmp)} {s : ASt} {K : ASt → Prop}, goL C gs [] s K = K s) ∧
    (∀ {C : Ctx} {gs : List (Option Tmp)} {s : ASt} {K : ASt → Prop} {rest : List Oper} {d x ty pos aft}, goL C gs (⟨some d, .move x, ty, pos, aft, none⟩ :: rest) s K = (d < C.n ∧ goL C gs rest ⟨upd s.env d (s.ev x), s.hp⟩ K)) ∧
    (∀ {C : Ctx} {gs : List (Option Tmp)} {s : ASt} {K : ASt → Prop} {rest : List Oper} {d x ty pos aft}, goL C gs (⟨some d, .assign x, ty, pos, aft, none⟩ :: rest) s K = (d < C.n ∧ goL C gs rest ⟨upd s.env d (s.ev x), s.hp⟩ K)) ∧
    (∀ {C : Ctx} {gs : List (Option Tmp)} {s : ASt} {K : ASt → Prop} {rest : List Oper} {d c a b ty pos aft}, goL C gs (⟨some d, .pick c a b, ty, pos, aft, none⟩ :: rest) s K = (d < C.n ∧ outL C gs rest s (some d) K (fPick (s.ev c) (s.ev a) (s.ev b)))) ∧
    (∀ {C : Ctx} {gs : List (Option Tmp)} {s : ASt} {K : ASt → Prop} {rest : List Oper} {d e ty pos aft}, goL C gs (⟨some d, .alloc e, ty, pos, aft, none⟩ :: rest) s K = (d < C.n ∧ outL C gs rest s (some d) K (fAlloc C.E0.P s.hp e (C.nm d)))) ∧
    (∀ {C : Ctx} {gs : List (Option Tmp)} {s : ASt} {K : ASt → Prop} {rest : List Oper} {d e x ty pos aft}, goL C gs (⟨some d, .box e x, ty, pos, aft, none⟩ :: rest) s K = (d < C.n ∧ outL C gs rest s (some d) K (fBox s.hp e (s.ev x) (C.nm d)))) ∧
    (∀ {C : Ctx} {gs : List (Option Tmp)} {s : ASt} {K : ASt → Prop} {rest : List Oper} {d t ps ty pos aft}, goL C gs (⟨some d, .build t ps, ty, pos, aft, none⟩ :: rest) s K = (d < C.n ∧ outL C gs rest s (some d) K (fBuild C.E0.P s.hp t (ps.toList.map fun p => (p.1, s.ev p.2))))) ∧
    (∀ {C : Ctx} {gs : List (Option Tmp)} {s : ASt} {K : ASt → Prop} {rest : List Oper} {d t n ps ty pos aft}, goL C gs (⟨some d, .buildSlice t n ps, ty, pos, aft, none⟩ :: rest) s K = (d < C.n ∧ outL C gs rest s (some d) K (fBuildSlice C.E0.P s.hp t n (ps.toList.map fun p => (p.1, s.ev p.2)) (C.nm d)))) ∧
    (∀ {C : Ctx} {gs : List (Option Tmp)} {s : ASt} {K : ASt → Prop} {rest : List Oper} {d t x ty pos aft}, goL C gs (⟨some d, .load t x, ty, pos, aft, none⟩ :: rest) s K = (d < C.n ∧ outL C gs rest s (some d) K (fLoad C.E0.P s.hp t (s.ev x)))) ∧
    (∀ {C : Ctx} {gs : List (Option Tmp)} {s : ASt} {K : ASt → Prop} {rest : List Oper} {dst t p x ty pos aft}, goL C gs (⟨dst, .store t p x, ty, pos, aft, none⟩ :: rest) s K = (dstOK C.n ⟨dst, .store t p x, ty, pos, aft, none⟩ = true ∧ outL C gs rest s dst K (fStore C.E0.P s.hp t (s.ev p) (s.ev x)))) ∧
    (∀ {C : Ctx} {gs : List (Option Tmp)} {s : ASt} {K : ASt → Prop} {rest : List Oper} {dst x ty pos aft}, goL C gs (⟨dst, .nilCheck x, ty, pos, aft, none⟩ :: rest) s K = (dstOK C.n ⟨dst, .nilCheck x, ty, pos, aft, none⟩ = true ∧ outL C gs rest s dst K (fNil s.hp (s.ev x)))) ∧
    (∀ {C : Ctx} {gs : List (Option Tmp)} {s : ASt} {K : ASt → Prop} {rest : List Oper} {d op t x y u ty pos aft}, goL C gs (⟨some d, .binOp op t x y u, ty, pos, aft, none⟩ :: rest) s K = (d < C.n ∧ outL C gs rest s (some d) K (binP C.E0.P op t (s.ev x) (s.ev y)))) ∧
    (∀ {C : Ctx} {gs : List (Option Tmp)} {s : ASt} {K : ASt → Prop} {rest : List Oper} {d op t x ty pos aft}, goL C gs (⟨some d, .unOp op t x, ty, pos, aft, none⟩ :: rest) s K = (d < C.n ∧ outL C gs rest s (some d) K (unP op (s.ev x)))) ∧
    (∀ {C : Ctx} {gs : List (Option Tmp)} {s : ASt} {K : ASt → Prop} {rest : List Oper} {d t u x ty pos aft}, goL C gs (⟨some d, .convert t u x, ty, pos, aft, none⟩ :: rest) s K = (d < C.n ∧ outL C gs rest s (some d) K (fConv C.E0.P s.hp t u (s.ev x)))) ∧
    (∀ {C : Ctx} {gs : List (Option Tmp)} {s : ASt} {K : ASt → Prop} {rest : List Oper} {d f a b ty pos aft}, goL C gs (⟨some d, .makeFunc (.func f) a b, ty, pos, aft, none⟩ :: rest) s K = (d < C.n ∧ goL C gs rest ⟨upd s.env d (.fn f (evs s a) (evs s b)), s.hp⟩ K)) ∧
    (∀ {C : Ctx} {gs : List (Option Tmp)} {s : ASt} {K : ASt → Prop} {rest : List Oper} {d t x y ty pos aft}, goL C gs (⟨some d, .makeSlice t x y, ty, pos, aft, none⟩ :: rest) s K = (d < C.n ∧ outL C gs rest s (some d) K (fMake C.E0.P s.hp t (s.ev x) (s.ev y) (C.nm d)))) ∧
    (∀ {C : Ctx} {gs : List (Option Tmp)} {s : ASt} {K : ASt → Prop} {rest : List Oper} {d t x lo hi ty pos aft}, goL C gs (⟨some d, .slice t x lo hi none, ty, pos, aft, none⟩ :: rest) s K = (d < C.n ∧ outL C gs rest s (some d) K (fSlice C.E0.P s.hp t (s.ev x) (lo.map s.ev) (hi.map s.ev)))) ∧
    (∀ {C : Ctx} {gs : List (Option Tmp)} {s : ASt} {K : ASt → Prop} {rest : List Oper} {d t x f ty pos aft}, goL C gs (⟨some d, .fieldAddr t x f, ty, pos, aft, none⟩ :: rest) s K = (d < C.n ∧ outL C gs rest s (some d) K (fFieldAddr C.E0.P s.hp t (s.ev x) f))) ∧
    (∀ {C : Ctx} {gs : List (Option Tmp)} {s : ASt} {K : ASt → Prop} {rest : List Oper} {d t x f ty pos aft}, goL C gs (⟨some d, .field t x f, ty, pos, aft, none⟩ :: rest) s K = (d < C.n ∧ outL C gs rest s (some d) K (fField C.E0.P t (s.ev x) f))) ∧
    (∀ {C : Ctx} {gs : List (Option Tmp)} {s : ASt} {K : ASt → Prop} {rest : List Oper} {d t x i ty pos aft}, goL C gs (⟨some d, .indexAddr t x i, ty, pos, aft, none⟩ :: rest) s K = (d < C.n ∧ outL C gs rest s (some d) K (fIndexAddr C.E0.P s.hp t (s.ev x) (s.ev i)))) ∧
    (∀ {C : Ctx} {gs : List (Option Tmp)} {s : ASt} {K : ASt → Prop} {rest : List Oper} {d t x i ty pos aft}, goL C gs (⟨some d, .index t x i, ty, pos, aft, none⟩ :: rest) s K = (d < C.n ∧ outL C gs rest s (some d) K (fIndex C.E0.P t (s.ev x) (s.ev i)))) ∧
    (∀ {C : Ctx} {gs : List (Option Tmp)} {s : ASt} {K : ASt → Prop} {rest : List Oper} {d x i ty pos aft}, goL C gs (⟨some d, .extract x i, ty, pos, aft, none⟩ :: rest) s K = (d < C.n ∧ outL C gs rest s (some d) K (fExtract (s.ev x) i))) ∧
    (∀ {C : Ctx} {gs : List (Option Tmp)} {s : ASt} {K : ASt → Prop} {rest : List Oper} {d b as ats ty pos aft}, goL C gs (⟨some d, .call ⟨.builtin b, as, ats⟩, ty, pos, aft, none⟩ :: rest) s K = (d < C.n ∧ outL C gs rest s (some d) K (fBuiltin C.E0.P s b as.toList ats.toList (C.nm d)))) ∧
    (∀ {C : Ctx} {gs : List (Option Tmp)} {s : ASt} {K : ASt → Prop} {rest : List Oper} {dst fv as ats ty pos aft}, goL C gs (⟨dst, .call ⟨.value fv, as, ats⟩, ty, pos, aft, none⟩ :: rest) s K = (dstOK C.n ⟨dst, .call ⟨.value fv, as, ats⟩, ty, pos, aft, none⟩ = true ∧ CallL C s ⟨dst, .call ⟨.value fv, as, ats⟩, ty, pos, aft, none⟩ gs rest K)) ∧
    (∀ {C : Ctx} {gs : List (Option Tmp)} {s : ASt} {K : ASt → Prop} {rest : List Oper} {dst : Option Tmp} {op : Op} {j : Nat} {w : Bool} {ty pos aft}, goL C gs (⟨dst, op, ty, pos, aft, some (j, w)⟩ :: rest) s K =
      match wantG gs s j w with
      | some b => (b = w → goL C gs (⟨dst, op, ty, pos, aft, none⟩ :: rest) s K) ∧ (b = !w → dstOK C.n ⟨dst, op, ty, pos, aft, none⟩ = true ∧ goL C gs rest (s.put dst und) K)
      | none => False) :=
  ⟨goL_nil, goL_move, goL_assign, goL_pick, goL_alloc, goL_box, goL_build, goL_buildSlice, goL_load, goL_store, goL_nilCheck, goL_binOp, goL_unOp, goL_convert, goL_makeFunc, goL_makeSlice, goL_slice, goL_fieldAddr, goL_field, goL_indexAddr, goL_index, goL_extract, goL_builtin, goL_call, goL_guard⟩

/-- Outcomes, operands, slots. -/
theorem outs :
    (∀ {C : Ctx} {gs : List (Option Tmp)} {s : ASt} {K : ASt → Prop} {rest : List Oper} {x d}, outL C gs rest s (some d) K (val x) = goL C gs rest ⟨upd s.env d x, s.hp⟩ K) ∧
    (∀ {C : Ctx} {gs : List (Option Tmp)} {s : ASt} {K : ASt → Prop} {rest : List Oper} {c x d}, outL C gs rest s (some d) K (valIf c x) = (c ∧ goL C gs rest ⟨upd s.env d x, s.hp⟩ K)) ∧
    (∀ {C : Ctx} {gs : List (Option Tmp)} {s : ASt} {K : ASt → Prop} {rest : List Oper} {c x d}, outL C gs rest s (some d) K (c, ⟨x, none⟩) = (c ∧ goL C gs rest ⟨upd s.env d x, s.hp⟩ K)) ∧
    (∀ {C : Ctx} {gs : List (Option Tmp)} {s : ASt} {K : ASt → Prop} {rest : List Oper} {c x d id ver o}, outL C gs rest s (some d) K (c, ⟨x, some (id, ver, o)⟩) = (c ∧ goL C gs rest ⟨upd s.env d x, upd s.hp id (ver, o)⟩ K)) ∧
    (∀ {C : Ctx} {gs : List (Option Tmp)} {s : ASt} {K : ASt → Prop} {rest : List Oper} {c x}, outL C gs rest s none K (c, ⟨x, none⟩) = (c ∧ goL C gs rest s K)) ∧
    (∀ {C : Ctx} {gs : List (Option Tmp)} {s : ASt} {K : ASt → Prop} {rest : List Oper} {c x}, outL C gs rest s none K (valIf c x) = (c ∧ goL C gs rest s K)) ∧
    (∀ {C : Ctx} {gs : List (Option Tmp)} {s : ASt} {K : ASt → Prop} {rest : List Oper} {c x id ver o}, outL C gs rest s none K (c, ⟨x, some (id, ver, o)⟩) = (c ∧ goL C gs rest ⟨s.env, upd s.hp id (ver, o)⟩ K)) ∧
    (∀ {C : Ctx} {gs : List (Option Tmp)} {s : ASt} {K : ASt → Prop} {rest : List Oper} {dst}, outL C gs rest s dst K no = False) :=
  ⟨outL_val, outL_valIf, outL_none, outL_some, outL_none0, by simp [outL, valIf, ASt.app, ASt.put], outL_some0, outL_no⟩

theorem ops' :
    (∀ {s : ASt} {t}, s.ev (.tmp t) = s.env t) ∧ (∀ {s : ASt} {f}, s.ev (.func f) = .fn f [] []) ∧ (∀ {s : ASt} {k n}, s.ev (.const (.int k n)) = .d true (.int k n)) ∧ (∀ {s : ASt} {b}, s.ev (.const (.bool b)) = .d true (.bool b)) ∧
    (∀ {s : ASt}, s.ev (.const (.slice none 0 0)) = .d true .nil) ∧ (∀ {s : ASt} {b : ByteArray}, s.ev (.const (.string b)) = .d true (.str b.data.toList)) ∧
    (∀ {α : Type} {f : Nat → α} {i j : Nat} {x : α}, upd f i x j = if j = i then x else f j) ∧
    (∀ {n N P hp X}, (mkC n N P hp X).n = n) ∧ (∀ {n N P hp X}, (mkC n N P hp X).N = N) ∧ (∀ {n N P hp X}, (mkC n N P hp X).E0.P = P) ∧ (∀ {n N P hp X}, (mkC n N P hp X).E0.hp = hp) ∧ (∀ {n N P hp X d}, (mkC n N P hp X).nm d = N + d) :=
  ⟨rfl, rfl, rfl, rfl, rfl, rfl, rfl, rfl, rfl, rfl, rfl, rfl⟩

/-- Results. -/
theorem rets : (∀ {C : Ctx} {s : ASt} {Q : PV → HP → Prop} {rs : List ResultVar}, retA C rs Q .ret s = retP C rs Q s) ∧ (∀ {C : Ctx} {s : ASt} {Q : PV → HP → Prop} {rs : List ResultVar}, retA C rs Q .normal s = retP C rs Q s) ∧
    (∀ {C : Ctx} {s : ASt} {t : Nat} {Q : PV → HP → Prop}, retP C [.tmp t] Q s = finP C s (normP (s.env t)) Q) := by
  refine ⟨rfl, rfl, ?_⟩
  intros
  simp [retP, resPs, resP, val]

theorem normP_d {x : PD} : normP (.d true x) = .d true x := rfl
theorem normP_int {k : Bool} {K : IntKind} {n : Int} : normP (.d k (.int K n)) = .d true (.int K n) := by cases k <;> rfl
theorem normP_bool {k : Bool} {b : Bool} : normP (.d k (.bool b)) = .d true (.bool b) := by cases k <;> rfl
theorem normP_str {k : Bool} {b : List UInt8} : normP (.d k (.str b)) = .d true (.str b) := by cases k <;> rfl

theorem cutN_self {N : Nat} {hp : HP} : cutN N hp hp = hp := by funext id; simp [cutN]

/-- Nothing has turned. -/
theorem finP_same {P : Program} {n N : Nat} {hp : HP} {X : Ext} {env : Nat → PV} {x : PD} {k : Bool} {Q : PV → HP → Prop} (hl : lowOK N hp hp) : finP (mkC n N P hp X) ⟨env, hp⟩ (.d k x) Q = Q (.d k x) hp := by
  simp [finP, mkC_N, mkC_hp, cutN_self, locOK, hl]

theorem cutN_low {N : Nat} {hp hp' : HP} (h : ∀ id, id < N → hp' id = hp id) : cutN N hp hp' = hp := by
  funext id
  by_cases hid : id < N
  · simp [cutN, hid, h id hid]
  · simp [cutN, hid]

/-- No object of the caller's has turned. -/
theorem finP_low {P : Program} {n N : Nat} {hp : HP} {X : Ext} {s : ASt} {x : PD} {k : Bool} {Q : PV → HP → Prop} (h : ∀ id, id < N → s.hp id = hp id) (hq : Q (.d k x) hp) : finP (mkC n N P hp X) s (.d k x) Q := by
  refine ⟨?_, trivial, fun id hid => .inl (h id hid)⟩
  simp only [mkC_N, mkC_hp, cutN_low h]
  exact hq

/-- What omega knows. -/
theorem leN {a b : Nat} (h : a ≤ b) : (a ≤ b) = True := by simp [h]
theorem ltN {a b : Nat} (h : a < b) : (a < b) = True := by simp [h]
theorem leI {a b : Int} (h : a ≤ b) : (a ≤ b) = True := by simp [h]
theorem ltI {a b : Int} (h : a < b) : (a < b) = True := by simp [h]
theorem leNF {a b : Nat} (h : b < a) : (a ≤ b) = False := by simp [h]
theorem ltNF {a b : Nat} (h : b ≤ a) : (a < b) = False := by simp [h]
theorem leIF {a b : Int} (h : b < a) : (a ≤ b) = False := by simp [h]
theorem ltIF {a b : Int} (h : b ≤ a) : (a < b) = False := by simp [h]
theorem eqNF {a b : Nat} (h : a ≠ b) : (a = b) = False := by simp [h]
theorem beqF {a b : Int} (h : a ≠ b) : (a == b) = false := by simp [h]
theorem beqT {a b : Int} (h : a = b) : (a == b) = true := by simp [h]

end Go.Abs
