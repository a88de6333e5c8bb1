/- What one operation does to a state of the calculus, as a function; the operations that only yield a value are sound. No condition. -/
import Derived.Test.YtfhpoffgnpgagaaAbsB
import Derived.Laws.Small
import Derived.Laws.StructEq
import Derived.Laws.Cover3
set_option linter.unusedSimpArgs false
set_option linter.unusedVariables false
namespace Go.Abs

/-- What a type is to the calculus: is it a struct or an array; how many cells. -/
def tyT (P : Program) (t : TypeId) : Option (Bool × Nat) :=
  match P.info? t, P.underlying t with
  | some i, some (.struct _) => some (true, i.size)
  | some i, some (.array _ _) => some (true, i.size)
  | some i, some _ => some (false, i.size)
  | _, _ => none
def elemT (P : Program) (t : TypeId) : Option TypeId := match P.underlying t with | some (.slice e) => some e | _ => none
/-- A field: where it begins, how many cells it has, its type. -/
def fieldT (P : Program) (t : TypeId) (f : Nat) : Option (Nat × Nat × TypeId) :=
  match P.underlying t with
  | some (.struct fs) => match fs[f]? with
    | some x => match P.info? x.type with
      | some i => some (x.offset, i.size, x.type)
      | none => none
    | none => none
  | _ => none
def isStr (P : Program) (t : TypeId) : Bool := match P.underlying t with | some .string => true | _ => false
def zeroT (P : Program) (t : TypeId) : Option (List PV) :=
  match P.info? t with
  | some i => match i.zero with
    | some z => z.cells.toList.mapM fun v => (pdOf v).map (PV.d true)
    | none => none
  | none => none

/-- The effect of an operation: its value; an object that has turned. -/
structure Eff where
  x : PV
  o : Option (Nat × Nat × Option AObj)

def ASt.app (s : ASt) (dst : Option Tmp) (e : Eff) : ASt :=
  match e.o with
  | none => s.put dst e.x
  | some (id, ver, o') => { env := (s.put dst e.x).env, hp := upd s.hp id (ver, o') }

/-- A condition and an effect; 'no': the calculus has no law there. -/
abbrev Out := Prop × Eff
def no : Out := (False, ⟨.dead, none⟩)
def val (x : PV) : Out := (True, ⟨x, none⟩)
def valIf (c : Prop) (x : PV) : Out := (c, ⟨x, none⟩)

def ordPD (a b : List UInt8) : Bool := Op.bytesLess a b

def binInt (op : BinOp) (k : IntKind) (a b : Int) : Out :=
  match op with
  | .add => val (.d true (.int k (k.wrap (a + b))))
  | .sub => val (.d true (.int k (k.wrap (a - b))))
  | .mul => val (.d true (.int k (k.wrap (a * b))))
  | .quo => valIf (b ≠ 0) (.d true (.int k (k.wrap (a.tdiv b))))
  | .rem => valIf (b ≠ 0) (.d true (.int k (a.tmod b)))
  | .and => val (.d true (.int k (k.wrap (BitVec.ofInt k.bits a &&& BitVec.ofInt k.bits b).toNat)))
  | .or => val (.d true (.int k (k.wrap (BitVec.ofInt k.bits a ||| BitVec.ofInt k.bits b).toNat)))
  | .xor => val (.d true (.int k (k.wrap (BitVec.ofInt k.bits a ^^^ BitVec.ofInt k.bits b).toNat)))
  | .andNot => val (.d true (.int k (k.wrap (BitVec.ofInt k.bits a &&& ~~~BitVec.ofInt k.bits b).toNat)))
  | .eql => val (.d true (.bool (a == b)))
  | .neq => val (.d true (.bool (a != b)))
  | .lss => val (.d true (.bool (decide (a < b))))
  | .leq => val (.d true (.bool (decide (a ≤ b))))
  | .gtr => val (.d true (.bool (decide (b < a))))
  | .geq => val (.d true (.bool (decide (b ≤ a))))
  | _ => no

def shInt (op : BinOp) (k : IntKind) (a b : Int) : Out :=
  match op with
  | .shl => valIf (0 ≤ b) (.d true (.int k (k.wrap (a * 2 ^ (min b.toNat k.bits)))))
  | .shr => valIf (0 ≤ b) (.d true (.int k (a.fdiv (2 ^ (min b.toNat k.bits)))))
  | _ => no

def binStr (op : BinOp) (a b : List UInt8) : Out :=
  match op with
  | .add => valIf (a.length + b.length ≤ 9223372036854775807) (.d true (.str (a ++ b)))
  | .eql => val (.d true (.bool (a == b)))
  | .neq => val (.d true (.bool (!(a == b))))
  | .lss => val (.d true (.bool (Op.bytesLess a b)))
  | .leq => val (.d true (.bool (Op.bytesLess a b || a == b)))
  | .gtr => val (.d true (.bool (!(Op.bytesLess a b || a == b))))
  | .geq => val (.d true (.bool (!Op.bytesLess a b)))
  | _ => no

def isSh : BinOp → Bool | .shl => true | .shr => true | _ => false

/-- A struct of plain fields: where each lies, of which sort (0 int, 1 bool, 2 string). -/
def eqF (P : Program) (f : Field) : Option (Nat × Nat) :=
  if f.name ≠ "_" ∧ tyT P f.type = some (false, 1) then
    match P.underlying f.type with
    | some (.int _) => some (f.offset, 0)
    | some .bool => some (f.offset, 1)
    | some .string => some (f.offset, 2)
    | _ => none
  else none
def eqT (P : Program) (t : TypeId) : Option (List (Nat × Nat)) :=
  if (P.stoodInHeld t || P.eqGuardType P.depth t) = true then none else
  match P.underlying t with
  | some (.struct fs) => fs.toList.mapM (eqF P)
  | _ => none
def eqOne : Nat → PD → PD → Option Bool
  | 0, .int k a, .int k' b => if k = k' then some (a == b) else none
  | 1, .bool a, .bool b => some (a == b)
  | 2, .str a, .str b => some (a == b)
  | _, _, _ => none
def eqCells : List (Nat × Nat) → List PD → List PD → Option Bool
  | [], _, _ => some true
  | (o, g) :: l, ds, es => match ds[o]?, es[o]? with
    | some a, some b => match eqOne g a b, eqCells l ds es with
      | some p, some q => some (p && q)
      | _, _ => none
    | _, _ => none
def dataL : List PV → Option (List PD)
  | [] => some []
  | .d _ x :: l => match dataL l with
    | some r => some (x :: r)
    | none => none
  | _ => none
def aggD : PV → Option (List PD)
  | .d _ (.agg ds) => some ds
  | .agg cs => dataL cs
  | _ => none
def eqOut (op : BinOp) (b : Bool) : Out :=
  match op with
  | .eql => val (.d true (.bool b))
  | .neq => val (.d true (.bool (!b)))
  | _ => no
def binX (P : Program) (op : BinOp) (t : TypeId) (x y : PV) : Out :=
  match x, y with
  | .d _ (.lst n _), .d _ .nil => if 0 < n ∧ (elemT P t).isSome = true then eqOut op false else no
  | .d _ .nil, .d _ .nil => if (elemT P t).isSome = true then eqOut op true else no
  | x, y => match eqT P t, aggD x, aggD y with
    | some l, some ds, some es => match eqCells l ds es with
      | some b => eqOut op b
      | none => no
    | _, _, _ => no

def binP (P : Program) (op : BinOp) (t : TypeId) (x y : PV) : Out :=
  match x, y with
  | .d _ (.int k a), .d _ (.int k' b) => if isSh op then shInt op k a b else if k = k' then binInt op k a b else no
  | .d _ (.str a), .d _ (.str b) => if isSh op then no else binStr op a b
  | .d _ (.bool a), .d _ (.bool b) => if P.underlying t matches some .bool then (match op with | .eql => val (.d true (.bool (a == b))) | .neq => val (.d true (.bool (!(a == b)))) | _ => no) else no
  | x, y => binX P op t x y

def unP (op : UnOp) (x : PV) : Out :=
  match op, x with
  | .not, .d _ (.bool b) => val (.d true (.bool (!b)))
  | .neg, .d _ (.int k n) => val (.d true (.int k (k.wrap (0 - n))))
  | _, _ => no

/-- An operation's value is on hand, nothing else turns. -/
theorem wp_val {P : Program} {o : Oper} {a : Act} {w : World} {K : Act → World → Prop} {Q : Exit → Act → World → Prop} {v : Value}
    (h : (execOp a.eval o).run P w = .ok (.value v) w) (hk : K (a.put o.dst v) w) : o.wp P a w K Q := by
  unfold Oper.wp; rw [h]; exact hk

theorem V_int {E : AEnv} {k : Bool} {ki : IntKind} {n : Int} {v : Value} (h : V E (.d k (.int ki n)) v) : v = .int ki n := by
  cases h with | d _ _ _ h => cases h; rfl
theorem V_bool {E : AEnv} {k : Bool} {b : Bool} {v : Value} (h : V E (.d k (.bool b)) v) : v = .bool b := by
  cases h with | d _ _ _ h => cases h; rfl
theorem V_str {E : AEnv} {k : Bool} {s : List UInt8} {v : Value} (h : V E (.d k (.str s)) v) : v = .string ⟨s.toArray⟩ := by
  cases h with | d _ _ _ h => cases h; rfl
theorem mk_int {E : AEnv} {k : Bool} {ki : IntKind} {n : Int} : V E (.d k (.int ki n)) (.int ki n) := .d _ _ _ (.int _ _)
theorem mk_bool {E : AEnv} {k : Bool} {b : Bool} : V E (.d k (.bool b)) (.bool b) := .d _ _ _ (.bool _)
theorem mk_str {E : AEnv} {k : Bool} {s : List UInt8} : V E (.d k (.str s)) (.string ⟨s.toArray⟩) := .d _ _ _ (.str _)

theorem run_eqGuard_scalar (P : Program) (w : World) (op : BinOp) (t : TypeId) (x y : Operand) (a b : Value) (ha : ∀ cs, a ≠ .agg cs) (hn : a ≠ .nilIface) : (eqGuard op t x y a b).run P w = .ok () w := by
  unfold eqGuard
  cases op <;> first
    | rfl
    | (cases a <;> first
        | rfl
        | exact absurd rfl hn
        | (rename_i cs; exact absurd rfl (ha cs)))

theorem toList_str (s : List UInt8) : (ByteArray.mk s.toArray).toList = s := by
  have : ∀ (n : Nat) (l : List UInt8) (i : Nat) (r : List UInt8), l.length - i = n → ByteArray.toList.loop ⟨l.toArray⟩ i r = r.reverse ++ l.drop i := by
    intro n
    induction n with
    | zero =>
      intro l i r h
      rw [ByteArray.toList.loop]
      have h1 : ¬ i < (ByteArray.mk l.toArray).size := by show ¬ i < l.toArray.size; simp; omega
      rw [if_neg h1, List.drop_eq_nil_of_le (by omega)]
      simp
    | succ n ih =>
      intro l i r h
      rw [ByteArray.toList.loop]
      have h1 : i < (ByteArray.mk l.toArray).size := by show i < l.toArray.size; simp; omega
      have h2 : i < l.length := by omega
      rw [if_pos h1, ih l (i + 1) _ (by omega)]
      have h3 : (ByteArray.mk l.toArray).get! i = l[i] := by
        show l.toArray[i]! = l[i]
        simp [h2]
      rw [h3, List.drop_eq_getElem_cons h2]
      simp
  have h := this _ s 0 [] rfl
  unfold ByteArray.toList
  rw [h]; simp

theorem dataL_get {E : AEnv} : ∀ (cs : List PV) (ds : List PD), dataL cs = some ds → ds.length = cs.length ∧ ∀ (i : Nat) d, ds[i]? = some d → ∃ k, cs[i]? = some (.d k d)
  | [], ds, h => by simp [dataL] at h; subst h; exact ⟨rfl, by simp⟩
  | .d k x :: l, ds, h => by
    simp only [dataL] at h
    split at h <;> try (cases h; done)
    rename_i r hr
    simp at h; subst h
    obtain ⟨h1, h2⟩ := dataL_get (E := E) l r hr
    refine ⟨by simp [h1], fun i d hd => ?_⟩
    cases i with
    | zero => simp at hd; subst hd; exact ⟨k, rfl⟩
    | succ i => simpa using h2 i d (by simpa using hd)
  | .own _ _ _ _ :: _, _, h => by simp [dataL] at h
  | .ptr _ _ _ :: _, _, h => by simp [dataL] at h
  | .fn _ _ _ :: _, _, h => by simp [dataL] at h
  | .agg _ :: _, _, h => by simp [dataL] at h
  | .dead :: _, _, h => by simp [dataL] at h

theorem aggD_V {E : AEnv} {x : PV} {v : Value} (h : V E x v) {ds : List PD} (hd : aggD x = some ds) : ∃ cs, v = .agg cs ∧ ∀ (i : Nat) d, ds[i]? = some d → i < cs.size ∧ ∃ I, VD I E.h d (cs.getD i undef) := by
  cases h with
  | d k y v h =>
    cases h <;> simp [aggD] at hd
    rename_i es cs h1 h2
    subst hd
    exact ⟨cs, rfl, fun i d hd => ⟨by rw [← h1]; exact (List.getElem?_eq_some_iff.1 hd).1, _, h2 i d hd⟩⟩
  | agg es cs h1 h2 =>
    simp only [aggD] at hd
    obtain ⟨g1, g2⟩ := dataL_get (E := E) es ds hd
    refine ⟨cs, rfl, fun i d hd => ⟨by rw [← h1, ← g1]; exact (List.getElem?_eq_some_iff.1 hd).1, ?_⟩⟩
    obtain ⟨k, hk⟩ := g2 i d hd
    have := h2 i _ hk
    cases this with
    | d _ _ _ hv => exact ⟨_, hv⟩
  | _ => simp [aggD] at hd

theorem eqF_run {P : Program} {f : Field} {o g : Nat} (h : eqF P f = some (o, g)) : f.name ≠ "_" ∧ f.offset = o ∧ tyT P f.type = some (false, 1) ∧ ((g = 0 ∧ ∃ k, P.underlying f.type = some (.int k)) ∨ (g = 1 ∧ P.underlying f.type = some .bool) ∨ (g = 2 ∧ P.underlying f.type = some .string)) := by
  unfold eqF at h
  split at h
  · rename_i hc
    refine ⟨hc.1, ?_⟩
    split at h <;> simp at h <;> obtain ⟨h1, h2⟩ := h <;> rename_i hu
    · exact ⟨h1, hc.2, .inl ⟨h2.symm, _, hu⟩⟩
    · exact ⟨h1, hc.2, .inr (.inl ⟨h2.symm, hu⟩)⟩
    · exact ⟨h1, hc.2, .inr (.inr ⟨h2.symm, hu⟩)⟩
  · cases h

theorem run_part1 {P : Program} {w : World} {ft : TypeId} (ht : tyT P ft = some (false, 1)) (cs : Array Value) (off : Nat) (hn : off < cs.size) :
    (part ft cs off).run P w = .ok (cs.getD off undef) w := by
  unfold tyT at ht
  cases hi : P.info? ft with
  | none => simp [hi] at ht
  | some i =>
    cases hu : P.underlying ft with
    | none => simp [hi, hu] at ht
    | some d =>
      have ha : (isAgg ft).run P w = .ok false w := by
        cases d <;> simp [hi, hu] at ht <;> simp [isAgg, run_underlying hu]
      simp [part, ha, hn]

theorem eqFields_run {P : Program} {h : Array Obj} {w : World} (d : Nat) {xs ys : Array Value} {ds es : List PD} (hx : ∀ (i : Nat) d, ds[i]? = some d → i < xs.size ∧ ∃ I, VD I h d (xs.getD i undef)) (hy : ∀ (i : Nat) d, es[i]? = some d → i < ys.size ∧ ∃ I, VD I h d (ys.getD i undef)) :
    ∀ (fs : List Field) (l : List (Nat × Nat)) (b : Bool), fs.mapM (eqF P) = some l → eqCells l ds es = some b → (Op.eqFields (d + 1) xs ys fs).run P w = .ok b w
  | [], l, b, hl, hb => by
    simp at hl; subst hl
    simp [eqCells] at hb; subst hb
    simp [Op.eqFields]
  | f :: fs, l, b, hl, hb => by
    simp only [List.mapM_cons, Option.bind_eq_bind, Option.pure_def] at hl
    cases hf : eqF P f with
    | none => simp [hf] at hl
    | some og =>
      obtain ⟨o, g⟩ := og
      cases hr : fs.mapM (eqF P) with
      | none => simp [hf, hr] at hl
      | some r =>
        simp [hf, hr] at hl; subst hl
        obtain ⟨n1, n2, n3, n4⟩ := eqF_run hf
        simp only [eqCells] at hb
        split at hb <;> try (cases hb; done)
        rename_i x y hdx hey
        split at hb <;> try (cases hb; done)
        rename_i p q hp hq
        simp at hb
        obtain ⟨lx, I1, vx⟩ := hx o x hdx
        obtain ⟨ly, I2, vy⟩ := hy o y hey
        have one : (Op.equalIn (d + 1) f.type (xs.getD o undef) (ys.getD o undef)).run P w = .ok p w := by
          generalize xs.getD o undef = u at vx
          generalize ys.getD o undef = v at vy
          rcases n4 with ⟨rfl, k, hu⟩ | ⟨rfl, hu⟩ | ⟨rfl, hu⟩
          · cases x <;> cases y <;> simp [eqOne] at hp
            cases vx; cases vy
            obtain ⟨rfl, rfl⟩ := hp
            exact run_equalIn_int w d f.type _ k _ _ hu
          · cases x <;> cases y <;> simp [eqOne] at hp
            cases vx; cases vy
            subst hp
            exact run_equalIn_bool' w d f.type _ _ hu
          · cases x <;> cases y <;> simp [eqOne] at hp
            cases vx; cases vy
            subst hp
            rw [run_equalIn_string w d f.type _ _ hu]
            simp [toList_str]
        simp only [Op.eqFields, n1, ne_eq, not_false_eq_true, if_true, n2, Sem.run_bind, run_part1 n3 xs o lx, run_part1 n3 ys o ly, Result.andThen_ok, one]
        cases p with
        | true => simp only [Bool.not_true, Bool.false_eq_true, if_false]; simp at hb; subst hb; exact eqFields_run d hx hy fs r q hr hq
        | false => simp at hb; subst hb; simp

theorem eqT_run {P : Program} {t : TypeId} {l : List (Nat × Nat)} (h : eqT P t = some l) : P.underlying t = some (.struct (P.fieldsOf t)) ∧ P.stoodInHeld t = false ∧ P.eqGuardType P.depth t = false ∧ (P.fieldsOf t).toList.mapM (eqF P) = some l := by
  unfold eqT at h
  split at h
  · cases h
  · rename_i hc
    simp only [Bool.or_eq_true, not_or, Bool.not_eq_true] at hc
    split at h
    · rename_i fs hu
      have : P.fieldsOf t = fs := by simp [Program.fieldsOf, hu]
      rw [this]
      exact ⟨hu, hc.1, hc.2, h⟩
    · cases h

theorem eqOut_run {P : Program} {E : AEnv} {op : BinOp} {t : TypeId} {vx vy : Value} {w : World} {b : Bool} (hc : (eqOut op b).1) (h1 : op = .eql → (binOp .eql t vx vy).run P w = .ok (.bool b) w) (h2 : op = .neq → (binOp .neq t vx vy).run P w = .ok (.bool (!b)) w) :
    (eqOut op b).2.o = none ∧ ∃ v, V E (eqOut op b).2.x v ∧ (binOp op t vx vy).run P w = .ok v w := by
  cases op <;> simp only [eqOut] at hc ⊢ <;> first | exact hc.elim | exact ⟨rfl, _, mk_bool, h1 rfl⟩ | exact ⟨rfl, _, mk_bool, h2 rfl⟩

theorem binX_sound {P : Program} {E : AEnv} {op : BinOp} {t : TypeId} {x y : Operand} {px py : PV} {vx vy : Value} (hx : V E px vx) (hy : V E py vy) (w : World)
    (hc : (binX P op t px py).1) : (binX P op t px py).2.o = none ∧ ∃ v, V E (binX P op t px py).2.x v ∧ ((do eqGuard op t x y vx vy; binOp op t vx vy : Sem Value)).run P w = .ok v w := by
  have slice : ∀ {e : TypeId} (_ : P.underlying t = some (.slice e)) (a : Option Addr) (n c : Nat), (eqGuard op t x y (.slice a n c) (.slice none 0 0)).run P w = .ok () w ∧ (binOp .eql t (.slice a n c) (.slice none 0 0)).run P w = .ok (.bool a.isNone) w ∧ (binOp .neq t (.slice a n c) (.slice none 0 0)).run P w = .ok (.bool (!a.isNone)) w := by
    intro e hu a n c
    refine ⟨?_, ?_, ?_⟩
    · cases op <;> simp [eqGuard]
    · simp only [binOp]; simp [run_equal_slice_nil w t e a n c hu]
    · simp only [binOp]; simp [run_equal_slice_nil w t e a n c hu]
  have elem : (elemT P t).isSome = true → ∃ e, P.underlying t = some (.slice e) := by
    intro h
    unfold elemT at h
    split at h
    · rename_i e hu; exact ⟨e, hu⟩
    · cases h
  unfold binX at hc ⊢
  split at hc
  · rename_i k n cs k'
    split at hc
    · rename_i hh
      obtain ⟨hn, he⟩ := hh
      obtain ⟨e, hu⟩ := elem he
      rw [if_pos ⟨hn, he⟩]
      cases hx with
      | d _ _ _ hx =>
        cases hy with
        | d _ _ _ hy =>
          cases hy
          cases hx with
          | lst0 => omega
          | lst _ _ b o cap =>
            obtain ⟨s1, s2, s3⟩ := slice hu (some ⟨b, o, none⟩) n cap
            obtain ⟨q1, v, q2, q3⟩ := eqOut_run (E := E) (b := false) (vx := .slice (some ⟨b, o, none⟩) n cap) (vy := .slice none 0 0) (P := P) (w := w) (t := t) hc (fun _ => s2) (fun _ => s3)
            exact ⟨q1, v, q2, by simp only [Sem.run_bind, s1, Result.andThen_ok, q3]⟩
    · simp [no] at hc
  · rename_i k k'
    split at hc
    · rename_i he
      obtain ⟨e, hu⟩ := elem he
      rw [if_pos he]
      cases hx with
      | d _ _ _ hx =>
        cases hy with
        | d _ _ _ hy =>
          cases hy; cases hx
          obtain ⟨s1, s2, s3⟩ := slice hu none 0 0
          obtain ⟨q1, v, q2, q3⟩ := eqOut_run (E := E) (b := true) (vx := .slice none 0 0) (vy := .slice none 0 0) (P := P) (w := w) (t := t) hc (fun _ => s2) (fun _ => s3)
          exact ⟨q1, v, q2, by simp only [Sem.run_bind, s1, Result.andThen_ok, q3]⟩
    · simp [no] at hc
  · split at hc <;> try (simp [no] at hc; done)
    rename_i l ds es hl hds hes
    split at hc <;> try (simp [no] at hc; done)
    rename_i b hb
    obtain ⟨xs, rfl, hxs⟩ := aggD_V hx hds
    obtain ⟨ys, rfl, hys⟩ := aggD_V hy hes
    obtain ⟨g1, g2, g3, g4⟩ := eqT_run hl
    have hrun := eqFields_run (P := P) (h := E.h) (w := w) 9998 hxs hys _ l b g4 hb
    have hin : (Op.equalIn 10000 t (.agg xs) (.agg ys)).run P w = .ok b w := by
      rw [run_equalIn_struct w 9999 t xs ys g1 g2]; exact hrun
    obtain ⟨q1, v, q2, q3⟩ := eqOut_run (E := E) (b := b) (vx := .agg xs) (vy := .agg ys) (P := P) (w := w) (t := t) hc (fun _ => by rw [run_eql_struct, hin]; rfl) (fun _ => by rw [run_neq_struct, hin]; rfl)
    exact ⟨q1, v, q2, by simp only [Sem.run_bind, run_eqGuard_agg w op t x y xs ys g3, Result.andThen_ok, q3]⟩

theorem binP_sound {P : Program} {E : AEnv} {op : BinOp} {t yt : TypeId} {x y : Operand} {px py : PV} {vx vy : Value} (hx : V E px vx) (hy : V E py vy) (w : World)
    (hc : (binP P op t px py).1) : (binP P op t px py).2.o = none ∧ ∃ v, V E (binP P op t px py).2.x v ∧ ((do eqGuard op t x y vx vy; binOp op t vx vy : Sem Value)).run P w = .ok v w := by
  unfold binP at hc ⊢
  split at hc
  · rename_i k1 k a k2 k' b
    have e1 := V_int hx; have e2 := V_int hy; subst e1; subst e2
    simp only [Sem.run_bind, run_eqGuard_scalar P w op t x y (.int k a) (.int k' b) (by simp) (by simp), Result.andThen_ok]
    by_cases hs : isSh op = true
    · simp only [hs, if_true] at hc ⊢
      cases op <;> simp [isSh] at hs
      · simp only [shInt, valIf] at hc ⊢
        exact ⟨trivial, _, mk_int, by simp [binOp, Op.shift, Int.not_lt.2 hc]⟩
      · simp only [shInt, valIf] at hc ⊢
        exact ⟨trivial, _, mk_int, by simp [binOp, Op.shift, Int.not_lt.2 hc]⟩
    · simp only [hs] at hc ⊢
      by_cases hk : k = k'
      · subst hk
        simp only [if_true, Bool.false_eq_true, if_false] at hc ⊢
        cases op <;> simp [isSh] at hs <;> simp only [binInt] at hc ⊢ <;>
          first
            | exact hc.elim
            | (refine ⟨rfl, _, mk_int, ?_⟩; simp [binOp, Op.intArith, Op.intBits]; done)
            | (refine ⟨rfl, _, mk_bool, ?_⟩; simp [binOp, Op.intCmp]; done)
            | (have hb : b ≠ 0 := hc
               refine ⟨rfl, _, mk_int, ?_⟩; simp [binOp, Op.intDiv, hb]; done)
      · simp only [hk, if_false, no, Bool.false_eq_true] at hc
  · rename_i k1 a k2 b
    have e1 := V_str hx; have e2 := V_str hy; subst e1; subst e2
    simp only [Sem.run_bind, run_eqGuard_scalar P w op t x y (.string ⟨a.toArray⟩) (.string ⟨b.toArray⟩) (by simp) (by simp), Result.andThen_ok]
    by_cases hs : isSh op = true
    · simp [hs, no] at hc
    · simp only [hs, Bool.false_eq_true, if_false] at hc ⊢
      cases op <;> simp [isSh] at hs <;> simp only [binStr] at hc ⊢ <;>
        first
          | exact hc.elim
          | exact ⟨rfl, _, mk_bool, by simp [binOp, Op.stringOp, toList_str]⟩
          | (simp only [valIf] at hc
             refine ⟨rfl, _, mk_str, ?_⟩
             have hz : (ByteArray.mk a.toArray).size + (ByteArray.mk b.toArray).size = a.length + b.length := by simp [ByteArray.size]
             have : ¬ ((((ByteArray.mk a.toArray).size + (ByteArray.mk b.toArray).size : Nat) : Int) > IntKind.i64.max) := by
               rw [hz]; simp [IntKind.max, IntKind.signed, IntKind.bits]; omega
             have happ : (ByteArray.mk a.toArray) ++ (ByteArray.mk b.toArray) = ByteArray.mk (a ++ b).toArray := by
               apply ByteArray.ext; simp
             simp only [binOp, Op.stringOp, this, if_false, happ, Sem.run_pure])
  · rename_i k1 a k2 b
    have e1 := V_bool hx; have e2 := V_bool hy; subst e1; subst e2
    simp only [Sem.run_bind, run_eqGuard_scalar P w op t x y (.bool a) (.bool b) (by simp) (by simp), Result.andThen_ok]
    split at hc
    · rename_i hu
      have hu' : P.underlying t = some .bool := by
        revert hu; cases P.underlying t with
        | none => simp
        | some d => cases d <;> simp
      simp only [if_true] at hc ⊢
      cases op <;>
        first
          | exact hc.elim
          | exact ⟨rfl, _, mk_bool, by simp [run_eql_bool w t a b hu']⟩
          | exact ⟨rfl, _, mk_bool, by simp [run_neq_bool w t a b hu']⟩
    · simp [no] at hc
  · exact binX_sound hx hy w hc

theorem unP_sound {P : Program} {E : AEnv} {op : UnOp} {px : PV} {vx : Value} (hx : V E px vx) (w : World) (hc : (unP op px).1) :
    (unP op px).2.o = none ∧ ∃ v, V E (unP op px).2.x v ∧ (Op.unary op vx).run P w = .ok v w := by
  unfold unP at hc ⊢
  split at hc
  · have e := V_bool hx; subst e; exact ⟨rfl, _, mk_bool, by simp [Op.unary]⟩
  · have e := V_int hx; subst e; exact ⟨rfl, _, mk_int, by simp [Op.unary, Op.intArith]⟩
  · simp [no] at hc

end Go.Abs
