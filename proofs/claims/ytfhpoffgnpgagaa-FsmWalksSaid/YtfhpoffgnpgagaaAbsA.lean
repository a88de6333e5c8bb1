/- The abstract values of the calculus and how they lie in the model's memory. No condition. -/
import Derived.Orders
import Derived.Laws.AppendOwn
import Derived.Laws.OwnMore
import Derived.Below
import Derived.OwnWalk
set_option linter.unusedSimpArgs false
set_option linter.unusedVariables false
namespace Go.Abs

/-- Data that nobody changes any more: numbers, truths, texts, structs, tuples, slices (their cells, flat), places in such cells. -/
inductive PD where
  | int (k : IntKind) (n : Int)
  | bool (b : Bool)
  | str (s : List UInt8)
  | nil
  | agg (cs : List PD)
  | tup (cs : List PD)
  | lst (n : Nat) (cs : List PD)
  | lp (cs : List PD)
  deriving Inhabited

/-- What a slot may hold: data (k: of this call's own keeping or from before), a handle on an object, a place in one, a function value. -/
inductive PV where
  | d (k : Bool) (x : PD)
  | own (id ver off len : Nat)
  | ptr (id ver off : Nat)
  | fn (f : FuncId) (first caps : List PV)
  | agg (cs : List PV)
  | dead
  deriving Inhabited

/-- What lies in a block that turns: a row of cells; a text that is ranged over. -/
inductive AObj where
  | cells (ety : TypeId) (row : List PV)
  | iter (s : List UInt8) (pos : Nat)
  deriving Inhabited

abbrev HP := Nat → Nat × Option AObj

def szOf (P : Program) (e : TypeId) : Nat := ((P.info? e).map (·.size)).getD 0

/-- Data lie in memory: I: the blocks that nobody changes. -/
inductive VD (I : Nat → Prop) (h : Array Obj) : PD → Value → Prop
  | int (k n) : VD I h (.int k n) (.int k n)
  | bool (b) : VD I h (.bool b) (.bool b)
  | str (s) : VD I h (.str s) (.string ⟨s.toArray⟩)
  | nil : VD I h .nil (.slice none 0 0)
  | agg (ds : List PD) (cs : Array Value) : ds.length = cs.size → (∀ i d, ds[i]? = some d → VD I h d (cs.getD i undef)) → VD I h (.agg ds) (.agg cs)
  | tup (ds : List PD) (cs : Array Value) : ds.length = cs.size → (∀ i d, ds[i]? = some d → VD I h d (cs.getD i undef)) → VD I h (.tup ds) (.tuple cs)
  | lst0 (a cap) : VD I h (.lst 0 []) (.slice a 0 cap)
  | lst (n : Nat) (ds : List PD) (b o cap : Nat) (c : Array Value) (e : TypeId) (fr : Nat × Nat) : I b → h[b]? = some (.cells c e fr) → o + ds.length ≤ c.size → n ≤ cap →
      (∀ i d, ds[i]? = some d → VD I h d (c.getD (o + i) undef)) → (∀ i d, ds[i]? = some d → (c.getD (o + i) undef).oneCell' = true) →
      VD I h (.lst n ds) (.slice (some ⟨b, o, none⟩) n cap)
  | lp (ds : List PD) (b o : Nat) (c : Array Value) (e : TypeId) (fr : Nat × Nat) : I b → h[b]? = some (.cells c e fr) → o + ds.length ≤ c.size →
      (∀ i d, ds[i]? = some d → VD I h d (c.getD (o + i) undef)) → (∀ i d, ds[i]? = some d → (c.getD (o + i) undef).oneCell' = true) →
      VD I h (.lp ds) (.pointer (some ⟨b, o, none⟩))

theorem VD.mono {I I' : Nat → Prop} {h h' : Array Obj} (hI : ∀ b, I b → I' b) (hh : ∀ b, I b → h'[b]? = h[b]?) {x : PD} {v : Value} (k : VD I h x v) : VD I' h' x v := by
  induction k with
  | int k n => exact .int k n
  | bool b => exact .bool b
  | str s => exact .str s
  | nil => exact .nil
  | agg ds cs h1 _ ih => exact .agg ds cs h1 ih
  | tup ds cs h1 _ ih => exact .tup ds cs h1 ih
  | lst0 a cap => exact .lst0 a cap
  | lst n ds b o cap c e fr h1 h2 h3 h4 _ h6 ih => exact .lst n ds b o cap c e fr (hI b h1) ((hh b h1).trans h2) h3 h4 ih h6
  | lp ds b o c e fr h1 h2 h3 _ h5 ih => exact .lp ds b o c e fr (hI b h1) ((hh b h1).trans h2) h3 ih h5

/-- Where all stands: the objects, where each lies, which blocks nobody changes (I: this call's keeping; A: lent to it), the memory. -/
structure AEnv where
  P : Program
  hp : HP
  ι : Nat → Option Nat
  I : Nat → Prop
  A : Nat → Prop
  h : Array Obj

def AEnv.IA (E : AEnv) : Bool → Nat → Prop
  | true => E.I
  | false => fun b => E.I b ∨ E.A b

def PtrOK (E : AEnv) (id ver off : Nat) (v : Value) : Prop :=
  ver ≤ (E.hp id).1 ∧ (ver = (E.hp id).1 → ∀ o, (E.hp id).2 = some o → ∃ b, E.ι id = some b ∧ v = .pointer (some ⟨b, off, none⟩))

def OwnAt (E : AEnv) (e : TypeId) (b off len : Nat) (v : Value) : Prop :=
  ∃ off' cap c, v = .slice (some ⟨b, off', none⟩) len cap ∧ len ≤ cap ∧ (0 < len ∨ off = 0 → off' = off) ∧ E.h[b]? = some (.cells c e (0, 0)) ∧
    (off = 0 → c.size = cap * szOf E.P e ∧ cap ≤ maxLen)

def OwnOK (E : AEnv) (id ver off len : Nat) (v : Value) : Prop :=
  ver ≤ (E.hp id).1 ∧ (ver = (E.hp id).1 → ∀ e row, (E.hp id).2 = some (.cells e row) →
    (E.ι id = none → v = .slice none 0 0 ∧ off = 0 ∧ len = 0) ∧ (∀ b, E.ι id = some b → OwnAt E e b off len v))

inductive V (E : AEnv) : PV → Value → Prop
  | d (k : Bool) (x : PD) (v : Value) : VD (E.IA k) E.h x v → V E (.d k x) v
  | own (id ver off len : Nat) (v : Value) : OwnOK E id ver off len v → V E (.own id ver off len) v
  | ptr (id ver off : Nat) (v : Value) : PtrOK E id ver off v → V E (.ptr id ver off) v
  | fn (f : FuncId) (first caps : List PV) (first' caps' : Array Value) : first.length = first'.size → caps.length = caps'.size →
      (∀ i x, first[i]? = some x → V E x (first'.getD i undef)) → (∀ i x, caps[i]? = some x → V E x (caps'.getD i undef)) → V E (.fn f first caps) (.func (.func f) first' caps')
  | agg (ds : List PV) (cs : Array Value) : ds.length = cs.size → (∀ i d, ds[i]? = some d → V E d (cs.getD i undef)) → V E (.agg ds) (.agg cs)
  | dead (v : Value) : V E .dead v

/-- What holds no place in memory is of nobody's keeping. -/
def dk (k : Bool) : PD → PV
  | .int K n => .d true (.int K n)
  | .bool b => .d true (.bool b)
  | .str s => .d true (.str s)
  | .nil => .d true .nil
  | x => .d k x

theorem V_dk {E : AEnv} {k : Bool} {x : PD} {v : Value} (h : V E (.d k x) v) : V E (dk k x) v := by
  cases h with
  | d _ _ _ h =>
    cases x with
    | int K n => cases h; exact .d _ _ _ (.int K n)
    | bool b => cases h; exact .d _ _ _ (.bool b)
    | str s => cases h; exact .d _ _ _ (.str s)
    | nil => cases h; exact .d _ _ _ .nil
    | _ => exact .d _ _ _ h

/-- E' is behind E: what was data is data still; a handle of the newest version stands where it stood. -/
structure Le (E E' : AEnv) : Prop where
  P : E'.P = E.P
  I : ∀ b, E.I b → E'.I b
  A : E'.A = E.A
  h : ∀ b, E.I b ∨ E.A b → E'.h[b]? = E.h[b]?
  ver : ∀ id, (E.hp id).1 ≤ (E'.hp id).1
  obj : ∀ id, (E'.hp id).1 = (E.hp id).1 → ∀ o', (E'.hp id).2 = some o' → ∃ o, (E.hp id).2 = some o ∧ E'.ι id = E.ι id
  row : ∀ id, (E'.hp id).1 = (E.hp id).1 → ∀ e r', (E'.hp id).2 = some (.cells e r') → ∃ r, (E.hp id).2 = some (.cells e r) ∧
    ∀ b, E.ι id = some b → ∃ c c', E.h[b]? = some (.cells c e (0, 0)) ∧ E'.h[b]? = some (.cells c' e (0, 0)) ∧ c'.size = c.size

theorem PtrOK.mono {E E' : AEnv} (L : Le E E') {id ver off : Nat} {v : Value} (k : PtrOK E id ver off v) : PtrOK E' id ver off v := by
  refine ⟨Nat.le_trans k.1 (L.ver id), fun hv o' ho' => ?_⟩
  have h1 := L.ver id
  have h2 := k.1
  obtain ⟨o, ho, hi⟩ := L.obj id (by omega) o' ho'
  obtain ⟨b, hb, rfl⟩ := k.2 (by omega) o ho
  exact ⟨b, by rw [hi, hb], rfl⟩

theorem OwnOK.mono {E E' : AEnv} (L : Le E E') {id ver off len : Nat} {v : Value} (k : OwnOK E id ver off len v) : OwnOK E' id ver off len v := by
  refine ⟨Nat.le_trans k.1 (L.ver id), fun hv e r' ho' => ?_⟩
  have h1 := L.ver id
  have h2 := k.1
  obtain ⟨_, _, hi⟩ := L.obj id (by omega) _ ho'
  obtain ⟨r, ho, hc⟩ := L.row id (by omega) e r' ho'
  obtain ⟨k1, k2⟩ := k.2 (by omega) e r ho
  refine ⟨fun hn => k1 (by rw [← hi, hn]), fun b hb => ?_⟩
  have hb' : E.ι id = some b := by rw [← hi, hb]
  obtain ⟨off', cap, c, hv, hl, ho', hh, hs⟩ := k2 b hb'
  obtain ⟨c1, c2, e1, e2, e3⟩ := hc b hb'
  have : c1 = c := by rw [e1] at hh; simpa using hh
  subst this
  exact ⟨off', cap, c2, hv, hl, ho', e2, fun h0 => by rw [e3, L.P]; exact hs h0⟩

theorem V.mono {E E' : AEnv} (L : Le E E') {x : PV} {v : Value} (k : V E x v) : V E' x v := by
  induction k with
  | d k x v h =>
    refine .d k x v (h.mono ?_ ?_)
    · intro b hb
      cases k with
      | true => exact L.I b hb
      | false => rcases hb with hb | hb
                 · exact .inl (L.I b hb)
                 · exact .inr (by rw [L.A]; exact hb)
    · intro b hb
      cases k with
      | true => exact L.h b (.inl hb)
      | false => exact L.h b hb
  | own id ver off len v h => exact .own id ver off len v (h.mono L)
  | ptr id ver off v h => exact .ptr id ver off v (h.mono L)
  | fn f a b a' b' h1 h2 _ _ i1 i2 => exact .fn f a b a' b' h1 h2 i1 i2
  | agg ds cs h1 _ ih => exact .agg ds cs h1 ih
  | dead v => exact .dead v

theorem Le.refl (E : AEnv) (hok : ∀ id e r b, (E.hp id).2 = some (.cells e r) → E.ι id = some b → ∃ c, E.h[b]? = some (.cells c e (0, 0))) : Le E E :=
  ⟨rfl, fun _ h => h, rfl, fun _ _ => rfl, fun _ => Nat.le_refl _, fun _ _ o ho => ⟨o, ho, rfl⟩, fun id _ e r ho => ⟨r, ho, fun b hb => by obtain ⟨c, hc⟩ := hok id e r b ho hb; exact ⟨c, c, hc, hc, rfl⟩⟩⟩

theorem Le.trans {E F G : AEnv} (a : Le E F) (b : Le F G) : Le E G := by
  refine ⟨b.P.trans a.P, fun x h => b.I x (a.I x h), b.A.trans a.A, fun x h => ?_, fun id => Nat.le_trans (a.ver id) (b.ver id), fun id hv o' ho' => ?_, fun id hv e r' ho' => ?_⟩
  · exact (b.h x (h.imp (a.I x) (fun h => by rw [a.A]; exact h))).trans (a.h x h)
  · have h1 := a.ver id
    have h2 := b.ver id
    obtain ⟨o, ho, hi⟩ := b.obj id (by omega) o' ho'
    obtain ⟨o0, ho0, hi0⟩ := a.obj id (by omega) o ho
    exact ⟨o0, ho0, hi.trans hi0⟩
  · have h1 := a.ver id
    have h2 := b.ver id
    obtain ⟨r, ho, hc⟩ := b.row id (by omega) e r' ho'
    obtain ⟨r0, ho0, hc0⟩ := a.row id (by omega) e r ho
    obtain ⟨_, _, hi0⟩ := a.obj id (by omega) _ ho
    refine ⟨r0, ho0, fun x hx => ?_⟩
    obtain ⟨c1, c2, e1, e2, e3⟩ := hc0 x hx
    obtain ⟨c3, c4, f1, f2, f3⟩ := hc x (by rw [hi0, hx])
    have : c3 = c2 := by rw [f1] at e2; simpa using e2
    subst this
    exact ⟨c1, c4, e1, f2, f3.trans e3⟩

/-- An object lies in block b. -/
def ObjAt (E : AEnv) (b : Nat) : AObj → Prop
  | .cells e row => ∃ c, E.h[b]? = some (.cells c e (0, 0)) ∧ row.length ≤ c.size ∧ ∀ i x, row[i]? = some x → V E x (c.getD i undef) ∧ (c.getD i undef).oneCell' = true
  | .iter s pos => E.h[b]? = some (.stringIter ⟨s.toArray⟩ pos)

theorem ObjAt.lt {E : AEnv} {b : Nat} {o : AObj} (h : ObjAt E b o) : b < E.h.size := by
  cases o with
  | cells e row => obtain ⟨c, hc, _⟩ := h; exact (Array.getElem?_eq_some_iff.1 hc).1
  | iter s pos => exact (Array.getElem?_eq_some_iff.1 h).1

theorem ObjAt.mono {E E' : AEnv} (L : Le E E') {b : Nat} (hb : E'.h[b]? = E.h[b]?) {o : AObj} (h : ObjAt E b o) : ObjAt E' b o := by
  cases o with
  | cells e row =>
    obtain ⟨c, hc, hl, hr⟩ := h
    exact ⟨c, hb.trans hc, hl, fun i x hx => ⟨(hr i x hx).1.mono L, (hr i x hx).2⟩⟩
  | iter s pos => exact hb.trans h

/-- The objects that are there lie as they say, each in a block of its own. -/
structure HOK (E : AEnv) : Prop where
  atNone : ∀ id o, (E.hp id).2 = some o → E.ι id = none → ∃ e, o = .cells e []
  atSome : ∀ id o b, (E.hp id).2 = some o → E.ι id = some b → ¬ E.I b ∧ ¬ E.A b ∧ ObjAt E b o
  inj : ∀ id id' o o' b, (E.hp id).2 = some o → (E.hp id').2 = some o' → E.ι id = some b → E.ι id' = some b → id = id'
  bound : ∀ b, E.I b ∨ E.A b → b < E.h.size

theorem HOK.le_refl {E : AEnv} (k : HOK E) : Le E E := .refl E fun id e r b ho hb => by obtain ⟨_, _, c, hc, _⟩ := k.atSome id _ b ho hb; exact ⟨c, hc⟩

end Go.Abs
