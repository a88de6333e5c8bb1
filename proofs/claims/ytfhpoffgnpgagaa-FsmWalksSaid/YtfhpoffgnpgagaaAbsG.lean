/- Addresses, fields, lengths, pieces of slices and texts. No condition. -/
import Derived.Test.YtfhpoffgnpgagaaAbsF
set_option linter.unusedSimpArgs false
set_option linter.unusedVariables false
namespace Go.Abs

/-- nilCheck. -/
def fNil (hp : HP) (x : PV) : Out :=
  match x with
  | .ptr id ver _ => valIf (liveObj hp id ver) x
  | .d _ (.lp _) => val x
  | .fn _ [] _ => val x
  | _ => no

def fFieldAddr (P : Program) (hp : HP) (t : TypeId) (x : PV) (f : Nat) : Out :=
  match fieldT P t f, x with
  | some (off, n, _), .ptr id ver o => valIf (liveObj hp id ver ∧ 0 < n) (.ptr id ver (o + off))
  | some (off, n, _), .d k (.lp cs) => valIf (off ≤ cs.length ∧ 0 < n) (.d k (.lp (cs.drop off)))
  | _, _ => no

def fField (P : Program) (t : TypeId) (x : PV) (f : Nat) : Out :=
  match fieldT P t f with
  | some (off, _, ft) => match tyT P ft, x with
    | some (ag, n), .agg cs => valIf (off + n ≤ cs.length ∧ (ag = true ∨ n = 1)) (if ag then .agg ((cs.drop off).take n) else cs.getD off .dead)
    | some (ag, n), .d k (.agg cs) => valIf (off + n ≤ cs.length ∧ (ag = true ∨ n = 1)) (if ag then .d k (.agg ((cs.drop off).take n)) else dk k (cs.getD off .nil))
    | _, _ => no
  | none => no

def fIndexAddr (P : Program) (hp : HP) (t : TypeId) (x i : PV) : Out :=
  match elemT P t, x, i with
  | some e, .own id ver off len, .d _ (.int _ z) => valIf (0 < szOf P e ∧ liveRow hp id ver ∧ 0 ≤ z ∧ z < len) (.ptr id ver (off + z.toNat * szOf P e))
  | some e, .d k (.lst m cs), .d _ (.int _ z) => valIf (0 < szOf P e ∧ 0 ≤ z ∧ z < m ∧ z.toNat * szOf P e ≤ cs.length) (.d k (.lp (cs.drop (z.toNat * szOf P e))))
  | _, _, _ => no

def fIndex (P : Program) (t : TypeId) (x i : PV) : Out :=
  match isStr P t, x, i with
  | true, .d _ (.str s), .d _ (.int _ z) => valIf (0 ≤ z ∧ z < s.length) (.d true (.int .u8 (s.getD z.toNat 0).toNat))
  | _, _, _ => no

def isSl (P : Program) (t : TypeId) : Bool := (elemT P t).isSome

def fLen (P : Program) (hp : HP) (t : TypeId) (x : PV) : Out :=
  match x with
  | .own id ver _ len => valIf (isSl P t = true ∧ liveRow hp id ver) (.d true (.int .i64 len))
  | .d _ (.lst n _) => valIf (isSl P t = true) (.d true (.int .i64 n))
  | .d _ .nil => valIf (isSl P t = true) (.d true (.int .i64 0))
  | .d _ (.str s) => valIf (isStr P t = true) (.d true (.int .i64 s.length))
  | _ => no

def optInt (d : Int) : Option PV → Option Int
  | none => some d
  | some (.d _ (.int _ z)) => some z
  | _ => none

def fSlice (P : Program) (hp : HP) (t : TypeId) (x : PV) (lo hi : Option PV) : Out :=
  match x with
  | .d k (.str s) => match optInt 0 lo, optInt s.length hi with
    | some l, some h => valIf (isStr P t = true ∧ 0 ≤ l ∧ l ≤ h ∧ h ≤ s.length) (.d true (.str ((s.drop l.toNat).take (h.toNat - l.toNat))))
    | _, _ => no
  | .own id ver off len => match elemT P t, optInt 0 lo, optInt len hi with
    | some e, some l, some h => valIf (liveRow hp id ver ∧ 0 < szOf P e ∧ 0 ≤ l ∧ l ≤ h ∧ h ≤ len) (.own id ver (off + l.toNat * szOf P e) (h.toNat - l.toNat))
    | _, _, _ => no
  | .d k (.lst m cs) => match elemT P t, optInt 0 lo, optInt m hi with
    | some e, some l, some h => valIf (0 < szOf P e ∧ 0 ≤ l ∧ l ≤ h ∧ h ≤ m ∧ cs.length = m * szOf P e) (.d k (.lst (h.toNat - l.toNat) ((cs.drop (l.toNat * szOf P e)).take ((h.toNat - l.toNat) * szOf P e))))
    | _, _, _ => no
  | .d k .nil => match elemT P t, optInt 0 lo, optInt 0 hi with
    | some e, some l, some h => valIf (0 < szOf P e ∧ l = 0 ∧ h = 0) (.d k .nil)
    | _, _, _ => no
  | _ => no

def fExtract (x : PV) (i : Nat) : Out :=
  match x with
  | .d k (.tup ds) => valIf (i < ds.length) (dk k (ds.getD i .nil))
  | _ => no

def fPick (c a b : PV) : Out :=
  match c with
  | .d _ (.bool t) => val (if t then a else b)
  | _ => no

section
variable {P : Program} {E : AEnv} {w : World}

theorem VD_lp_drop {I : Nat → Prop} {h : Array Obj} {cs : List PD} {b o : Nat} (k : VD I h (.lp cs) (.pointer (some ⟨b, o, none⟩))) (n : Nat) (hn : n ≤ cs.length) : VD I h (.lp (cs.drop n)) (.pointer (some ⟨b, o + n, none⟩)) := by
  cases k with
  | lp _ _ _ c e fr hI hc hl h1 h2 =>
    refine .lp _ b (o + n) c e fr hI hc (by simp; omega) (fun i d hd => ?_) (fun i d hd => ?_)
    · rw [List.getElem?_drop] at hd
      have := h1 _ d hd
      rwa [← Nat.add_assoc] at this
    · rw [List.getElem?_drop] at hd
      have := h2 _ d hd
      rwa [← Nat.add_assoc] at this

theorem fNil_sound {x : PV} {v : Value} (h : V E x v) (hc : (fNil E.hp x).1) : (fNil E.hp x).2 = ⟨x, none⟩ ∧ ∀ (ρ : Operand → Value) (o : Oper) (y : Operand), o.op = .nilCheck y → ρ y = v → (execOp ρ o).run P w = .ok (.value v) w := by
  have key : (∃ a, v = .pointer (some a)) ∨ (∃ f cap, v = .func (.func f) #[] cap) → ∀ (ρ : Operand → Value) (o : Oper) (y : Operand), o.op = .nilCheck y → ρ y = v → (execOp ρ o).run P w = .ok (.value v) w := by
    intro hv ρ o y ho hy
    rcases hv with ⟨a, rfl⟩ | ⟨f, cap, rfl⟩ <;> simp [execOp, ho, hy]
  cases h with
  | ptr id ver off v hp =>
    have hl : liveObj E.hp id ver := hc
    obtain ⟨h1, o, h2⟩ := liveObj.out hl
    obtain ⟨b, _, rfl⟩ := hp.2 h1.symm o h2
    exact ⟨rfl, key (.inl ⟨_, rfl⟩)⟩
  | d k x v hv => cases hv <;> first | exact hc.elim | exact ⟨rfl, key (.inl ⟨_, rfl⟩)⟩
  | fn f first caps f' c' h1 h2 h3 h4 =>
    cases first with
    | nil => have : f' = #[] := by apply Array.eq_empty_of_size_eq_zero; simpa using h1.symm
             subst this; exact ⟨rfl, key (.inr ⟨_, _, rfl⟩)⟩
    | cons _ _ => exact hc.elim
  | own => exact hc.elim
  | agg => exact hc.elim
  | dead => exact hc.elim

theorem fieldT_run {t : TypeId} {f off n : Nat} {ft : TypeId} (h : fieldT P t f = some (off, n, ft)) : ∃ fs x i, P.underlying t = some (.struct fs) ∧ fs[f]? = some x ∧ x.offset = off ∧ x.type = ft ∧ P.info? ft = some i ∧ i.size = n := by
  unfold fieldT at h
  split at h <;> try (simp at h; done)
  rename_i fs hu
  split at h <;> try (simp at h; done)
  rename_i x hx
  split at h <;> try (simp at h; done)
  rename_i i hi
  simp only [Option.some.injEq, Prod.mk.injEq] at h
  obtain ⟨rfl, rfl, rfl⟩ := h
  exact ⟨fs, x, i, hu, hx, rfl, rfl, hi, rfl⟩

theorem elemT_run {t e : TypeId} (h : elemT P t = some e) : P.underlying t = some (.slice e) := by
  unfold elemT at h
  split at h
  · rename_i e' hu; simp at h; subst h; exact hu
  · cases h

theorem isStr_run {t : TypeId} (h : isStr P t = true) : P.underlying t = some .string := by
  unfold isStr at h
  split at h
  · assumption
  · cases h

theorem fFieldAddr_sound {t : TypeId} {x : PV} {v : Value} {f : Nat} (h : V E x v) (hc : (fFieldAddr P E.hp t x f).1) :
    (fFieldAddr P E.hp t x f).2.o = none ∧ ∃ u, V E (fFieldAddr P E.hp t x f).2.x u ∧ (Instr.fieldAt t v f).run P w = .ok u w := by
  unfold fFieldAddr at hc ⊢
  cases hf : fieldT P t f with
  | none => simp [hf, no] at hc
  | some on =>
    obtain ⟨off, n, ft⟩ := on
    obtain ⟨fs, y, i, hu, hy, rfl, rfl, hi, rfl⟩ := fieldT_run hf
    simp only [hf] at hc ⊢
    have hrun : ∀ b o, 0 < i.size → (Instr.fieldAt t (.pointer (some ⟨b, o, none⟩)) f).run P w = .ok (.pointer (some ⟨b, o + y.offset, none⟩)) w := by
      intro b o hpos
      have : i.size ≠ 0 := by omega
      simp [Instr.fieldAt, run_underlying hu, hy, Instr.sureAddr, fieldPlace, sizeOf, typeInfo, hi, this, Addr.add_lit]
    cases h with
    | ptr id ver o v hp =>
      obtain ⟨hl, hpos⟩ := hc
      obtain ⟨h1, ob, h2⟩ := liveObj.out hl
      obtain ⟨b, hb, rfl⟩ := hp.2 h1.symm ob h2
      exact ⟨rfl, _, .ptr _ _ _ _ ⟨hp.1, fun _ _ _ => ⟨b, hb, rfl⟩⟩, hrun b o hpos⟩
    | d k z v hv =>
      cases hv <;> try exact hc.elim
      rename_i ds b o c e fr h3 h4 h5 h6 h7
      obtain ⟨hl, hpos⟩ := hc
      exact ⟨rfl, _, .d k _ _ (VD_lp_drop (.lp ds b o c e fr h3 h4 h5 h6 h7) _ hl), hrun b o hpos⟩
    | fn => exact hc.elim
    | own => exact hc.elim
    | agg => exact hc.elim
    | dead => exact hc.elim

theorem agg_get {ds : List PV} {cs : Array Value} (hl : ds.length = cs.size) (hv : ∀ (i : Nat) d, ds[i]? = some d → V E d (cs.getD i undef)) (off n : Nat) (hn : off + n ≤ ds.length) : V E (.agg ((ds.drop off).take n)) (.agg (cs.extract off (off + n))) := by
  refine .agg _ _ (by simp; omega) fun i d hd => ?_
  rw [List.getElem?_take] at hd
  split at hd
  · rename_i hi
    rw [List.getElem?_drop] at hd
    have := hv _ d hd
    have e : (cs.extract off (off + n)).getD i undef = cs.getD (off + i) undef := by
      rw [Array.getD_eq_getD_getElem?, Array.getD_eq_getD_getElem?, Array.getElem?_extract]
      have : i < min (off + n) cs.size - off := by omega
      simp [this]
    rw [e]; exact this
  · cases hd

theorem dagg_get {I : Nat → Prop} {h : Array Obj} {ds : List PD} {cs : Array Value} (hl : ds.length = cs.size) (hv : ∀ (i : Nat) d, ds[i]? = some d → VD I h d (cs.getD i undef)) (off n : Nat) (hn : off + n ≤ ds.length) : VD I h (.agg ((ds.drop off).take n)) (.agg (cs.extract off (off + n))) := by
  refine .agg _ _ (by simp; omega) fun i d hd => ?_
  rw [List.getElem?_take] at hd
  split at hd
  · rename_i hi
    rw [List.getElem?_drop] at hd
    have := hv _ d hd
    have e : (cs.extract off (off + n)).getD i undef = cs.getD (off + i) undef := by
      rw [Array.getD_eq_getD_getElem?, Array.getD_eq_getD_getElem?, Array.getElem?_extract]
      have : i < min (off + n) cs.size - off := by omega
      simp [this]
    rw [e]; exact this
  · cases hd

theorem run_part {ft : TypeId} {ag : Bool} {n : Nat} (ht : tyT P ft = some (ag, n)) (cs : Array Value) (off : Nat) (hn : off + n ≤ cs.size) (h1 : ag = true ∨ n = 1) :
    (part ft cs off).run P w = .ok (if ag = true then .agg (cs.extract off (off + n)) else cs.getD off undef) w := by
  obtain ⟨ha, hs, _⟩ := tyT_run ht w
  cases ag with
  | true => simp [part, ha, hs]
  | false =>
    have : n = 1 := by simpa using h1
    subst this
    have hlt : off < cs.size := by omega
    simp [part, ha, hlt]

theorem fField_sound {t : TypeId} {x : PV} {v : Value} {f : Nat} (h : V E x v) (hc : (fField P t x f).1) :
    (fField P t x f).2.o = none ∧ ∃ u, V E (fField P t x f).2.x u ∧ (Instr.field t v f).run P w = .ok u w := by
  unfold fField at hc ⊢
  cases hf : fieldT P t f with
  | none => simp [hf, no] at hc
  | some on =>
    obtain ⟨off, n0, ft⟩ := on
    obtain ⟨fs, y, i, hu, hy, rfl, rfl, hi, rfl⟩ := fieldT_run hf
    simp only [hf] at hc ⊢
    cases ht : tyT P y.type with
    | none => simp [ht, no] at hc
    | some an =>
      obtain ⟨ag, n⟩ := an
      simp only [ht] at hc ⊢
      have hrun : ∀ cs : Array Value, (Instr.field t (.agg cs) f).run P w = (part y.type cs y.offset).run P w := by
        intro cs; simp [Instr.field, run_underlying hu, hy, asAgg]
      cases h with
      | agg ds cs hl hv =>
        obtain ⟨hn, h1⟩ := hc
        refine ⟨rfl, _, ?_, (hrun cs).trans (run_part ht cs _ (by omega) h1)⟩
        cases ag with
        | true => exact agg_get hl hv _ _ hn
        | false =>
          have : n = 1 := by simpa using h1
          subst this
          have hlt : y.offset < ds.length := by omega
          exact hv y.offset (ds.getD y.offset .dead) (by simp [hlt])
      | d k z v hv =>
        cases hv <;> try exact hc.elim
        rename_i ds cs hl hv
        obtain ⟨hn, h1⟩ := hc
        refine ⟨rfl, _, ?_, (hrun cs).trans (run_part ht cs _ (by omega) h1)⟩
        cases ag with
        | true => exact .d k _ _ (dagg_get hl hv _ _ hn)
        | false =>
          have : n = 1 := by simpa using h1
          subst this
          have hlt : y.offset < ds.length := by omega
          exact V_dk (.d k _ _ (hv y.offset (ds.getD y.offset .nil) (by simp [hlt])))
      | ptr => exact hc.elim
      | fn => exact hc.elim
      | own => exact hc.elim
      | dead => exact hc.elim

theorem own_live {id ver off len : Nat} {v : Value} (h : OwnOK E id ver off len v) (hl : liveRow E.hp id ver) :
    ∃ e row, (E.hp id).2 = some (.cells e row) ∧ ((E.ι id = none ∧ v = .slice none 0 0 ∧ off = 0 ∧ len = 0) ∨ ∃ b, E.ι id = some b ∧ OwnAt E e b off len v) := by
  obtain ⟨h1, e, row, h2⟩ := liveRow.out hl
  obtain ⟨k1, k2⟩ := h.2 h1.symm e row h2
  refine ⟨e, row, h2, ?_⟩
  cases hi : E.ι id with
  | none => obtain ⟨a, b, c⟩ := k1 hi; exact .inl ⟨rfl, a, b, c⟩
  | some b => exact .inr ⟨b, rfl, k2 b hi⟩

theorem szOf_run {e : TypeId} (h : 0 < szOf P e) : (sizeOf e).run P w = .ok (szOf P e) w := by
  unfold szOf at h ⊢
  cases hi : P.info? e with
  | none => simp [hi] at h
  | some i => simp [sizeOf, typeInfo, hi]

theorem fIndexAddr_sound {t : TypeId} {x i : PV} {v vi : Value} (h : V E x v) (hvi : V E i vi) (hc : (fIndexAddr P E.hp t x i).1) :
    (fIndexAddr P E.hp t x i).2.o = none ∧ ∃ u, V E (fIndexAddr P E.hp t x i).2.x u ∧ (Instr.indexAt t v vi).run P w = .ok u w := by
  unfold fIndexAddr at hc ⊢
  cases he : elemT P t with
  | none => simp [he, no] at hc
  | some e =>
    have hu := elemT_run he
    simp only [he] at hc ⊢
    have hrun : ∀ k (z : Int) b o (len cap : Nat), 0 < szOf P e → 0 ≤ z → z < len → (Instr.indexAt t (.slice (some ⟨b, o, none⟩) len cap) (.int k z)).run P w = .ok (.pointer (some ⟨b, o + z.toNat * szOf P e, none⟩)) w := by
      intro k z b o len cap hsz0 h0 h1
      have hsz := szOf_run (w := w) hsz0
      have hz : (0 ≤ z ∧ z < (len : Int)) := ⟨h0, h1⟩
      simp [Instr.indexAt, asIntOf, run_underlying hu, hz, hsz, Addr.add_lit]
    split at hc <;> try (exact hc.elim)
    · rename_i e' id ver off len k2 k z heq
      simp only [Option.some.injEq] at heq; subst heq
      have hv2 := V_int hvi; subst hv2
      obtain ⟨hp0, hl, h0, h1⟩ := hc
      cases h with
      | own _ _ _ _ _ hp =>
        obtain ⟨e2, row, h2, hor⟩ := own_live hp hl
        rcases hor with ⟨_, _, _, hz⟩ | ⟨b, hb, off', cap, c, rfl, hlc, ho, hh, hs⟩
        · omega
        · have : off' = off := ho (.inl (by omega))
          subst this
          refine ⟨rfl, _, .ptr _ _ _ _ ⟨hp.1, fun _ _ _ => ⟨b, hb, rfl⟩⟩, hrun k z b off' len cap hp0 h0 h1⟩
    · rename_i e' kb m cs k2 k z heq
      simp only [Option.some.injEq] at heq; subst heq
      have hv2 := V_int hvi; subst hv2
      obtain ⟨hp0, h0, h1, hl⟩ := hc
      cases h with
      | d _ _ _ hv =>
        cases hv with
        | lst0 a cap => omega
        | lst _ _ b o cap c e fr h3 h4 h5 h6 h7 h8 =>
          exact ⟨rfl, _, .d kb _ _ (VD_lp_drop (.lp cs b o c e fr h3 h4 h5 h7 h8) _ hl), hrun k z b o m cap hp0 h0 h1⟩

theorem str_get (s : List UInt8) (i : Nat) (h : i < s.length) : (ByteArray.mk s.toArray)[i]? = some (s.getD i 0) := by
  have h1 : i < (ByteArray.mk s.toArray).size := by show i < s.toArray.size; simpa using h
  rw [getElem?_pos _ i h1]
  congr 1
  show s.toArray[i] = _
  simp [h]

theorem size_str (s : List UInt8) : (ByteArray.mk s.toArray).size = s.length := by show s.toArray.size = _; simp

theorem fIndex_sound {t : TypeId} {x i : PV} {v vi : Value} (h : V E x v) (hvi : V E i vi) (hc : (fIndex P t x i).1) :
    (fIndex P t x i).2.o = none ∧ ∃ u, V E (fIndex P t x i).2.x u ∧ (Instr.index t v vi).run P w = .ok u w := by
  unfold fIndex at hc ⊢
  split at hc <;> try (exact hc.elim)
  rename_i k s k2 k3 z hs
  have hv2 := V_int hvi; subst hv2
  have hv3 := V_str h; subst hv3
  obtain ⟨h0, h1⟩ := hc
  have hlt : z.toNat < s.length := by omega
  exact ⟨rfl, _, mk_int, by simp [Instr.index, asIntOf, run_underlying (isStr_run hs), h0, str_get s _ hlt]⟩

theorem isSl_run {t : TypeId} (h : isSl P t = true) : ∃ e, P.underlying t = some (.slice e) := by
  unfold isSl at h
  obtain ⟨e, he⟩ := Option.isSome_iff_exists.1 h
  exact ⟨e, elemT_run he⟩

theorem fLen_sound {t ty : TypeId} {x : PV} {v : Value} (h : V E x v) (hc : (fLen P E.hp t x).1) :
    (fLen P E.hp t x).2.o = none ∧ ∃ u, V E (fLen P E.hp t x).2.x u ∧ (Builtin.len_ #[t] ty #[v]).run P w = .ok u w := by
  have key : ∀ n c (a : Option Addr), isSl P t = true → (Builtin.len_ #[t] ty #[.slice a n c]).run P w = .ok (.int .i64 n) w := by
    intro n c a h
    obtain ⟨e, he⟩ := isSl_run h
    simp [Builtin.len_, run_underlying he, goInt]
  cases h with
  | own id ver off len v hp =>
    obtain ⟨hs, hl⟩ := hc
    obtain ⟨e2, row, h2, hor⟩ := own_live hp hl
    rcases hor with ⟨_, rfl, _, rfl⟩ | ⟨b, hb, off', cap, c, rfl, hlc, ho, hh, hss⟩
    · exact ⟨rfl, _, mk_int, key _ _ _ hs⟩
    · exact ⟨rfl, _, mk_int, key _ _ _ hs⟩
  | d k x v hv =>
    cases hv <;> first
      | exact hc.elim
      | exact ⟨rfl, _, mk_int, key _ _ _ hc⟩
      | (rename_i s
         have hs : isStr P t = true := hc
         refine ⟨rfl, _, mk_int, ?_⟩
         simp [Builtin.len_, run_underlying (isStr_run hs), goInt, size_str])
  | ptr => exact hc.elim
  | fn => exact hc.elim
  | agg => exact hc.elim
  | dead => exact hc.elim

theorem fExtract_sound {x : PV} {v : Value} {i : Nat} (h : V E x v) (hc : (fExtract x i).1) :
    (fExtract x i).2.o = none ∧ ∃ u, V E (fExtract x i).2.x u ∧ (Instr.extract v i).run P w = .ok u w := by
  cases h with
  | d k x v hv =>
    cases hv <;> try (exact hc.elim)
    rename_i ds cs hl hv
    have hi : i < ds.length := hc
    have hi2 : i < cs.size := by omega
    refine ⟨rfl, cs.getD i undef, V_dk (.d k _ _ (hv i (ds.getD i .nil) (by simp [hi]))), ?_⟩
    simp [Instr.extract, hi2]
  | ptr => exact hc.elim
  | own => exact hc.elim
  | fn => exact hc.elim
  | agg => exact hc.elim
  | dead => exact hc.elim

end
end Go.Abs
