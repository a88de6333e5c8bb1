/- One step of the calculus, whole. No condition. -/
import Derived.Test.YtfhpoffgnpgagaaAbsJ
import Derived.Laws.BytesString
set_option linter.unusedSimpArgs false
set_option linter.unusedVariables false
namespace Go.Abs

def byteP : PV → Option UInt8
  | .d _ (.int .u8 n) => some (UInt8.ofNat n.toNat)
  | _ => none
def bytesP : List PV → Option (List UInt8)
  | [] => some []
  | x :: l => match byteP x, bytesP l with
    | some b, some r => some (b :: r)
    | _, _ => none

def intT (P : Program) (t : TypeId) : Option IntKind := match P.underlying t with | some (.int k) => some k | _ => none
def isU8 (P : Program) (t : TypeId) : Bool := match elemT P t with | some e => (match intT P e with | some .u8 => true | _ => false) | none => false
def hasT (P : Program) (t : TypeId) : Bool := (P.underlying t).isSome

def fBytes (P : Program) (hp : HP) (src dst : TypeId) (x : PV) : Out :=
  if isU8 P src && isStr P dst then
    match elemT P src with
    | some e => match srcOf P hp e x with
      | some (c, _, cs) => match bytesP cs with
        | some l => (c ∧ szOf P e = 1, ⟨.d true (.str l), none⟩)
        | none => no
      | none => no
    | none => no
  else no

def fConv (P : Program) (hp : HP) (src dst : TypeId) (x : PV) : Out :=
  match x with
  | .d _ (.int _ n) => match intT P dst with
    | some k' => valIf (hasT P src = true) (.d true (.int k' (k'.wrap n)))
    | none => no
  | .d k (.str s) => valIf (hasT P src = true ∧ isStr P dst = true) (.d true (.str s))
  | .own id ver off len => fBytes P hp src dst (.own id ver off len)
  | .d k (.lst n cs) => fBytes P hp src dst (.d k (.lst n cs))
  | .d k .nil => fBytes P hp src dst (.d k .nil)
  | _ => no

theorem intT_run {P : Program} {t : TypeId} {k : IntKind} (h : intT P t = some k) : P.underlying t = some (.int k) := by
  unfold intT at h
  split at h
  · rename_i k' hu; simp at h; subst h; exact hu
  · cases h

theorem hasT_run {P : Program} {t : TypeId} (h : hasT P t = true) : ∃ d, P.underlying t = some d := Option.isSome_iff_exists.1 h

theorem isU8_run {P : Program} {t : TypeId} (h : isU8 P t = true) : ∃ e, elemT P t = some e ∧ P.underlying e = some (.int .u8) := by
  unfold isU8 at h
  split at h <;> try (cases h; done)
  rename_i e he
  split at h <;> try (cases h; done)
  rename_i hk
  exact ⟨e, he, intT_run hk⟩

theorem bytes_ofList (l : List UInt8) : ∀ (r : List UInt8), (l.map fun b => (b.toNat : Int)).foldl (fun (r : ByteArray) n => r.push (UInt8.ofNat n.toNat)) ⟨r.toArray⟩ = ⟨(r ++ l).toArray⟩ := by
  induction l with
  | nil => intro r; simp
  | cons b l ih =>
    intro r
    simp only [List.map_cons, List.foldl_cons]
    have : (ByteArray.mk r.toArray).push (UInt8.ofNat ((b.toNat : Int)).toNat) = ⟨(r ++ [b]).toArray⟩ := by
      apply ByteArray.ext
      simp
    rw [this, ih]
    simp

theorem bytesP_VL {E : AEnv} : ∀ (cs : List PV) (vs : List Value) (l : List UInt8), VL E cs vs → bytesP cs = some l →
    ∃ ns : List Int, vs = ns.map (Value.int .u8) ∧ ns.foldl (fun (r : ByteArray) n => r.push (UInt8.ofNat n.toNat)) ByteArray.empty = ⟨l.toArray⟩ := by
  have key : ∀ (cs : List PV) (vs : List Value) (l : List UInt8), VL E cs vs → bytesP cs = some l → ∃ ns : List Int, vs = ns.map (Value.int .u8) ∧ ns.map (fun n => UInt8.ofNat n.toNat) = l := by
    intro cs
    induction cs with
    | nil => intro vs l h hb; simp [bytesP] at hb; subst hb; have : vs = [] := List.eq_nil_of_length_eq_zero h.1.symm; subst this; exact ⟨[], rfl, rfl⟩
    | cons x cs ih =>
      intro vs l h hb
      cases vs with
      | nil => have := h.1; simp at this
      | cons v vs =>
        simp only [bytesP] at hb
        cases hx : byteP x with
        | none => simp [hx] at hb
        | some b =>
          cases hl : bytesP cs with
          | none => simp [hx, hl] at hb
          | some r =>
            simp [hx, hl] at hb
            subst hb
            obtain ⟨ns, e1, e2⟩ := ih vs r ⟨by simpa using h.1, fun i d u hd hu => h.2 (i + 1) d u (by simpa using hd) (by simpa using hu)⟩ hl
            have h0 := (h.2 0 x v rfl rfl).1
            unfold byteP at hx
            split at hx <;> try (cases hx; done)
            rename_i k n
            simp at hx
            have := V_int h0; subst this; subst hx
            exact ⟨n :: ns, by simp [e1], by simp [e2]⟩
  intro cs vs l h hb
  obtain ⟨ns, e1, e2⟩ := key cs vs l h hb
  refine ⟨ns, e1, ?_⟩
  have : ∀ (ns : List Int) (r : List UInt8), ns.foldl (fun (r : ByteArray) n => r.push (UInt8.ofNat n.toNat)) ⟨r.toArray⟩ = ⟨(r ++ ns.map fun n => UInt8.ofNat n.toNat).toArray⟩ := by
    intro ns
    induction ns with
    | nil => intro r; simp
    | cons n ns ih =>
      intro r
      simp only [List.foldl_cons, List.map_cons]
      have : (ByteArray.mk r.toArray).push (UInt8.ofNat n.toNat) = ⟨(r ++ [UInt8.ofNat n.toNat]).toArray⟩ := by
        apply ByteArray.ext; simp
      rw [this, ih]; simp
  have := this ns []
  rw [e2] at this
  exact this

/-- The smaller, the greater of two integers. -/
def fMin (x y : PV) : Out :=
  match x, y with
  | .d _ (.int k a), .d _ (.int k' b) => valIf (k = k') (.d true (.int k (if b < a then b else a)))
  | _, _ => no
def fMax (x y : PV) : Out :=
  match x, y with
  | .d _ (.int k a), .d _ (.int k' b) => valIf (k = k') (.d true (.int k (if b > a then b else a)))
  | _, _ => no

def evs (s : ASt) (l : Array Operand) : List PV := l.toList.map s.ev

def fBuiltin (P : Program) (s : ASt) (b : Builtin) (args : List Operand) (ts : List TypeId) (id : Nat) : Out :=
  match b, args, ts with
  | .len, [x], [t] => fLen P s.hp t (s.ev x)
  | .append, [x, y], [t, u] => if t = u then fAppend P s.hp t (s.ev x) (s.ev y) id else no
  | .min, [x, y], [_, _] => fMin (s.ev x) (s.ev y)
  | .max, [x, y], [_, _] => fMax (s.ev x) (s.ev y)
  | _, _, _ => no

/-- One operation (N: from this number on objects are this frame's own). -/
def fstep (P : Program) (nm : Nat → Nat) (s : ASt) (o : Oper) : Out :=
  match o.op with
  | .move x => val (s.ev x)
  | .assign x => val (s.ev x)
  | .pick c a b => fPick (s.ev c) (s.ev a) (s.ev b)
  | .alloc e => fAlloc P s.hp e (nm (o.dst.getD 0))
  | .box e x => fBox s.hp e (s.ev x) (nm (o.dst.getD 0))
  | .build t ps => fBuild P s.hp t (ps.toList.map fun p => (p.1, s.ev p.2))
  | .buildSlice t n ps => fBuildSlice P s.hp t n (ps.toList.map fun p => (p.1, s.ev p.2)) (nm (o.dst.getD 0))
  | .load t x => fLoad P s.hp t (s.ev x)
  | .store t p x => fStore P s.hp t (s.ev p) (s.ev x)
  | .nilCheck x => fNil s.hp (s.ev x)
  | .binOp op t x y _ => binP P op t (s.ev x) (s.ev y)
  | .unOp op _ x => unP op (s.ev x)
  | .convert a b x => fConv P s.hp a b (s.ev x)
  | .makeFunc (.func f) first caps => val (.fn f (evs s first) (evs s caps))
  | .makeSlice t x y => fMake P s.hp t (s.ev x) (s.ev y) (nm (o.dst.getD 0))
  | .slice t x lo hi none => fSlice P s.hp t (s.ev x) (lo.map s.ev) (hi.map s.ev)
  | .fieldAddr t x f => fFieldAddr P s.hp t (s.ev x) f
  | .field t x f => fField P t (s.ev x) f
  | .indexAddr t x i => fIndexAddr P s.hp t (s.ev x) (s.ev i)
  | .index t x i => fIndex P t (s.ev x) (s.ev i)
  | .extract x i => fExtract (s.ev x) i
  | .call { callee := .builtin b, args, argTypes } => fBuiltin P s b args.toList argTypes.toList (nm (o.dst.getD 0))
  | _ => no

section
variable {C : Ctx} {s : ASt} {a : Act} {w : World}

theorem app_val (s : ASt) (dst : Option Tmp) (x : PV) : s.app dst ⟨x, none⟩ = s.put dst x := rfl

/-- A value-only operation whose law is stated as 'no object turns, and some value is there'. -/
theorem Rel.val' (r : Rel C s a w) {o : Oper} {K : Act → World → Prop} {Q : Exit → Act → World → Prop} (hd : ∀ d, o.dst = some d → d < C.n) {e : Eff} (he : e.o = none)
    (h : ∀ ι I, At C ι I s.hp w → (∀ t, V ⟨C.E0.P, s.hp, ι, I, C.E0.A, w.heap⟩ (s.env t) (a.tmps.getD t undef)) →
      ∃ v, V ⟨C.E0.P, s.hp, ι, I, C.E0.A, w.heap⟩ e.x v ∧ (execOp a.eval o).run C.E0.P w = .ok (.value v) w)
    (hk : ∀ a' w', Rel C (s.app o.dst e) a' w' → K a' w') : o.wp C.E0.P a w K Q := by
  obtain ⟨x, oo⟩ := e
  simp only at he
  subst he
  exact r.val hd h fun a' r' => hk a' w r'

theorem getD_toArray_map (l : List Operand) (f : Operand → Value) (i : Nat) (y : Operand) (h : l[i]? = some y) : (l.map f).toArray.getD i undef = f y := by
  rw [Array.getD_eq_getD_getElem?]
  simp [h]

theorem step_sound (r : Rel C s a w) {o : Oper} {K : Act → World → Prop} {Q : Exit → Act → World → Prop} (hd : ∀ d, o.dst = some d → d < C.n) (hn : 0 < C.n)
    (hc : (fstep C.E0.P C.nm s o).1) (hk : ∀ a' w', Rel C (s.app o.dst (fstep C.E0.P C.nm s o).2) a' w' → K a' w') : o.wp C.E0.P a w K Q := by
  have hid : C.nm (o.dst.getD 0) < C.T := by
    cases h : o.dst with
    | none => exact C.hnm _ hn
    | some d => exact C.hnm _ (hd d h)
  unfold fstep at hc hk
  split at hc
  · rename_i x ho
    simp only [ho] at hk
    exact r.val' hd (e := ⟨s.ev x, none⟩) rfl (fun ι I _ henv => ⟨a.eval x, V_ev henv x, by simp [execOp, ho]⟩) hk
  · rename_i x ho
    simp only [ho] at hk
    exact r.val' hd (e := ⟨s.ev x, none⟩) rfl (fun ι I _ henv => ⟨a.eval x, V_ev henv x, by simp [execOp, ho]⟩) hk
  · rename_i c x y ho
    simp only [ho] at hk
    unfold fPick at hc hk
    generalize hev : s.ev c = pc at hc hk
    split at hc <;> try (exact hc.elim)
    rename_i kb t
    refine r.val' hd (e := ⟨if t = true then s.ev x else s.ev y, none⟩) rfl (fun ι I _ henv => ⟨if t = true then a.eval x else a.eval y, ?_, ?_⟩) hk
    · cases t
      · exact V_ev henv y
      · exact V_ev henv x
    · have hv := V_ev henv c
      rw [hev] at hv
      have hv := V_bool hv
      cases t <;> simp [execOp, ho, hv, asBool]
  · rename_i e ho; simp only [ho] at hk; exact alloc_sound r hd ho _ hid hc hk
  · rename_i e x ho; simp only [ho] at hk; exact box_sound r hd ho _ hid hc hk
  · rename_i t ps ho
    simp only [ho] at hk
    have key : ∀ (ι : Nat → Option Nat) (I : Nat → Prop), (∀ t, V ⟨C.E0.P, s.hp, ι, I, C.E0.A, w.heap⟩ (s.env t) (a.tmps.getD t undef)) →
        ∀ (j : Nat) (p : Nat × PV) (v : Nat × Value), (ps.toList.map fun p => (p.1, s.ev p.2))[j]? = some p → (ps.toList.map fun p => (p.1, a.eval p.2))[j]? = some v → p.1 = v.1 ∧ V ⟨C.E0.P, s.hp, ι, I, C.E0.A, w.heap⟩ p.2 v.2 := by
      intro ι I henv j p v hp hv
      rw [List.getElem?_map] at hp hv
      cases hx : ps.toList[j]? with
      | none => simp [hx] at hp
      | some y => simp [hx] at hp hv; subst hp; subst hv; exact ⟨rfl, V_ev henv _⟩
    obtain ⟨h1, h2, ι0, I0, hat0, henv0⟩ := r
    have e0 := (fBuild_sound (E := ⟨C.E0.P, s.hp, ι0, I0, C.E0.A, w.heap⟩) (w := w) (by simp) (key ι0 I0 henv0) hc).1
    refine Rel.val' ⟨h1, h2, ι0, I0, hat0, henv0⟩ hd e0 (fun ι I hat henv => ?_) hk
    obtain ⟨_, u, hu, hr⟩ := fBuild_sound (E := ⟨C.E0.P, s.hp, ι, I, C.E0.A, w.heap⟩) (w := w) (by simp) (key ι I henv) hc
    refine ⟨u, hu, ?_⟩
    have e1 : (ps.map fun (i, x) => (i, a.eval x)) = (ps.toList.map fun p => (p.1, a.eval p.2)).toArray := by apply Array.ext'; simp
    simp [execOp, ho, e1, hr]
  · rename_i t n ps ho; simp only [ho] at hk; exact buildSlice_sound r hd ho _ hid hc hk
  · rename_i t x ho; simp only [ho] at hk; exact load_sound r hd ho hc hk
  · rename_i t p x ho; simp only [ho] at hk; exact store_sound r hd ho hc hk
  · rename_i x ho
    simp only [ho] at hk
    obtain ⟨h1, h2, ι0, I0, hat0, henv0⟩ := r
    have e0 := (fNil_sound (P := C.E0.P) (w := w) (V_ev henv0 x) hc).1
    have e00 : (fNil s.hp (s.ev x)).2.o = none := by simp only at e0; rw [e0]
    refine Rel.val' ⟨h1, h2, ι0, I0, hat0, henv0⟩ hd e00 (fun ι I hat henv => ?_) hk
    obtain ⟨e1, hr⟩ := fNil_sound (P := C.E0.P) (w := w) (V_ev henv x) hc
    simp only at e1
    rw [e1]
    exact ⟨a.eval x, V_ev henv x, hr _ o x ho rfl⟩
  · rename_i op t x y yt ho
    simp only [ho] at hk
    obtain ⟨h1, h2, ι0, I0, hat0, henv0⟩ := r
    have e0 := (binP_sound (yt := yt) (x := x) (y := y) (V_ev henv0 x) (V_ev henv0 y) w hc).1
    refine Rel.val' ⟨h1, h2, ι0, I0, hat0, henv0⟩ hd e0 (fun ι I hat henv => ?_) hk
    obtain ⟨_, v, hv, hr⟩ := binP_sound (yt := yt) (x := x) (y := y) (V_ev henv x) (V_ev henv y) w hc
    refine ⟨v, hv, ?_⟩
    unfold execOp
    rw [ho]
    simp only [Sem.run_bind] at hr ⊢
    rw [hr]; rfl
  · rename_i op t x ho
    simp only [ho] at hk
    obtain ⟨h1, h2, ι0, I0, hat0, henv0⟩ := r
    have e0 := (unP_sound (P := C.E0.P) (V_ev henv0 x) w hc).1
    refine Rel.val' ⟨h1, h2, ι0, I0, hat0, henv0⟩ hd e0 (fun ι I hat henv => ?_) hk
    obtain ⟨_, v, hv, hr⟩ := unP_sound (P := C.E0.P) (V_ev henv x) w hc
    exact ⟨v, hv, by simp [execOp, ho, hr]⟩
  · rename_i src dst x ho
    simp only [ho] at hk
    have hbytes : (fBytes C.E0.P s.hp src dst (s.ev x)).1 → (∀ a' w', Rel C (s.app o.dst (fBytes C.E0.P s.hp src dst (s.ev x)).2) a' w' → K a' w') → o.wp C.E0.P a w K Q := by
      intro hc hk
      unfold fBytes at hc hk
      split at hc <;> try (exact hc.elim)
      rename_i hus
      rw [if_pos hus] at hk
      simp only [Bool.and_eq_true] at hus
      split at hc <;> try (exact hc.elim)
      rename_i e hel
      simp only [hel] at hk
      split at hc <;> try (exact hc.elim)
      rename_i c m cs hsrc
      simp only [hsrc] at hk
      split at hc <;> try (exact hc.elim)
      rename_i l hl
      simp only [hl] at hk
      obtain ⟨hcc, hsz⟩ := hc
      refine r.val' hd (e := ⟨.d true (.str l), none⟩) rfl (fun ι I hat henv => ?_) hk
      have hv := V_ev henv x
      obtain ⟨news, hnv, hnl, hsa⟩ := srcOf_sound hat hv hsrc hcc
      obtain ⟨ns, e1, e2⟩ := bytesP_VL cs news l hnv hl
      obtain ⟨e', he', hu8⟩ := isU8_run hus.1
      rw [hel] at he'
      simp only [Option.some.injEq] at he'
      subst he'
      have hus2 := elemT_run hel
      have hds := isStr_run hus.2
      refine ⟨_, mk_str, ?_⟩
      rcases hsa with ⟨cy, hye, rfl, rfl⟩ | ⟨ad, cy, hye, hcells⟩
      · have : ns = [] := by simpa using e1
        subst this
        have e4 : (ByteArray.mk l.toArray) = ByteArray.empty := e2.symm
        have hb := run_convert_bytes_string (P := C.E0.P) w src dst e none 0 cy hus2 hu8 hds
        simp only [execOp, ho, hye, Sem.run_bind, hb]
        simp [Conv.bytesToString, e4]
      · have hb := run_convert_bytes_string (P := C.E0.P) w src dst e (some ad) m cy hus2 hu8 hds
        have hlc := run_loadCells_list (P := C.E0.P) w ad news hcells
        rw [hnl, hsz, Nat.mul_one, e1] at hlc
        have hbs := run_bytesToString (P := C.E0.P) w ad m cy ns hlc
        rw [e2] at hbs
        simp only [execOp, ho, hye, Sem.run_bind, hb, hbs, Result.andThen_ok, Sem.run_pure]
    generalize hev : s.ev x = p at hc hk hbytes
    unfold fConv at hc hk
    split at hc
    · rename_i kb k n
      split at hc <;> try (exact hc.elim)
      rename_i k' hk'
      simp only [hk'] at hk
      refine r.val' hd (e := ⟨.d true (.int k' (k'.wrap n)), none⟩) rfl (fun ι I _ henv => ?_) hk
      have hv := V_ev henv x
      rw [hev] at hv
      have hv := V_int hv
      obtain ⟨d, hd'⟩ := hasT_run hc
      exact ⟨_, mk_int, by simp [execOp, ho, hv, convert, run_underlying hd', run_underlying (intT_run hk'), Conv.intToInt]⟩
    · rename_i k l
      obtain ⟨hs, hdst⟩ := hc
      refine r.val' hd (e := ⟨.d true (.str l), none⟩) rfl (fun ι I _ henv => ?_) hk
      have hv := V_ev henv x
      rw [hev] at hv
      have hv := V_str hv
      obtain ⟨d, hd'⟩ := hasT_run hs
      have hdst' := isStr_run hdst
      exact ⟨_, mk_str, by simp [execOp, ho, hv, convert, run_underlying hd', run_underlying hdst']⟩
    · exact hbytes hc hk
    · exact hbytes hc hk
    · exact hbytes hc hk
    · exact hc.elim
  · rename_i f first caps ho
    simp only [ho] at hk
    refine r.val' hd (e := ⟨.fn f (evs s first) (evs s caps), none⟩) rfl (fun ι I _ henv => ⟨.func (.func f) (first.map a.eval) (caps.map a.eval), ?_, by simp [execOp, ho, Instr.makeFunc]⟩) hk
    refine .fn f _ _ _ _ (by simp [evs]) (by simp [evs]) (fun i x hx => ?_) (fun i x hx => ?_)
    all_goals
      simp only [evs, List.getElem?_map] at hx
    · cases hy : first.toList[i]? with
      | none => simp [hy] at hx
      | some y =>
        simp [hy] at hx; subst hx
        have : (first.map a.eval).getD i undef = a.eval y := by
          rw [Array.getD_eq_getD_getElem?]; have hy' : first[i]? = some y := by simpa using hy
          simp [hy']
        rw [this]; exact V_ev henv y
    · cases hy : caps.toList[i]? with
      | none => simp [hy] at hx
      | some y =>
        simp [hy] at hx; subst hx
        have : (caps.map a.eval).getD i undef = a.eval y := by
          rw [Array.getD_eq_getD_getElem?]; have hy' : caps[i]? = some y := by simpa using hy
          simp [hy']
        rw [this]; exact V_ev henv y
  · rename_i t x y ho; simp only [ho] at hk; exact make_sound r hd ho _ hid hc hk
  · rename_i t x lo hi ho
    simp only [ho] at hk
    have hlo : ∀ (ι : Nat → Option Nat) (I : Nat → Prop), (∀ t, V ⟨C.E0.P, s.hp, ι, I, C.E0.A, w.heap⟩ (s.env t) (a.tmps.getD t undef)) → ∀ (q : Option Operand), match q.map s.ev, q.map a.eval with | none, none => True | some x, some v => V ⟨C.E0.P, s.hp, ι, I, C.E0.A, w.heap⟩ x v | _, _ => False := by
      intro ι I henv q
      cases q with
      | none => trivial
      | some q => exact V_ev henv q
    obtain ⟨h1, h2, ι0, I0, hat0, henv0⟩ := r
    have e0 := (fSlice_sound (w := w) (E := ⟨C.E0.P, s.hp, ι0, I0, C.E0.A, w.heap⟩) (V_ev henv0 x) (hlo ι0 I0 henv0 lo) (hlo ι0 I0 henv0 hi) hc rfl).1
    refine Rel.val' ⟨h1, h2, ι0, I0, hat0, henv0⟩ hd e0 (fun ι I hat henv => ?_) hk
    obtain ⟨_, u, hu, hr⟩ := fSlice_sound (w := w) (E := ⟨C.E0.P, s.hp, ι, I, C.E0.A, w.heap⟩) (V_ev henv x) (hlo ι I henv lo) (hlo ι I henv hi) hc rfl
    exact ⟨u, hu, by simp [execOp, ho, hr]⟩
  · rename_i t x f ho
    simp only [ho] at hk
    obtain ⟨h1, h2, ι0, I0, hat0, henv0⟩ := r
    have e0 := (fFieldAddr_sound (P := C.E0.P) (w := w) (V_ev henv0 x) hc).1
    refine Rel.val' ⟨h1, h2, ι0, I0, hat0, henv0⟩ hd e0 (fun ι I hat henv => ?_) hk
    obtain ⟨_, u, hu, hr⟩ := fFieldAddr_sound (P := C.E0.P) (w := w) (V_ev henv x) hc
    exact ⟨u, hu, by simp [execOp, ho, hr]⟩
  · rename_i t x f ho
    simp only [ho] at hk
    obtain ⟨h1, h2, ι0, I0, hat0, henv0⟩ := r
    have e0 := (fField_sound (P := C.E0.P) (w := w) (V_ev henv0 x) hc).1
    refine Rel.val' ⟨h1, h2, ι0, I0, hat0, henv0⟩ hd e0 (fun ι I hat henv => ?_) hk
    obtain ⟨_, u, hu, hr⟩ := fField_sound (P := C.E0.P) (w := w) (V_ev henv x) hc
    exact ⟨u, hu, by simp [execOp, ho, hr]⟩
  · rename_i t x i ho
    simp only [ho] at hk
    obtain ⟨h1, h2, ι0, I0, hat0, henv0⟩ := r
    have e0 := (fIndexAddr_sound (P := C.E0.P) (w := w) (V_ev henv0 x) (V_ev henv0 i) hc).1
    refine Rel.val' ⟨h1, h2, ι0, I0, hat0, henv0⟩ hd e0 (fun ι I hat henv => ?_) hk
    obtain ⟨_, u, hu, hr⟩ := fIndexAddr_sound (P := C.E0.P) (w := w) (V_ev henv x) (V_ev henv i) hc
    exact ⟨u, hu, by simp [execOp, ho, hr]⟩
  · rename_i t x i ho
    simp only [ho] at hk
    obtain ⟨h1, h2, ι0, I0, hat0, henv0⟩ := r
    have e0 := (fIndex_sound (P := C.E0.P) (w := w) (V_ev henv0 x) (V_ev henv0 i) hc).1
    refine Rel.val' ⟨h1, h2, ι0, I0, hat0, henv0⟩ hd e0 (fun ι I hat henv => ?_) hk
    obtain ⟨_, u, hu, hr⟩ := fIndex_sound (P := C.E0.P) (w := w) (V_ev henv x) (V_ev henv i) hc
    exact ⟨u, hu, by simp [execOp, ho, hr]⟩
  · rename_i x i ho
    simp only [ho] at hk
    obtain ⟨h1, h2, ι0, I0, hat0, henv0⟩ := r
    have e0 := (fExtract_sound (P := C.E0.P) (w := w) (V_ev henv0 x) hc).1
    refine Rel.val' ⟨h1, h2, ι0, I0, hat0, henv0⟩ hd e0 (fun ι I hat henv => ?_) hk
    obtain ⟨_, u, hu, hr⟩ := fExtract_sound (P := C.E0.P) (w := w) (V_ev henv x) hc
    exact ⟨u, hu, by simp [execOp, ho, hr]⟩
  · rename_i b args ats ho
    simp only [ho] at hk
    obtain ⟨args⟩ := args
    obtain ⟨ats⟩ := ats
    simp only at hc hk
    unfold fBuiltin at hc hk
    split at hc <;> try (exact hc.elim)
    · rename_i x t
      obtain ⟨h1, h2, ι0, I0, hat0, henv0⟩ := r
      have e0 := (fLen_sound (P := C.E0.P) (w := w) (ty := o.type) (V_ev henv0 x) hc).1
      refine Rel.val' ⟨h1, h2, ι0, I0, hat0, henv0⟩ hd e0 (fun ι I hat henv => ?_) hk
      obtain ⟨_, u, hu, hr⟩ := fLen_sound (P := C.E0.P) (w := w) (ty := o.type) (V_ev henv x) hc
      exact ⟨u, hu, by simp [execOp, ho, resolve, invoke, builtin, hr]⟩
    · rename_i x y t u
      split at hc <;> try (exact hc.elim)
      rename_i htu
      subst htu
      simp only [if_true] at hk
      exact append_sound r hd ho _ hid hc hk
    · rename_i x y t1 t2
      replace hk : ∀ a' w', Rel C (s.app o.dst (fMin (s.ev x) (s.ev y)).2) a' w' → K a' w' := hk
      generalize hex : s.ev x = px at hc hk
      generalize hey : s.ev y = py at hc hk
      unfold fMin at hc hk
      split at hc <;> try (exact hc.elim)
      rename_i k1 k a1 k2 k' b1
      have : k = k' := hc
      subst this
      refine r.val' hd (e := ⟨.d true (.int k (if b1 < a1 then b1 else a1)), none⟩) rfl (fun ι I _ henv => ?_) hk
      have hv := V_ev henv x
      have hv2 := V_ev henv y
      rw [hex] at hv; rw [hey] at hv2
      have hv := V_int hv; have hv2 := V_int hv2
      exact ⟨_, mk_int, by simp [execOp, ho, resolve, invoke, builtin, hv, hv2, run_min_int2]⟩
    · rename_i x y t1 t2
      replace hk : ∀ a' w', Rel C (s.app o.dst (fMax (s.ev x) (s.ev y)).2) a' w' → K a' w' := hk
      generalize hex : s.ev x = px at hc hk
      generalize hey : s.ev y = py at hc hk
      unfold fMax at hc hk
      split at hc <;> try (exact hc.elim)
      rename_i k1 k a1 k2 k' b1
      have : k = k' := hc
      subst this
      refine r.val' hd (e := ⟨.d true (.int k (if b1 > a1 then b1 else a1)), none⟩) rfl (fun ι I _ henv => ?_) hk
      have hv := V_ev henv x
      have hv2 := V_ev henv y
      rw [hex] at hv; rw [hey] at hv2
      have hv := V_int hv; have hv2 := V_int hv2
      exact ⟨_, mk_int, by simp [execOp, ho, resolve, invoke, builtin, hv, hv2, run_max_int2]⟩
  · exact hc.elim

end
end Go.Abs
