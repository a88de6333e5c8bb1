/- The laws of single steps. No condition. -/
import Derived.Test.YtfhpoffgnpgagaaAbsW
set_option linter.unusedSimpArgs false
set_option linter.unusedVariables false
namespace Go.Abs

section
variable {C : Ctx} {s : ASt}

theorem St.mk' {op : Op} {dst : Option Nat} {x : PV} {oo : Option (Nat × Nat × Option AObj)} (h0 : isVC op = false) (o : Out) (ho : ∀ ty pos aft, fstep C.E0.P C.nm s ⟨dst, op, ty, pos, aft, none⟩ = o) (h1 : o.1) (h2 : o.2 = ⟨x, oo⟩) : St C s op dst x oo :=
  ⟨h0, fun ty pos aft => by rw [ho ty pos aft]; exact ⟨h1, h2⟩⟩

theorem st_mv {d : Nat} {x : Operand} {v : PV} (h : s.ev x = v) : St C s (.move x) (some d) v none := .mk' rfl _ (fun _ _ _ => rfl) trivial (by simp [val, h])
theorem st_as {d : Nat} {x : Operand} {v : PV} (h : s.ev x = v) : St C s (.assign x) (some d) v none := .mk' rfl _ (fun _ _ _ => rfl) trivial (by simp [val, h])
theorem st_pick {d : Nat} {c a b : Operand} {k t : Bool} {v : PV} (hc : s.ev c = .d k (.bool t)) (hv : (if t then s.ev a else s.ev b) = v) : St C s (.pick c a b) (some d) v none :=
  .mk' rfl _ (fun _ _ _ => rfl) (by simp [fPick, hc, val]) (by simp [fPick, hc, val, hv])
theorem st_pickT {d : Nat} {c a b : Operand} {k t : Bool} {v : PV} (hc : s.ev c = .d k (.bool t)) (ht : t = true) (hv : s.ev a = v) : St C s (.pick c a b) (some d) v none := st_pick hc (by simp [ht, hv])
theorem st_pickF {d : Nat} {c a b : Operand} {k t : Bool} {v : PV} (hc : s.ev c = .d k (.bool t)) (ht : t = false) (hv : s.ev b = v) : St C s (.pick c a b) (some d) v none := st_pick hc (by simp [ht, hv])

section ints
variable {d : Nat} {t yt : TypeId} {x y : Operand} {k1 k2 : Bool} {K : IntKind} {a b : Int}
theorem st_bin {op : BinOp} {r : PV} {c : Prop} (hx : s.ev x = .d k1 (.int K a)) (hy : s.ev y = .d k2 (.int K b)) (hs : isSh op = false) (hr : binInt op K a b = (c, ⟨r, none⟩)) (hc : c) : St C s (.binOp op t x y yt) (some d) r none :=
  .mk' rfl _ (fun _ _ _ => rfl) (by simp [hx, hy, binP, hs, hr, hc]) (by simp [hx, hy, binP, hs, hr])
theorem st_shi {K' : IntKind} {op : BinOp} {r : PV} {c : Prop} (hx : s.ev x = .d k1 (.int K a)) (hy : s.ev y = .d k2 (.int K' b)) (hs : isSh op = true) (hr : shInt op K a b = (c, ⟨r, none⟩)) (hc : c) : St C s (.binOp op t x y yt) (some d) r none :=
  .mk' rfl _ (fun _ _ _ => rfl) (by simp [hx, hy, binP, hs, hr, hc]) (by simp [hx, hy, binP, hs, hr])
end ints
theorem st_bstr {d : Nat} {t yt : TypeId} {x y : Operand} {k1 k2 : Bool} {a b : List UInt8} {op : BinOp} {r : PV} {c : Prop} (hx : s.ev x = .d k1 (.str a)) (hy : s.ev y = .d k2 (.str b)) (hs : isSh op = false) (hr : binStr op a b = (c, ⟨r, none⟩)) (hc : c) : St C s (.binOp op t x y yt) (some d) r none :=
  .mk' rfl _ (fun _ _ _ => rfl) (by simp [hx, hy, binP, hs, hr, hc]) (by simp [hx, hy, binP, hs, hr])
theorem st_beq {d : Nat} {t yt : TypeId} {x y : Operand} {k1 k2 : Bool} {a b : Bool} (hu : C.E0.P.underlying t = some .bool) (hx : s.ev x = .d k1 (.bool a)) (hy : s.ev y = .d k2 (.bool b)) : St C s (.binOp .eql t x y yt) (some d) (.d true (.bool (a == b))) none :=
  .mk' rfl _ (fun _ _ _ => rfl) (by simp [hx, hy, binP, hu, val]) (by simp [hx, hy, binP, hu, val])
theorem st_bne {d : Nat} {t yt : TypeId} {x y : Operand} {k1 k2 : Bool} {a b : Bool} (hu : C.E0.P.underlying t = some .bool) (hx : s.ev x = .d k1 (.bool a)) (hy : s.ev y = .d k2 (.bool b)) : St C s (.binOp .neq t x y yt) (some d) (.d true (.bool (!(a == b)))) none :=
  .mk' rfl _ (fun _ _ _ => rfl) (by simp [hx, hy, binP, hu, val]) (by simp [hx, hy, binP, hu, val])
theorem st_not {d : Nat} {t : TypeId} {x : Operand} {k : Bool} {b : Bool} (hx : s.ev x = .d k (.bool b)) : St C s (.unOp .not t x) (some d) (.d true (.bool (!b))) none :=
  .mk' rfl _ (fun _ _ _ => rfl) (by simp [hx, unP, val]) (by simp [hx, unP, val])
theorem st_neg {d : Nat} {t : TypeId} {x : Operand} {k : Bool} {K : IntKind} {n : Int} (hx : s.ev x = .d k (.int K n)) : St C s (.unOp .neg t x) (some d) (.d true (.int K (K.wrap (0 - n)))) none :=
  .mk' rfl _ (fun _ _ _ => rfl) (by simp [hx, unP, val]) (by simp [hx, unP, val])
theorem st_eqs {d : Nat} {op : BinOp} {t yt : TypeId} {x y : Operand} {l : List (Nat × Nat)} {a b : List PV} {ds es : List PD} {r : Bool} {v : PV} (hl : eqT C.E0.P t = some l) (hx : s.ev x = .agg a) (hy : s.ev y = .agg b) (hd : dataL a = some ds) (he : dataL b = some es) (hr : eqCells l ds es = some r)
    (hv : eqOut op r = (True, ⟨v, none⟩)) : St C s (.binOp op t x y yt) (some d) v none :=
  .mk' rfl _ (fun _ _ _ => rfl) (by simp [hx, hy, binP, binX, hl, aggD, hd, he, hr, hv]) (by simp [hx, hy, binP, binX, hl, aggD, hd, he, hr, hv])

theorem st_conv {d : Nat} {t u : TypeId} {x : Operand} {k : Bool} {K K' : IntKind} {n : Int} (hu : intT C.E0.P u = some K') (ht : hasT C.E0.P t = true) (hx : s.ev x = .d k (.int K n)) : St C s (.convert t u x) (some d) (.d true (.int K' (K'.wrap n))) none :=
  .mk' rfl _ (fun _ _ _ => rfl) (by simp [hx, fConv, hu, valIf, ht]) (by simp [hx, fConv, hu, valIf])
theorem st_cstr {d : Nat} {t u : TypeId} {x : Operand} {k : Bool} {b : List UInt8} (hu : isStr C.E0.P u = true) (ht : hasT C.E0.P t = true) (hx : s.ev x = .d k (.str b)) : St C s (.convert t u x) (some d) (.d true (.str b)) none :=
  .mk' rfl _ (fun _ _ _ => rfl) (by simp [hx, fConv, hu, valIf, ht]) (by simp [hx, fConv, valIf])

theorem st_len_d {d : Nat} {t : TypeId} {x : Operand} {k : Bool} {y : PD} {id : Nat} (hs : isSl C.E0.P t = true) (hx : s.ev x = .d k y) (hg : isSlD y = true) : St C s (.call ⟨.builtin .len, #[x], #[t]⟩) (some d) (.d true (.int .i64 (lenN y))) none := by
  refine .mk' rfl _ (fun _ _ _ => rfl) ?_ ?_ <;> cases y <;> simp [isSlD] at hg <;> simp [fBuiltin, hx, fLen, valIf, hs, lenN]
theorem st_len_dk {d : Nat} {t : TypeId} {x : Operand} {k : Bool} {y : PD} (hs : isSl C.E0.P t = true) (hx : s.ev x = dk k y) (hg : isSlD y = true) : St C s (.call ⟨.builtin .len, #[x], #[t]⟩) (some d) (.d true (.int .i64 (lenN y))) none := by
  refine .mk' rfl _ (fun _ _ _ => rfl) ?_ ?_ <;> cases y <;> simp [isSlD] at hg <;> simp [fBuiltin, hx, fLen, valIf, hs, lenN, dk]
theorem st_len_o {d : Nat} {t : TypeId} {x : Operand} {id v off len : Nat} {e : TypeId} {row : List PV} (hs : isSl C.E0.P t = true) (hx : s.ev x = .own id v off len) (ho : s.hp id = (v, some (.cells e row))) : St C s (.call ⟨.builtin .len, #[x], #[t]⟩) (some d) (.d true (.int .i64 len)) none :=
  .mk' rfl _ (fun _ _ _ => rfl) (by simp [fBuiltin, hx, fLen, valIf, hs, liveRow, ho]) (by simp [fBuiltin, hx, fLen, valIf])
theorem st_len_s {d : Nat} {t : TypeId} {x : Operand} {k : Bool} {b : List UInt8} (hs : isStr C.E0.P t = true) (hx : s.ev x = .d k (.str b)) : St C s (.call ⟨.builtin .len, #[x], #[t]⟩) (some d) (.d true (.int .i64 b.length)) none :=
  .mk' rfl _ (fun _ _ _ => rfl) (by simp [fBuiltin, hx, fLen, valIf, hs]) (by simp [fBuiltin, hx, fLen, valIf])
theorem st_min {d : Nat} {t u : TypeId} {x y : Operand} {k1 k2 : Bool} {K : IntKind} {a b : Int} (hx : s.ev x = .d k1 (.int K a)) (hy : s.ev y = .d k2 (.int K b)) : St C s (.call ⟨.builtin .min, #[x, y], #[t, u]⟩) (some d) (.d true (.int K (if b < a then b else a))) none :=
  .mk' rfl _ (fun _ _ _ => rfl) (by simp [fBuiltin, hx, hy, fMin, valIf]) (by simp [fBuiltin, hx, hy, fMin, valIf])
theorem st_max {d : Nat} {t u : TypeId} {x y : Operand} {k1 k2 : Bool} {K : IntKind} {a b : Int} (hx : s.ev x = .d k1 (.int K a)) (hy : s.ev y = .d k2 (.int K b)) : St C s (.call ⟨.builtin .max, #[x, y], #[t, u]⟩) (some d) (.d true (.int K (if b > a then b else a))) none :=
  .mk' rfl _ (fun _ _ _ => rfl) (by simp [fBuiltin, hx, hy, fMax, valIf]) (by simp [fBuiltin, hx, hy, fMax, valIf])

theorem st_ix {d : Nat} {t : TypeId} {x i : Operand} {k k2 : Bool} {b : List UInt8} {K : IntKind} {z : Int} (hs : isStr C.E0.P t = true) (hx : s.ev x = .d k (.str b)) (hi : s.ev i = .d k2 (.int K z)) (hg : 0 ≤ z ∧ z < b.length) : St C s (.index t x i) (some d) (.d true (.int .u8 (b.getD z.toNat 0).toNat)) none :=
  .mk' rfl _ (fun _ _ _ => rfl) (by simp only [fIndex, hx, hi, valIf, hs]; exact hg) (by simp [fIndex, hx, hi, valIf, hs])

theorem st_ia_d {d : Nat} {t e : TypeId} {x i : Operand} {k k2 : Bool} {y : PD} {K : IntKind} {z : Int} {sz : Nat} (he : elemT C.E0.P t = some e) (hs : szOf C.E0.P e = sz) (h0 : 0 < sz) (hx : s.ev x = .d k y) (hi : s.ev i = .d k2 (.int K z)) (hg : idxOK sz y z) :
    St C s (.indexAddr t x i) (some d) (.d k (.lp ((cellsD y).drop (z.toNat * sz)))) none := by
  obtain ⟨g1, g2, g3, g4⟩ := hg
  rw [isLst_eq g1] at hx
  refine .mk' rfl _ (fun _ _ _ => rfl) ?_ ?_ <;> simp only [hx, hi, fIndexAddr, he, hs, valIf]
  exact ⟨h0, g2, g3, g4⟩
theorem st_ia_dk {d : Nat} {t e : TypeId} {x i : Operand} {k k2 : Bool} {y : PD} {K : IntKind} {z : Int} {sz : Nat} (he : elemT C.E0.P t = some e) (hs : szOf C.E0.P e = sz) (h0 : 0 < sz) (hx : s.ev x = dk k y) (hi : s.ev i = .d k2 (.int K z)) (hg : idxOK sz y z) :
    St C s (.indexAddr t x i) (some d) (.d k (.lp ((cellsD y).drop (z.toNat * sz)))) none := by
  refine st_ia_d he hs h0 ?_ hi hg
  rw [hx, isLst_eq hg.1]; rfl
theorem st_ia_o {d : Nat} {t e : TypeId} {x i : Operand} {k2 : Bool} {id v len : Nat} {e' : TypeId} {row : List PV} {K : IntKind} {z : Int} {sz : Nat} (he : elemT C.E0.P t = some e) (hs : szOf C.E0.P e = sz) (h0 : 0 < sz) (hx : s.ev x = .own id v 0 len) (ho : s.hp id = (v, some (.cells e' row))) (hi : s.ev i = .d k2 (.int K z)) (hg : 0 ≤ z ∧ z < len) :
    St C s (.indexAddr t x i) (some d) (.ptr id v (z.toNat * sz)) none := by
  refine .mk' rfl _ (fun _ _ _ => rfl) ?_ ?_ <;> simp only [hx, hi, fIndexAddr, he, hs, valIf, Nat.zero_add]
  exact ⟨h0, by simp [liveRow, ho], hg.1, hg.2⟩

theorem st_fa_p {d : Nat} {t : TypeId} {x : Operand} {f off n o o' : Nat} {ft : TypeId} {id v : Nat} {ob : AObj} (hf : fieldT C.E0.P t f = some (off, n, ft)) (hn : 0 < n) (hx : s.ev x = .ptr id v o) (ho : s.hp id = (v, some ob)) (h' : o + off = o') : St C s (.fieldAddr t x f) (some d) (.ptr id v o') none := by
  subst h'
  refine .mk' rfl _ (fun _ _ _ => rfl) ?_ ?_ <;> simp only [hx, fFieldAddr, hf, valIf]
  exact ⟨by simp [liveObj, ho], hn⟩
theorem st_fa_lp {d : Nat} {t : TypeId} {x : Operand} {f off n : Nat} {ft : TypeId} {k : Bool} {cs : List PD} (hf : fieldT C.E0.P t f = some (off, n, ft)) (hn : 0 < n) (hx : s.ev x = .d k (.lp cs)) (hg : off ≤ cs.length) : St C s (.fieldAddr t x f) (some d) (.d k (.lp (cs.drop off))) none := by
  refine .mk' rfl _ (fun _ _ _ => rfl) ?_ ?_ <;> simp only [hx, fFieldAddr, hf, valIf]
  exact ⟨hg, hn⟩
theorem st_f_a {d : Nat} {t : TypeId} {x : Operand} {f off : Nat} {ft : TypeId} {cs : List PV} {c : PV} (hf : fieldT C.E0.P t f = some (off, 1, ft)) (ht : tyT C.E0.P ft = some (false, 1)) (hx : s.ev x = .agg cs) (hc : cs[off]? = some c) : St C s (.field t x f) (some d) c none := by
  have hl : off + 1 ≤ cs.length := (List.getElem?_eq_some_iff.1 hc).1
  refine .mk' rfl _ (fun _ _ _ => rfl) ?_ ?_ <;> simp only [hx, fField, hf, ht, valIf]
  · exact ⟨hl, .inr trivial⟩
  · simp [List.getD, hc]
theorem st_f_aA {d : Nat} {t : TypeId} {x : Operand} {f off n : Nat} {ft : TypeId} {cs c : List PV} (hf : fieldT C.E0.P t f = some (off, n, ft)) (ht : tyT C.E0.P ft = some (true, n)) (hx : s.ev x = .agg cs) (hc : (cs.drop off).take n = c) (hl : off + n ≤ cs.length) : St C s (.field t x f) (some d) (.agg c) none := by
  refine .mk' rfl _ (fun _ _ _ => rfl) ?_ ?_ <;> simp only [hx, fField, hf, ht, valIf]
  · exact ⟨hl, .inl trivial⟩
  · simp [hc]

theorem st_ld_lp {d : Nat} {t : TypeId} {x : Operand} {k : Bool} {cs : List PD} {c : PV} (ht : tyT C.E0.P t = some (false, 1)) (hx : s.ev x = .d k (.lp cs)) (hg : 1 ≤ cs.length) (hc : dk k (cs.getD 0 .nil) = c) : St C s (.load t x) (some d) c none := by
  refine .mk' rfl _ (fun _ _ _ => rfl) ?_ ?_ <;> simp only [hx, fLoad, ht, valIf]
  · exact ⟨hg, .inr trivial⟩
  · simp [← hc]
theorem st_ldA_lp {d : Nat} {t : TypeId} {x : Operand} {k : Bool} {n : Nat} {cs : List PD} (ht : tyT C.E0.P t = some (true, n)) (hx : s.ev x = .d k (.lp cs)) (hg : n ≤ cs.length) : St C s (.load t x) (some d) (.d k (.agg (cs.take n))) none := by
  refine .mk' rfl _ (fun _ _ _ => rfl) ?_ ?_ <;> simp only [hx, fLoad, ht, valIf]
  · exact ⟨hg, .inl trivial⟩
  · simp
theorem st_ld_p {d : Nat} {t : TypeId} {x : Operand} {id v off : Nat} {e : TypeId} {row : List PV} {c : PV} (ht : tyT C.E0.P t = some (false, 1)) (hx : s.ev x = .ptr id v off) (ho : s.hp id = (v, some (.cells e row))) (hc : row[off]? = some c) : St C s (.load t x) (some d) c none := by
  have hl : off + 1 ≤ row.length := (List.getElem?_eq_some_iff.1 hc).1
  refine .mk' rfl _ (fun _ _ _ => rfl) ?_ ?_ <;> simp only [hx, fLoad, ht, ho, valIf]
  · exact ⟨trivial, hl, .inr trivial⟩
  · simp [List.getD, hc]
theorem st_ldA_p {d : Nat} {t : TypeId} {x : Operand} {id v off n : Nat} {e : TypeId} {row cs : List PV} (ht : tyT C.E0.P t = some (true, n)) (hx : s.ev x = .ptr id v off) (ho : s.hp id = (v, some (.cells e row))) (hl : off + n ≤ row.length) (hc : (row.drop off).take n = cs) : St C s (.load t x) (some d) (.agg cs) none := by
  refine .mk' rfl _ (fun _ _ _ => rfl) ?_ ?_ <;> simp only [hx, fLoad, ht, ho, valIf]
  · exact ⟨trivial, hl, .inl trivial⟩
  · simp [hc]
theorem row_at {R : List PD} {off : Nat} {c : PV} (hg : off < R.length) (hc : PV.d true (R.getD off .nil) = c) : (R.map (PV.d true))[off]? = some c := by
  subst hc; simp [hg]
theorem row_seg {R : List PD} {off n : Nat} : ((R.map (PV.d true)).drop off).take n = ((R.drop off).take n).map (PV.d true) := by simp [List.map_take, List.map_drop]

theorem st_sto {t : TypeId} {p y : Operand} {ag : Bool} {n id v off : Nat} {e : TypeId} {row cs row' : List PV} {x : PV} (ht : tyT C.E0.P t = some (ag, n)) (hp : s.ev p = .ptr id v off) (ho : s.hp id = (v, some (.cells e row))) (hy : s.ev y = x) (hx : cellsOf x = some cs) (hn : cs.length = n) (hl : off + n ≤ row.length) (hf : fitsP s.hp cs)
    (hr : setAt row off cs = row') : St C s (.store t p y) none .dead (some (id, v, some (.cells e row'))) := by
  subst hr
  refine .mk' rfl _ (fun _ _ _ => rfl) ?_ ?_ <;> simp only [hp, hy, hx, fStore, ht, ho]
  exact ⟨trivial, hn, hl, hf⟩
theorem row_set {R ds : List PD} {off : Nat} : setAt (R.map (PV.d true)) off (ds.map (PV.d true)) = (R.take off ++ ds ++ R.drop (off + ds.length)).map (PV.d true) := by simp [setAt, List.map_take, List.map_drop]
def setD (R : List PD) (off : Nat) (ds : List PD) : List PD := R.take off ++ ds ++ R.drop (off + ds.length)
theorem row_setD {R ds : List PD} {off : Nat} : setAt (R.map (PV.d true)) off (ds.map (PV.d true)) = (setD R off ds).map (PV.d true) := row_set

theorem st_nil_p {d : Option Nat} {x : Operand} {id v off : Nat} {ob : AObj} (hx : s.ev x = .ptr id v off) (ho : s.hp id = (v, some ob)) : St C s (.nilCheck x) d (.ptr id v off) none := by
  refine .mk' rfl _ (fun _ _ _ => rfl) ?_ ?_ <;> simp only [hx, fNil, valIf]
  simp [liveObj, ho]
theorem st_nil_lp {d : Option Nat} {x : Operand} {k : Bool} {cs : List PD} (hx : s.ev x = .d k (.lp cs)) : St C s (.nilCheck x) d (.d k (.lp cs)) none := by
  refine .mk' rfl _ (fun _ _ _ => rfl) ?_ ?_ <;> simp only [hx, fNil, val]
theorem st_nil_f {d : Option Nat} {x : Operand} {f : FuncId} {caps : List PV} (hx : s.ev x = .fn f [] caps) : St C s (.nilCheck x) d (.fn f [] caps) none := by
  refine .mk' rfl _ (fun _ _ _ => rfl) ?_ ?_ <;> simp only [hx, fNil, val]

theorem st_alloc {d : Nat} {e : TypeId} {z : List PV} (hz : zeroT C.E0.P e = some z) : StN C s (.alloc e) d (fun v => .ptr (C.nm d) v 0) (C.nm d) (.cells e z) :=
  ⟨(s.hp (C.nm d)).1 + 1, .mk' rfl (fAlloc C.E0.P s.hp e (C.nm d)) (fun _ _ _ => rfl) (by simp [fAlloc, hz, fAlloc.val']) (by simp [fAlloc, hz, fAlloc.val'])⟩
theorem st_box {d : Nat} {e : TypeId} {x : Operand} {v : PV} {cs : List PV} (hx : s.ev x = v) (hc : cellsOf v = some cs) (hf : fitsP s.hp cs) : StN C s (.box e x) d (fun v => .ptr (C.nm d) v 0) (C.nm d) (.cells e cs) :=
  ⟨(s.hp (C.nm d)).1 + 1, .mk' rfl (fBox s.hp e (s.ev x) (C.nm d)) (fun _ _ _ => rfl) (by simp [fBox, hx, hc, hf]) (by simp [fBox, hx, hc])⟩
theorem st_build {d : Nat} {t : TypeId} {ps : Array (Nat × Operand)} {pl : List (Nat × Nat)} {z cells : List PV} {parts : List (Nat × PV)} (hz : zeroT C.E0.P t = some z) (hs : structT C.E0.P t = some pl) (hp : (ps.toList.map fun p => (p.1, s.ev p.2)) = parts) (hf : (fillP s.hp (pl[·]?) parts z).1) (hc : (fillP s.hp (pl[·]?) parts z).2 = cells) :
    St C s (.build t ps) (some d) (.agg cells) none := by
  subst hc
  refine .mk' rfl _ (fun _ _ _ => rfl) ?_ ?_ <;> simp only [fBuild, hz, hs, hp]
  exact hf
theorem st_bslice {d : Nat} {t e : TypeId} {n sz : Nat} {ps : Array (Nat × Operand)} {z row : List PV} {parts : List (Nat × PV)} (he : elemT C.E0.P t = some e) (hz : zeroT C.E0.P e = some z) (hs : szOf C.E0.P e = sz) (h0 : 0 < sz) (hzl : z.length = sz) (hn : n * sz ≤ 16777216) (hp : (ps.toList.map fun p => (p.1, s.ev p.2)) = parts)
    (hf : (fillP s.hp (fun i => some (i * sz, sz)) parts (rowZ z n)).1) (hc : (fillP s.hp (fun i => some (i * sz, sz)) parts (rowZ z n)).2 = row) :
    StN C s (.buildSlice t n ps) d (fun v => .own (C.nm d) v 0 n) (C.nm d) (.cells e row) := by
  subst hc
  refine ⟨(s.hp (C.nm d)).1 + 1, .mk' rfl (fBuildSlice C.E0.P s.hp t n (ps.toList.map fun p => (p.1, s.ev p.2)) (C.nm d)) (fun _ _ _ => rfl) ?_ ?_⟩
  · simp only [fBuildSlice, he, hz, hs, hp]; exact ⟨h0, hzl, hn, hf⟩
  · simp only [fBuildSlice, he, hz, hs, hp]
/-- One element. -/
theorem fill1 {hp : HP} {sz : Nat} {x : PV} {cs z : List PV} (hx : cellsOf x = some cs) (hn : cs.length = sz) (hz : z.length = sz) (hf : fitsP hp cs) : (fillP hp (fun i => some (i * sz, sz)) [(0, x)] (rowZ z 1)).1 ∧ (fillP hp (fun i => some (i * sz, sz)) [(0, x)] (rowZ z 1)).2 = cs := by
  have : rowZ z 1 = z := by simp [rowZ]
  simp only [fillP, hx, this, Nat.zero_mul]
  exact ⟨⟨⟨hn, by omega, hf⟩, trivial⟩, setAt_all _ _ (by omega)⟩
theorem st_bs1 {d : Nat} {t e : TypeId} {sz : Nat} {y : Operand} {z cs : List PV} {x : PV} (he : elemT C.E0.P t = some e) (hz : zeroT C.E0.P e = some z) (hs : szOf C.E0.P e = sz) (h0 : 0 < sz) (hzl : z.length = sz) (hn : 1 * sz ≤ 16777216) (hx : s.ev y = x) (hc : cellsOf x = some cs) (hl : cs.length = sz) (hf : fitsP s.hp cs) :
    StN C s (.buildSlice t 1 #[(0, y)]) d (fun v => .own (C.nm d) v 0 1) (C.nm d) (.cells e cs) :=
  st_bslice he hz hs h0 hzl hn (by simp [hx]) (fill1 hc hl hzl hf).1 (fill1 hc hl hzl hf).2
def rowZD (z : List PD) (n : Nat) : List PD := (List.replicate n z).flatten
theorem rowZ_map (z : List PD) (n : Nat) : rowZ (z.map (PV.d true)) n = (rowZD z n).map (PV.d true) := by
  induction n with
  | zero => rfl
  | succ n ih => simp only [rowZ, rowZD, List.replicate_succ, List.flatten_cons, List.map_append] at ih ⊢; rw [ih]
def mkOK (by_ : Nat) (z : Int) : Prop := 0 ≤ z ∧ z ≤ 9223372036854775807 ∧ (by_ : Int) * z ≤ 281474976710656
instance {a b} : Decidable (mkOK a b) := by unfold mkOK; infer_instance
theorem st_make {d : Nat} {t e : TypeId} {x y : Operand} {k k' : Bool} {K K' : IntKind} {n : Int} {sz by_ : Nat} {zd : List PD} (he : elemT C.E0.P t = some e) (hz : zeroT C.E0.P e = some (zd.map (PV.d true))) (hs : szOf C.E0.P e = sz) (hb : bytesT C.E0.P e = by_) (h0 : 0 < sz) (hzl : zd.length = sz)
    (hx : s.ev x = .d k (.int K n)) (hy : s.ev y = .d k' (.int K' n)) (hg : mkOK by_ n) : StN C s (.makeSlice t x y) d (fun v => .own (C.nm d) v 0 n.toNat) (C.nm d) (.cells e ((rowZD zd n.toNat).map (PV.d true))) := by
  obtain ⟨g1, g2, g3⟩ := hg
  refine ⟨(s.hp (C.nm d)).1 + 1, .mk' rfl (fMake C.E0.P s.hp t (s.ev x) (s.ev y) (C.nm d)) (fun _ _ _ => rfl) ?_ ?_⟩
  · simp only [fMake, he, hz, hx, hy, hs, hb]; exact ⟨trivial, g1, h0, by simpa using hzl, g2, g3⟩
  · simp only [fMake, he, hz, hx, hy, rowZ_map]

/-- What append takes in. -/
def Src (P : Program) (hp : HP) (e : TypeId) (y : PV) (m : Nat) (news : List PV) : Prop := ∃ c, srcOf P hp e y = some (c, m, news) ∧ c
theorem src_own {P : Program} {hp : HP} {e e' : TypeId} {id v len sz : Nat} {row : List PV} (hs : szOf P e = sz) (ho : hp id = (v, some (.cells e' row))) (hl : len * sz = row.length) : Src P hp e (.own id v 0 len) len row := by
  refine ⟨v = v ∧ 0 + len * szOf P e ≤ row.length, ?_, ⟨rfl, by rw [hs]; omega⟩⟩
  simp only [srcOf, ho, List.drop_zero]
  rw [hs, hl]; simp
theorem src_nil {P : Program} {hp : HP} {e : TypeId} {k : Bool} : Src P hp e (.d k .nil) 0 [] := ⟨_, rfl, trivial⟩
def srcOK (sz : Nat) (y : PD) : Prop := isSlD y = true ∧ (cellsD y).length = lenN y * sz
instance {a b} : Decidable (srcOK a b) := by unfold srcOK; infer_instance
theorem src_d {P : Program} {hp : HP} {e : TypeId} {y : PD} {sz : Nat} (hs : szOf P e = sz) (hg : srcOK sz y) : Src P hp e (.d true y) (lenN y) ((cellsD y).map (PV.d true)) := by
  obtain ⟨h1, h2⟩ := hg
  have hm : ∀ cs : List PD, cs.map (dk true) = cs.map (PV.d true) := fun cs => List.map_congr_left fun x _ => dk_true x
  cases y <;> simp [isSlD] at h1
  · exact ⟨True, by simp [srcOf, lenN, cellsD], trivial⟩
  · rename_i n cs; exact ⟨cs.length = n * szOf P e, by simp [srcOf, lenN, cellsD, hm], by rw [hs]; exact h2⟩

def apOK (by_ n : Nat) : Prop := n * by_ ≤ 140737488355328 ∧ n ≤ 9223372036854775807
instance {a b} : Decidable (apOK a b) := by unfold apOK; infer_instance
theorem st_ap_n {d : Nat} {t e : TypeId} {x y : Operand} {k : Bool} {z news : List PV} {sz by_ m : Nat} {vy : PV} (he : elemT C.E0.P t = some e) (hz : zeroT C.E0.P e = some z) (hs : szOf C.E0.P e = sz) (hb : bytesT C.E0.P e = by_) (h0 : 0 < sz) (hzl : z.length = sz) (hx : s.ev x = .d k .nil) (hy : s.ev y = vy) (hsrc : Src C.E0.P s.hp e vy m news) (hg : apOK by_ m) :
    StN C s (.call ⟨.builtin .append, #[x, y], #[t, t]⟩) d (fun v => .own (C.nm d) v 0 m) (C.nm d) (.cells e news) := by
  obtain ⟨c, h1, h2⟩ := hsrc
  refine ⟨(s.hp (C.nm d)).1 + 1, .mk' rfl (fAppend C.E0.P s.hp t (s.ev x) (s.ev y) (C.nm d)) (fun _ _ _ => by simp [fstep, fBuiltin]) ?_ ?_⟩
  · simp only [hx, hy, fAppend, he, hz, h1, hs, hb]; exact ⟨h2, h0, hzl, hg.1, hg.2⟩
  · simp only [hx, hy, fAppend, he, hz, h1]
theorem st_ap_o {d : Nat} {t e : TypeId} {x y : Operand} {z news row row' : List PV} {sz by_ m id v len : Nat} {vy : PV} (he : elemT C.E0.P t = some e) (hz : zeroT C.E0.P e = some z) (hs : szOf C.E0.P e = sz) (hb : bytesT C.E0.P e = by_) (h0 : 0 < sz) (hzl : z.length = sz) (hx : s.ev x = .own id v 0 len) (ho : s.hp id = (v, some (.cells e row))) (hy : s.ev y = vy) (hsrc : Src C.E0.P s.hp e vy m news) (hg : apOK by_ (len + m))
    (hl : len * sz = row.length) (hr : row ++ news = row') : StN C s (.call ⟨.builtin .append, #[x, y], #[t, t]⟩) d (fun v => .own id v 0 (len + m)) id (.cells e row') := by
  obtain ⟨c, h1, h2⟩ := hsrc
  subst hr
  refine ⟨v + 1, .mk' rfl (fAppend C.E0.P s.hp t (s.ev x) (s.ev y) (C.nm d)) (fun _ _ _ => by simp [fstep, fBuiltin]) ?_ ?_⟩
  · simp only [hx, hy, fAppend, he, hz, h1, hs, hb, ho]; exact ⟨h2, trivial, trivial, trivial, by omega, h0, hzl, hg.1, hg.2⟩
  · simp only [hx, hy, fAppend, he, hz, h1, ho, hs, hl, List.take_length]

theorem st_ext {d : Nat} {x : Operand} {i : Nat} {k : Bool} {ds : List PD} {c : PV} (hx : s.ev x = .d k (.tup ds)) (hi : i < ds.length) (hc : dk k (ds.getD i .nil) = c) : St C s (.extract x i) (some d) c none := by
  refine .mk' rfl _ (fun _ _ _ => rfl) ?_ ?_ <;> simp only [hx, fExtract, valIf]
  · exact hi
  · simp only [hc]
theorem st_mkf {d : Nat} {f : FuncId} {a b : Array Operand} {v : PV} (hv : PV.fn f (evs s a) (evs s b) = v) : St C s (.makeFunc (.func f) a b) (some d) v none :=
  .mk' rfl _ (fun _ _ _ => rfl) trivial (by simp [val, hv])

def slOK (sz : Nat) (y : PD) (l h : Int) : Prop := isLst y = true ∧ 0 ≤ l ∧ l ≤ h ∧ h ≤ lenN y ∧ (cellsD y).length = lenN y * sz
instance {a b c d} : Decidable (slOK a b c d) := by unfold slOK; infer_instance
def slD (sz : Nat) (y : PD) (l h : Int) : PD := .lst (h.toNat - l.toNat) (((cellsD y).drop (l.toNat * sz)).take ((h.toNat - l.toNat) * sz))
theorem st_sl_d {d : Nat} {t e : TypeId} {x : Operand} {lo hi : Option Operand} {k : Bool} {y : PD} {sz : Nat} {l h : Int} (he : elemT C.E0.P t = some e) (hs : szOf C.E0.P e = sz) (h0 : 0 < sz) (hx : s.ev x = .d k y) (hlo : optInt 0 (lo.map s.ev) = some l) (hhi : optInt (lenN y) (hi.map s.ev) = some h) (hg : slOK sz y l h) :
    St C s (.slice t x lo hi none) (some d) (.d k (slD sz y l h)) none := by
  obtain ⟨g1, g2, g3, g4, g5⟩ := hg
  rw [isLst_eq g1] at hx
  refine .mk' rfl _ (fun _ _ _ => rfl) ?_ ?_
  · simp only [hx, fSlice, he, hs, hlo, hhi, valIf]; exact ⟨h0, g2, g3, g4, g5⟩
  · simp only [hx, fSlice, he, hs, hlo, hhi, valIf]; rfl
theorem st_sl_s {d : Nat} {t : TypeId} {x : Operand} {lo hi : Option Operand} {k : Bool} {b : List UInt8} {l h : Int} (hs : isStr C.E0.P t = true) (hx : s.ev x = .d k (.str b)) (hlo : optInt 0 (lo.map s.ev) = some l) (hhi : optInt b.length (hi.map s.ev) = some h) (hg : 0 ≤ l ∧ l ≤ h ∧ h ≤ b.length) :
    St C s (.slice t x lo hi none) (some d) (.d true (.str ((b.drop l.toNat).take (h.toNat - l.toNat)))) none := by
  refine .mk' rfl _ (fun _ _ _ => rfl) ?_ ?_
  · simp only [hx, fSlice, hs, hlo, hhi, valIf]; exact ⟨trivial, hg⟩
  · simp only [hx, fSlice, hlo, hhi, valIf]
theorem st_sl_o {d : Nat} {t e e' : TypeId} {x : Operand} {lo hi : Option Operand} {id v len sz : Nat} {row : List PV} {l h : Int} (he : elemT C.E0.P t = some e) (hs : szOf C.E0.P e = sz) (h0 : 0 < sz) (hx : s.ev x = .own id v 0 len) (ho : s.hp id = (v, some (.cells e' row))) (hlo : optInt 0 (lo.map s.ev) = some l) (hhi : optInt len (hi.map s.ev) = some h) (hg : 0 ≤ l ∧ l ≤ h ∧ h ≤ len) :
    St C s (.slice t x lo hi none) (some d) (.own id v (0 + l.toNat * sz) (h.toNat - l.toNat)) none := by
  refine .mk' rfl _ (fun _ _ _ => rfl) ?_ ?_
  · simp only [hx, fSlice, he, hs, hlo, hhi, valIf]; exact ⟨by simp [liveRow, ho], h0, hg⟩
  · simp only [hx, fSlice, he, hs, hlo, hhi, valIf]
/-- Text of bytes. -/
def bytesD : List PD → List UInt8 | [] => [] | x :: l => UInt8.ofNat (intD x).toNat :: bytesD l
def areU8 : List PD → Bool | [] => true | x :: l => isI .u8 x && areU8 l
theorem bytesP_D : ∀ {R : List PD}, areU8 R = true → bytesP (R.map (PV.d true)) = some (bytesD R)
  | [], _ => rfl
  | x :: l, h => by
    simp only [areU8, Bool.and_eq_true] at h
    cases x <;> simp [isI] at h
    obtain ⟨rfl, h2⟩ := h
    simp only [List.map_cons, bytesP, byteP, bytesP_D h2, bytesD, intD]
theorem st_cbo {d : Nat} {t u e : TypeId} {x : Operand} {vx : PV} {R : List PD} {m : Nat} (hu : isU8 C.E0.P t = true) (hs : isStr C.E0.P u = true) (he : elemT C.E0.P t = some e) (hz : szOf C.E0.P e = 1) (hx : s.ev x = vx) (hf : fConv C.E0.P s.hp t u vx = fBytes C.E0.P s.hp t u vx) (hsrc : Src C.E0.P s.hp e vx m (R.map (PV.d true))) (hg : areU8 R = true) :
    St C s (.convert t u x) (some d) (.d true (.str (bytesD R))) none := by
  obtain ⟨c, h1, h2⟩ := hsrc
  refine .mk' rfl (fConv C.E0.P s.hp t u (s.ev x)) (fun _ _ _ => rfl) ?_ ?_
  · rw [hx, hf]; simp only [fBytes, hu, hs, Bool.and_self, if_true, he, h1, bytesP_D hg]; exact ⟨h2, hz⟩
  · rw [hx, hf]; simp only [fBytes, hu, hs, Bool.and_self, if_true, he, h1, bytesP_D hg]

/-- Fits. -/
theorem fits_d {hp : HP} {k : Bool} {x : PD} (h : oneP (.d k x) = true) : fitP hp (.d k x) := h
theorem fits_o {hp : HP} {id v off len : Nat} {e : TypeId} {row : List PV} (h : hp id = (v, some (.cells e row))) : fitP hp (.own id v off len) := by simp [fitP, liveRow, h]
theorem fits_p {hp : HP} {id v off : Nat} {ob : AObj} (h : hp id = (v, some ob)) : fitP hp (.ptr id v off) := by simp [fitP, liveObj, h]
theorem oneSl {k : Bool} {y : PD} (h : isSlD y = true) : oneP (.d k y) = true := by cases y <;> simp [isSlD] at h <;> rfl
theorem oneSlk {k : Bool} {y : PD} (h : isSlD y = true) : oneP (dk k y) = true := by cases y <;> simp [isSlD] at h <;> rfl
end
end Go.Abs
