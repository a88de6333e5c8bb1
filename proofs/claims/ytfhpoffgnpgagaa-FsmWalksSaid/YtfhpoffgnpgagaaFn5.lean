/- Functions of the program: what each does, in plain Lean, and that it does. Laid by program. Condition of each: its model answers. -/
import Derived.Test.YtfhpoffgnpgagaaFn2
import Derived.Test.YtfhpoffgnpgagaaFn3
import Derived.Test.YtfhpoffgnpgagaaFn4
set_option linter.unusedSimpArgs false
set_option linter.unusedVariables false
namespace Go.Proofs.Ytfhpoffgnpgagaa
open Go Go.Proofs Go.Abs
set_option linter.unusedVariables false
set_option maxRecDepth 100000
def F3_K4 (x23 : PD) (x57 : Int) (lo2 : Int → Int → List PD → Option (Bool)) (x58 : Int) (x60 : List PD) (x90 : Int) : Option (Bool) :=
  gd (idxOK 1 x23 x57) <|
  gd (1 ≤ (((cellsD x23).drop ((x57).toNat * 1))).length) <|
  gd (isSlD ((((cellsD x23).drop ((x57).toNat * 1))).getD 0 .nil) = true) <|
  bif (decide ((lenN ((((cellsD x23).drop ((x57).toNat * 1))).getD 0 .nil) : Int) ≤ x90)) then
    some false
  else
    gd (idxOK 1 x23 x57) <|
    gd (1 ≤ (((cellsD x23).drop ((x57).toNat * 1))).length) <|
    gd (idxOK 1 ((((cellsD x23).drop ((x57).toNat * 1))).getD 0 .nil) x90) <|
    gd ((1 ≤ (((cellsD ((((cellsD x23).drop ((x57).toNat * 1))).getD 0 .nil)).drop ((x90).toNat * 1))).length) ∧ (isI .i64 ((((cellsD ((((cellsD x23).drop ((x57).toNat * 1))).getD 0 .nil)).drop ((x90).toNat * 1))).getD 0 .nil) = true)) <|
    lo2 (intD ((((cellsD ((((cellsD x23).drop ((x57).toNat * 1))).getD 0 .nil)).drop ((x90).toNat * 1))).getD 0 .nil)) (IntKind.wrap .i64 (x58 + (1 : Int))) (setD x60 ((x57).toNat * 1) [(.int .i64 (IntKind.wrap .i64 ((intD ((x60).getD ((x57).toNat * 1) .nil)) + (1 : Int))))])

def J3_4 (C : Ctx) (N : Nat) (hp : HP) (x23 : PD) (x57 : Int) (lo2 : Int → Int → List PD → Option (Bool)) (x58 : Int) (x60 : List PD) (x17 : PD) (x20 : PD × Int) (x39 : Int) (rr : Bool) (s : ASt) : Prop :=
  ∃ (hpx : HP) (v91 : Nat) (x90 : Int), Gh C s ⟨envL [(6, (PV.d true x17)), (7, (PV.d true x20.1)), (9, (PV.d true x23)), (10, (PV.own (N + 38) v91 0 ((lenN x20.1 : Int)).toNat)), (11, (PV.d true (.int .i64 x39))), (12, (PV.d true (.int .i64 x57))), (13, (PV.d true (.int .i64 x58))), (14, (PV.d true (.int .i64 x90)))], hpL N hpx [(38, (v91, some (.cells 3 (((setD x60 ((x57).toNat * 1) [(.int .i64 (IntKind.wrap .i64 ((intD ((x60).getD ((x57).toNat * 1) .nil)) + (1 : Int))))])).map (PV.d true)))))]⟩ ∧ (∀ id, id < N → hpx id = hp id) ∧ F3_K4 x23 x57 lo2 x58 x60 x90 = some rr

def F3_K3 (x57 : Int) (x20 : PD × Int) (x60 : List PD) (x23 : PD) (lo2 : Int → Int → List PD → Option (Bool)) (x58 : Int) (x75 : Bool) : Option (Bool) :=
  bif x75 then
    some false
  else
    gd (0 ≤ x57 ∧ x57 < (((lenN x20.1 : Int)).toNat : Nat)) <|
    gd ((((x57).toNat * 1) < (x60).length) ∧ (isI .i64 ((x60).getD ((x57).toNat * 1) .nil) = true)) <|
    gd (0 ≤ x57 ∧ x57 < (((lenN x20.1 : Int)).toNat : Nat)) <|
    gd (((x57).toNat * 1) + 1 ≤ (x60).length) <|
    gd (0 ≤ x57 ∧ x57 < (((lenN x20.1 : Int)).toNat : Nat)) <|
    gd ((((x57).toNat * 1) < ((setD x60 ((x57).toNat * 1) [(.int .i64 (IntKind.wrap .i64 ((intD ((x60).getD ((x57).toNat * 1) .nil)) + (1 : Int))))])).length) ∧ (isI .i64 (((setD x60 ((x57).toNat * 1) [(.int .i64 (IntKind.wrap .i64 ((intD ((x60).getD ((x57).toNat * 1) .nil)) + (1 : Int))))])).getD ((x57).toNat * 1) .nil) = true)) <|
    gd (idxOK 3 x20.1 x57) <|
    gd (0 ≤ (((cellsD x20.1).drop ((x57).toNat * 3))).length) <|
    gd (1 ≤ (((((cellsD x20.1).drop ((x57).toNat * 3))).drop 0)).length) <|
    gd (isSlD ((((((cellsD x20.1).drop ((x57).toNat * 3))).drop 0)).getD 0 .nil) = true) <|
    bif (decide ((intD (((setD x60 ((x57).toNat * 1) [(.int .i64 (IntKind.wrap .i64 ((intD ((x60).getD ((x57).toNat * 1) .nil)) + (1 : Int))))])).getD ((x57).toNat * 1) .nil)) < (lenN ((((((cellsD x20.1).drop ((x57).toNat * 3))).drop 0)).getD 0 .nil) : Int))) then
      gd (idxOK 3 x20.1 x57) <|
      gd (0 ≤ (((cellsD x20.1).drop ((x57).toNat * 3))).length) <|
      gd (1 ≤ (((((cellsD x20.1).drop ((x57).toNat * 3))).drop 0)).length) <|
      gd (0 ≤ x57 ∧ x57 < (((lenN x20.1 : Int)).toNat : Nat)) <|
      gd ((((x57).toNat * 1) < ((setD x60 ((x57).toNat * 1) [(.int .i64 (IntKind.wrap .i64 ((intD ((x60).getD ((x57).toNat * 1) .nil)) + (1 : Int))))])).length) ∧ (isI .i64 (((setD x60 ((x57).toNat * 1) [(.int .i64 (IntKind.wrap .i64 ((intD ((x60).getD ((x57).toNat * 1) .nil)) + (1 : Int))))])).getD ((x57).toNat * 1) .nil) = true)) <|
      gd (idxOK 1 ((((((cellsD x20.1).drop ((x57).toNat * 3))).drop 0)).getD 0 .nil) (intD (((setD x60 ((x57).toNat * 1) [(.int .i64 (IntKind.wrap .i64 ((intD ((x60).getD ((x57).toNat * 1) .nil)) + (1 : Int))))])).getD ((x57).toNat * 1) .nil))) <|
      gd ((1 ≤ (((cellsD ((((((cellsD x20.1).drop ((x57).toNat * 3))).drop 0)).getD 0 .nil)).drop (((intD (((setD x60 ((x57).toNat * 1) [(.int .i64 (IntKind.wrap .i64 ((intD ((x60).getD ((x57).toNat * 1) .nil)) + (1 : Int))))])).getD ((x57).toNat * 1) .nil))).toNat * 1))).length) ∧ (isI .i64 ((((cellsD ((((((cellsD x20.1).drop ((x57).toNat * 3))).drop 0)).getD 0 .nil)).drop (((intD (((setD x60 ((x57).toNat * 1) [(.int .i64 (IntKind.wrap .i64 ((intD ((x60).getD ((x57).toNat * 1) .nil)) + (1 : Int))))])).getD ((x57).toNat * 1) .nil))).toNat * 1))).getD 0 .nil) = true)) <|
      F3_K4 x23 x57 lo2 x58 x60 (intD ((((cellsD ((((((cellsD x20.1).drop ((x57).toNat * 3))).drop 0)).getD 0 .nil)).drop (((intD (((setD x60 ((x57).toNat * 1) [(.int .i64 (IntKind.wrap .i64 ((intD ((x60).getD ((x57).toNat * 1) .nil)) + (1 : Int))))])).getD ((x57).toNat * 1) .nil))).toNat * 1))).getD 0 .nil))
    else
      F3_K4 x23 x57 lo2 x58 x60 (0 : Int)

def J3_3 (C : Ctx) (N : Nat) (hp : HP) (x57 : Int) (x20 : PD × Int) (x60 : List PD) (x23 : PD) (lo2 : Int → Int → List PD → Option (Bool)) (x58 : Int) (x17 : PD) (x39 : Int) (rr : Bool) (s : ASt) : Prop :=
  ∃ (hpx : HP) (v76 : Nat) (x75 : Bool), Gh C s ⟨envL [(6, (PV.d true x17)), (7, (PV.d true x20.1)), (9, (PV.d true x23)), (10, (PV.own (N + 38) v76 0 ((lenN x20.1 : Int)).toNat)), (11, (PV.d true (.int .i64 x39))), (12, (PV.d true (.int .i64 x57))), (13, (PV.d true (.int .i64 x58))), (69, (PV.d true (.bool x75)))], hpL N hpx [(38, (v76, some (.cells 3 ((x60).map (PV.d true)))))]⟩ ∧ (∀ id, id < N → hpx id = hp id) ∧ F3_K3 x57 x20 x60 x23 lo2 x58 x75 = some rr

def F3_L2 (x20 : PD × Int) (x23 : PD) (lo1 : Int → List PD → Option (Bool)) (x39 : Int) : Nat → Int → Int → List PD → Option (Bool)
  | 0, _, _, _ => none
  | m2 + 1, x57, x58, x60 =>
    gd (isSlD x20.1 = true) <|
    bif (decide (x57 < (lenN x20.1 : Int))) then
      bif (decide (x57 < (0 : Int))) then
        F3_K3 x57 x20 x60 x23 (F3_L2 x20 x23 lo1 x39 m2) x58 true
      else
        bif (decide ((4000 : Int) < x58)) then
          F3_K3 x57 x20 x60 x23 (F3_L2 x20 x23 lo1 x39 m2) x58 true
        else
          gd (0 ≤ x57 ∧ x57 < (((lenN x20.1 : Int)).toNat : Nat)) <|
          gd ((((x57).toNat * 1) < (x60).length) ∧ (isI .i64 ((x60).getD ((x57).toNat * 1) .nil) = true)) <|
          gd (idxOK 3 x20.1 x57) <|
          gd (0 ≤ (((cellsD x20.1).drop ((x57).toNat * 3))).length) <|
          gd (1 ≤ (((((cellsD x20.1).drop ((x57).toNat * 3))).drop 0)).length) <|
          gd (isSlD ((((((cellsD x20.1).drop ((x57).toNat * 3))).drop 0)).getD 0 .nil) = true) <|
          F3_K3 x57 x20 x60 x23 (F3_L2 x20 x23 lo1 x39 m2) x58 (decide ((lenN ((((((cellsD x20.1).drop ((x57).toNat * 3))).drop 0)).getD 0 .nil) : Int) ≤ (intD ((x60).getD ((x57).toNat * 1) .nil))))
    else
      lo1 (IntKind.wrap .i64 (x39 + (1 : Int))) x60

def J3_2 (C : Ctx) (N : Nat) (hp : HP) (x20 : PD × Int) (x23 : PD) (lo1 : Int → List PD → Option (Bool)) (x39 : Int) (x17 : PD) (rr : Bool) (mm : Nat) (s : ASt) : Prop :=
  ∃ (hpx : HP) (v59 : Nat) (x57 : Int) (x58 : Int) (x60 : List PD), Gh C s ⟨envL [(6, (PV.d true x17)), (7, (PV.d true x20.1)), (9, (PV.d true x23)), (10, (PV.own (N + 38) v59 0 ((lenN x20.1 : Int)).toNat)), (11, (PV.d true (.int .i64 x39))), (12, (PV.d true (.int .i64 x57))), (13, (PV.d true (.int .i64 x58)))], hpL N hpx [(38, (v59, some (.cells 3 ((x60).map (PV.d true)))))]⟩ ∧ (∀ id, id < N → hpx id = hp id) ∧ F3_L2 x20 x23 lo1 x39 mm x57 x58 x60 = some rr

def F3_L5 (x20 : PD × Int) (x41 : List PD) : Nat → Int → Option (Bool)
  | 0, _ => none
  | m5 + 1, x142 =>
    gd (isSlD x20.1 = true) <|
    bif (decide (x142 < (lenN x20.1 : Int))) then
      gd (0 ≤ x142 ∧ x142 < (((lenN x20.1 : Int)).toNat : Nat)) <|
      gd ((((x142).toNat * 1) < (x41).length) ∧ (isI .i64 ((x41).getD ((x142).toNat * 1) .nil) = true)) <|
      gd (idxOK 3 x20.1 x142) <|
      gd (0 ≤ (((cellsD x20.1).drop ((x142).toNat * 3))).length) <|
      gd (1 ≤ (((((cellsD x20.1).drop ((x142).toNat * 3))).drop 0)).length) <|
      gd (isSlD ((((((cellsD x20.1).drop ((x142).toNat * 3))).drop 0)).getD 0 .nil) = true) <|
      bif ((intD ((x41).getD ((x142).toNat * 1) .nil)) != (lenN ((((((cellsD x20.1).drop ((x142).toNat * 3))).drop 0)).getD 0 .nil) : Int)) then
        some false
      else
        (F3_L5 x20 x41 m5) (IntKind.wrap .i64 (x142 + (1 : Int)))
    else
      some true

def J3_5 (C : Ctx) (N : Nat) (hp : HP) (x20 : PD × Int) (x41 : List PD) (rr : Bool) (mm : Nat) (s : ASt) : Prop :=
  ∃ (hpx : HP) (v143 : Nat) (x142 : Int), Gh C s ⟨envL [(7, (PV.d true x20.1)), (10, (PV.own (N + 38) v143 0 ((lenN x20.1 : Int)).toNat)), (15, (PV.d true (.int .i64 x142)))], hpL N hpx [(38, (v143, some (.cells 3 ((x41).map (PV.d true)))))]⟩ ∧ (∀ id, id < N → hpx id = hp id) ∧ F3_L5 x20 x41 mm x142 = some rr

def F3_L1 (x17 : PD) (x20 : PD × Int) (x23 : PD) (n : Nat) : Nat → Int → List PD → Option (Bool)
  | 0, _, _ => none
  | m1 + 1, x39, x41 =>
    gd (isSlD x17 = true) <|
    bif (decide (x39 < (lenN x17 : Int))) then
      F3_L2 x20 x23 (F3_L1 x17 x20 x23 n m1) x39 n (0 : Int) (0 : Int) x41
    else
      F3_L5 x20 x41 n (0 : Int)

def J3_1 (C : Ctx) (N : Nat) (hp : HP) (x17 : PD) (x20 : PD × Int) (x23 : PD) (n : Nat) (rr : Bool) (mm : Nat) (s : ASt) : Prop :=
  ∃ (hpx : HP) (v40 : Nat) (x39 : Int) (x41 : List PD), Gh C s ⟨envL [(6, (PV.d true x17)), (7, (PV.d true x20.1)), (9, (PV.d true x23)), (10, (PV.own (N + 38) v40 0 ((lenN x20.1 : Int)).toNat)), (11, (PV.d true (.int .i64 x39)))], hpL N hpx [(38, (v40, some (.cells 3 ((x41).map (PV.d true)))))]⟩ ∧ (∀ id, id < N → hpx id = hp id) ∧ F3_L1 x17 x20 x23 n mm x39 x41 = some rr

def F3 (n : Nat) (kq1 : Bool) (x2 : PD) (kq3 : Bool) (x4 : PD) : Option (Bool) :=
  bd (F5 n) fun x8 =>
  bif (!x8) then
    some false
  else
    bd (F6 n kq1 x2) fun x14 =>
    bd (F7 n x14 kq3 x4) fun x17 =>
    bd (F8 n x14 x17) fun x20 =>
    bd (F9 n x14) fun x23 =>
    gd (isSlD x23 = true) <|
    gd (isSlD x20.1 = true) <|
    bif ((lenN x23 : Int) != (lenN x20.1 : Int)) then
      some false
    else
      gd (isSlD x20.1 = true) <|
      gd (mkOK 8 (lenN x20.1 : Int)) <|
      F3_L1 x17 x20 x23 n n (0 : Int) (rowZD ([.int .i64 0] : List PD) ((lenN x20.1 : Int)).toNat)

set_option maxHeartbeats 4000000 in
theorem f3_calls {n : Nat} {kq1 : Bool} {x2 : PD} {kq3 : Bool} {x4 : PD} {r : Bool} (H : F3 n kq1 x2 kq3 x4 = some r) (N : Nat) (hp : HP) : ACalls Try.prog 3 N [(dk kq1 x2), (dk kq3 x4)] hp fun r' hp' => r' = (PV.d true (.bool r)) ∧ hp' = hp := by
  unfold F3 at H
  refine acalls_body Try.func3 rfl rfl Try.ntmps3 (by simp) fun X hX => ?_
  refine awp_start (l := [(0, (dk kq1 x2)), (1, (dk kq3 x4))]) (N := N) ⟨rfl, rfl, trivial⟩ ?_
  have hlow0 : ∀ id, id < N → hp id = hp id := fun _ _ => rfl
  refine awp_regionL fun y5 hy5 => ?_
  refine goL_s (st_as (v := (PV.d true (.bool false))) rfl) rfl ?_
  subst hy5
  refine awp_hide fun y6 hy6 => ?_
  refine awp_regionL fun y7 hy7 => ?_
  obtain ⟨x8, c9, H⟩ := bd_out H
  refine goL_cp (args' := []) (r := (PV.d true (.bool x8))) rfl rfl trivial enter_5 rfl (f5_calls c9 (N + 129) _) ?_
  refine goL_s (st_not rfl) rfl ?_
  subst hy7
  refine awp_ifL (b := (!x8)) rfl (fun y11 hy11 hb10 => ?_) (fun y11 hy11 hb10 => ?_)
  · replace H := cond_t H hb10
    subst hy11
    refine awp_regionL fun y12 hy12 => ?_
    refine goL_s (st_as (v := (PV.d true (.bool false))) rfl) rfl ?_
    subst hy12
    refine awp_ret ?_
    refine thenA_r ?_
    obtain rfl := Option.some.inj H
    exact ret1 (res_t (x := (PV.d true (.bool false))) (d := (.bool false)) rfl rfl) (fun id hid => (hpL_low hid).trans (hlow0 id hid)) (fun _ _ => rfl) lowOK_same ⟨rfl, rfl⟩ (.inr rfl)
  · replace H := cond_f H hb10
    subst hy11
    refine awp_skip ?_
    refine thenA_n ?_
    subst hy6
    refine awp_regionL fun y13 hy13 => ?_
    refine goL_s (st_mv (v := (dk kq1 x2)) rfl) rfl ?_
    obtain ⟨x14, c15, H⟩ := bd_out H
    refine goL_cp (args' := [(dk kq1 x2)]) (r := (PV.d true x14)) rfl rfl ⟨Wk.refl, trivial⟩ enter_6 rfl (f6_calls c15 (N + 129) _) ?_
    refine goL_s (st_as (v := (PV.d true x14)) rfl) rfl ?_
    subst hy13
    refine awp_regionL fun y16 hy16 => ?_
    refine goL_s (st_mv (v := (PV.d true x14)) rfl) rfl ?_
    refine goL_s (st_mv (v := (dk kq3 x4)) rfl) rfl ?_
    obtain ⟨x17, c18, H⟩ := bd_out H
    refine goL_cp (args' := [(PV.d true x14), (dk kq3 x4)]) (r := (PV.d true x17)) rfl rfl ⟨Wk.refl, ⟨Wk.refl, trivial⟩⟩ enter_7 rfl (f7_calls c18 (N + 129) _) ?_
    refine goL_s (st_as (v := (PV.d true x17)) rfl) rfl ?_
    subst hy16
    refine awp_regionL fun y19 hy19 => ?_
    refine goL_s (st_mv (v := (PV.d true x14)) rfl) rfl ?_
    refine goL_s (st_mv (v := (PV.d true x17)) rfl) rfl ?_
    obtain ⟨x20, c21, H⟩ := bd_out H
    refine goL_cp (args' := [(PV.d true x14), (PV.d true x17)]) (r := (PV.d true (.tup [x20.1, (.int .i64 x20.2)]))) rfl rfl ⟨Wk.refl, ⟨Wk.refl, trivial⟩⟩ enter_8 rfl (f8_calls c21 (N + 129) _) ?_
    refine goL_s (st_mv (v := (PV.d true (.tup [x20.1, (.int .i64 x20.2)]))) rfl) rfl ?_
    refine goL_s (st_ext (c := (PV.d true x20.1)) rfl (Nat.le_of_ble_eq_true rfl) (dk_true _)) rfl ?_
    refine goL_s (st_ext (c := (PV.d true (.int .i64 x20.2))) rfl (Nat.le_of_ble_eq_true rfl) rfl) rfl ?_
    refine goL_s (st_as (v := (PV.d true x20.1)) rfl) rfl ?_
    refine goL_s (st_as (v := (PV.d true (.int .i64 x20.2))) rfl) rfl ?_
    subst hy19
    refine awp_regionL fun y22 hy22 => ?_
    refine goL_s (st_mv (v := (PV.d true x14)) rfl) rfl ?_
    obtain ⟨x23, c24, H⟩ := bd_out H
    refine goL_cp (args' := [(PV.d true x14)]) (r := (PV.d true x23)) rfl rfl ⟨Wk.refl, trivial⟩ enter_9 rfl (f9_calls c24 (N + 129) _) ?_
    refine goL_s (st_as (v := (PV.d true x23)) rfl) rfl ?_
    subst hy22
    refine awp_hide fun y25 hy25 => ?_
    refine awp_regionL fun y26 hy26 => ?_
    refine goL_s (st_mv (v := (PV.d true x23)) rfl) rfl ?_
    obtain ⟨g27, H⟩ := gd_out H
    refine goL_s (st_len_d (id := 0) sl_23 rfl g27) rfl ?_
    refine goL_s (st_mv (v := (PV.d true x20.1)) rfl) rfl ?_
    obtain ⟨g28, H⟩ := gd_out H
    refine goL_s (st_len_d (id := 0) sl_30 rfl g28) rfl ?_
    refine goL_s (st_bin rfl rfl rfl rfl trivial) rfl ?_
    subst hy26
    refine awp_ifL (b := ((lenN x23 : Int) != (lenN x20.1 : Int))) rfl (fun y30 hy30 hb29 => ?_) (fun y30 hy30 hb29 => ?_)
    · replace H := cond_t H hb29
      subst hy30
      refine awp_regionL fun y31 hy31 => ?_
      refine goL_s (st_as (v := (PV.d true (.bool false))) rfl) rfl ?_
      subst hy31
      refine awp_ret ?_
      refine thenA_r ?_
      obtain rfl := Option.some.inj H
      exact ret1 (res_t (x := (PV.d true (.bool false))) (d := (.bool false)) rfl rfl) (fun id hid => (hpL_low hid).trans (hlow0 id hid)) (fun _ _ => rfl) lowOK_same ⟨rfl, rfl⟩ (.inr rfl)
    · replace H := cond_f H hb29
      subst hy30
      refine awp_skip ?_
      refine thenA_n ?_
      subst hy25
      refine awp_regionL fun y32 hy32 => ?_
      refine goL_s (st_mv (v := (PV.d true x20.1)) rfl) rfl ?_
      obtain ⟨g33, H⟩ := gd_out H
      refine goL_s (st_len_d (id := 0) sl_30 rfl g33) rfl ?_
      obtain ⟨g34, H⟩ := gd_out H
      refine goL_n (d' := 38) (st_make (zd := ([.int .i64 0] : List PD)) el_22 ze_3 sz_3 by_3 (by decide) rfl rfl rfl g34) rfl fun v35 => ?_
      refine goL_s (st_as (v := (PV.own (N + 38) v35 0 ((lenN x20.1 : Int)).toNat)) rfl) rfl ?_
      subst hy32
      refine awp_hide fun y36 hy36 => ?_
      refine awp_regionL fun y37 hy37 => ?_
      refine goL_s (st_as (v := (PV.d true (.int .i64 (0 : Int)))) rfl) rfl ?_
      subst hy37
      refine awp_block ?_
      refine awp_loop (J3_1 (mkC 129 N Try.prog hp X) N hp x17 x20 x23 n r) n ?_ ?_
      · unfold J3_1
        exact ⟨_, v35, (0 : Int), (rowZD ([.int .i64 0] : List PD) ((lenN x20.1 : Int)).toNat), Gh.join ⟨rfl, rfl, rfl, rfl, rfl, trivial⟩ ⟨hpL_hit, trivial⟩, fun id hid => (hpL_low hid).trans (hlow0 id hid), H⟩
      · intro m1 s hJ
        unfold J3_1 at hJ
        obtain ⟨hpx45, v40, x39, x41, hG47, hlow46, H⟩ := hJ
        cases m1 with
        | zero => cases H
        | succ m1 =>
          rw [F3_L1] at H
          refine awp_gh hG47 ?_
          clear hG47
          refine awp_hide fun y48 hy48 => ?_
          refine awp_regionL fun y49 hy49 => ?_
          refine goL_s (st_mv (v := (PV.d true (.int .i64 x39))) rfl) rfl ?_
          refine goL_s (st_mv (v := (PV.d true x17)) rfl) rfl ?_
          obtain ⟨g50, H⟩ := gd_out H
          refine goL_s (st_len_d (id := 0) sl_28 rfl g50) rfl ?_
          refine goL_s (st_bin rfl rfl rfl rfl trivial) rfl ?_
          subst hy49
          refine awp_ifL (b := (decide (x39 < (lenN x17 : Int)))) rfl (fun y52 hy52 hb51 => ?_) (fun y52 hy52 hb51 => ?_)
          · replace H := cond_t H hb51
            subst hy52
            refine awp_skip ?_
            refine thenA_n ?_
            subst hy48
            refine awp_hide fun y53 hy53 => ?_
            refine awp_block ?_
            refine awp_regionL fun y54 hy54 => ?_
            refine goL_s (st_as (v := (PV.d true (.int .i64 (0 : Int)))) rfl) rfl ?_
            subst hy54
            refine awp_regionL fun y55 hy55 => ?_
            refine goL_s (st_as (v := (PV.d true (.int .i64 (0 : Int)))) rfl) rfl ?_
            subst hy55
            refine awp_block ?_
            refine awp_loop (J3_2 (mkC 129 N Try.prog hp X) N hp x20 x23 (F3_L1 x17 x20 x23 n m1) x39 x17 r) n ?_ ?_
            · unfold J3_2
              exact ⟨_, v40, (0 : Int), (0 : Int), x41, Gh.join ⟨rfl, rfl, rfl, rfl, rfl, rfl, rfl, trivial⟩ ⟨hpL_hit, trivial⟩, fun id hid => (hpL_low hid).trans (hlow46 id hid), H⟩
            · intro m2 s hJ
              unfold J3_2 at hJ
              obtain ⟨hpx65, v59, x57, x58, x60, hG67, hlow66, H⟩ := hJ
              cases m2 with
              | zero => cases H
              | succ m2 =>
                rw [F3_L2] at H
                refine awp_gh hG67 ?_
                clear hG67
                refine awp_hide fun y68 hy68 => ?_
                refine awp_regionL fun y69 hy69 => ?_
                refine goL_s (st_mv (v := (PV.d true (.int .i64 x57))) rfl) rfl ?_
                refine goL_s (st_mv (v := (PV.d true x20.1)) rfl) rfl ?_
                obtain ⟨g70, H⟩ := gd_out H
                refine goL_s (st_len_d (id := 0) sl_30 rfl g70) rfl ?_
                refine goL_s (st_bin rfl rfl rfl rfl trivial) rfl ?_
                subst hy69
                refine awp_ifL (b := (decide (x57 < (lenN x20.1 : Int)))) rfl (fun y72 hy72 hb71 => ?_) (fun y72 hy72 hb71 => ?_)
                · replace H := cond_t H hb71
                  subst hy72
                  refine awp_skip ?_
                  refine thenA_n ?_
                  subst hy68
                  refine awp_hide fun y73 hy73 => ?_
                  refine awp_block ?_
                  refine awp_hide fun y74 hy74 => ?_
                  refine awp_cut (J3_3 (mkC 129 N Try.prog hp X) N hp x57 x20 x60 x23 (F3_L2 x20 x23 (F3_L1 x17 x20 x23 n m1) x39 m2) x58 x17 x39 r) ?_ ?_
                  · refine awp_drawL1 20 17 [] follows_any (by kernel_rfl) (by kernel_rfl) (by kernel_rfl) (by kernel_rfl) fun opsd129 Kd129 hod129 hKd129 => ?_
                    refine goA_s trivial (st_mv (v := (PV.d true (.int .i64 x57))) rfl) rfl fun rd0 => ?_
                    refine goA_s trivial (st_bin rfl rfl rfl rfl trivial) rfl fun rd1 => ?_
                    refine goA_s trivial (st_mv (v := (PV.d true (.bool (decide (x57 < (0 : Int)))))) rfl) rfl fun rd2 => ?_
                    refine goA_fork (decide (x57 < (0 : Int))) (fun hb130 => ?_) (fun hb130 => ?_)
                    · replace H := cond_t H hb130
                      refine goA_gF rfl rfl hb130 rfl ?_
                      refine goA_gF rfl rfl hb130 rfl ?_
                      refine goA_s trivial (st_pickT (v := (PV.d true (.bool true))) rfl hb130 rfl) rfl fun rd5 => ?_
                      refine goA_s trivial (st_mv (v := (PV.d true (.bool true))) rfl) rfl fun rd6 => ?_
                      refine goA_gF rfl rfl rfl rfl ?_
                      refine goA_gF rfl rfl rfl rfl ?_
                      refine goA_gF rfl rfl rfl rfl ?_
                      refine goA_gF rfl rfl rfl rfl ?_
                      refine goA_gF rfl rfl rfl rfl ?_
                      refine goA_gF rfl rfl rfl rfl ?_
                      refine goA_gF rfl rfl rfl rfl ?_
                      refine goA_gF rfl rfl rfl rfl ?_
                      refine goA_gF rfl rfl rfl rfl ?_
                      refine goA_gF rfl rfl rfl rfl ?_
                      refine goA_nil ?_
                      rw [hKd129]
                      refine ⟨?_, goOps_goL ?_⟩
                      · trivial
                      refine goL_gF rfl rfl rfl rfl ?_
                      refine goL_s (st_pickT (v := (PV.d true (.bool true))) rfl rfl rfl) rfl ?_
                      refine thenA_n ?_
                      unfold J3_3
                      exact ⟨_, v59, true, Gh.join ⟨rfl, rfl, rfl, rfl, rfl, rfl, rfl, rfl, trivial⟩ ⟨hpL_hit, trivial⟩, fun id hid => (hpL_low hid).trans (hlow66 id hid), H⟩
                    · replace H := cond_f H hb130
                      refine goA_s (GOK_t rfl rfl hb130) (st_mv (v := (PV.d true (.int .i64 x58))) rfl) rfl fun rd3 => ?_
                      refine goA_s (GOK_t rfl rfl hb130) (st_bin rfl rfl rfl rfl trivial) rfl fun rd4 => ?_
                      refine goA_s trivial (st_pickF (v := (PV.d true (.bool (decide ((4000 : Int) < x58))))) rfl hb130 rfl) rfl fun rd5 => ?_
                      refine goA_s trivial (st_mv (v := (PV.d true (.bool (decide ((4000 : Int) < x58))))) rfl) rfl fun rd6 => ?_
                      refine goA_fork (decide ((4000 : Int) < x58)) (fun hb131 => ?_) (fun hb131 => ?_)
                      · replace H := cond_t H hb131
                        refine goA_gF rfl rfl hb131 rfl ?_
                        refine goA_gF rfl rfl hb131 rfl ?_
                        refine goA_gF rfl rfl hb131 rfl ?_
                        refine goA_gF rfl rfl hb131 rfl ?_
                        refine goA_gF rfl rfl hb131 rfl ?_
                        refine goA_gF rfl rfl hb131 rfl ?_
                        refine goA_gF rfl rfl hb131 rfl ?_
                        refine goA_gF rfl rfl hb131 rfl ?_
                        refine goA_gF rfl rfl hb131 rfl ?_
                        refine goA_gF rfl rfl hb131 rfl ?_
                        refine goA_nil ?_
                        rw [hKd129]
                        refine ⟨?_, goOps_goL ?_⟩
                        · trivial
                        refine goL_gF rfl rfl hb131 rfl ?_
                        refine goL_s (st_pickT (v := (PV.d true (.bool true))) rfl hb131 rfl) rfl ?_
                        refine thenA_n ?_
                        unfold J3_3
                        exact ⟨_, v59, true, Gh.join ⟨rfl, rfl, rfl, rfl, rfl, rfl, rfl, rfl, trivial⟩ ⟨hpL_hit, trivial⟩, fun id hid => (hpL_low hid).trans (hlow66 id hid), H⟩
                      · replace H := cond_f H hb131
                        refine goA_s (GOK_t rfl rfl hb131) (st_mv (v := (PV.own (N + 38) v59 0 ((lenN x20.1 : Int)).toNat)) rfl) rfl fun rd7 => ?_
                        refine goA_s (GOK_t rfl rfl hb131) (st_mv (v := (PV.d true (.int .i64 x57))) rfl) rfl fun rd8 => ?_
                        obtain ⟨g132, H⟩ := gd_out H
                        refine goA_s (GOK_t rfl rfl hb131) (st_ia_o el_22 sz_3 (by decide) rfl hpL_hit rfl g132) rfl fun rd9 => ?_
                        obtain ⟨⟨g133, g134⟩, H⟩ := gd_out H
                        refine goA_s (GOK_t rfl rfl hb131) (st_ld_p (row := (x60).map (PV.d true)) ty_3 rfl hpL_hit (row_at g133 (cI' g134))) rfl fun rd10 => ?_
                        refine goA_s (GOK_t rfl rfl hb131) (st_mv (v := (PV.d true x20.1)) rfl) rfl fun rd11 => ?_
                        refine goA_s (GOK_t rfl rfl hb131) (st_mv (v := (PV.d true (.int .i64 x57))) rfl) rfl fun rd12 => ?_
                        obtain ⟨g135, H⟩ := gd_out H
                        refine goA_s (GOK_t rfl rfl hb131) (st_ia_d el_30 sz_36 (by decide) (y := x20.1) rfl rfl g135) rfl fun rd13 => ?_
                        obtain ⟨g136, H⟩ := gd_out H
                        refine goA_s (GOK_t rfl rfl hb131) (st_fa_lp fi_36_0 (by decide) rfl g136) rfl fun rd14 => ?_
                        obtain ⟨g137, H⟩ := gd_out H
                        refine goA_s (GOK_t rfl rfl hb131) (st_ld_lp ty_22 rfl g137 (dk_true _)) rfl fun rd15 => ?_
                        obtain ⟨g138, H⟩ := gd_out H
                        refine goA_s (GOK_t rfl rfl hb131) (st_len_d (id := 0) sl_22 rfl g138) rfl fun rd16 => ?_
                        refine goA_nil ?_
                        rw [hKd129]
                        refine ⟨?_, goOps_goL ?_⟩
                        · trivial
                        refine goL_gT rfl rfl hb131 ?_
                        refine goL_s (st_bin rfl rfl rfl rfl trivial) rfl ?_
                        refine goL_s (st_pickF (v := (PV.d true (.bool (decide ((lenN ((((((cellsD x20.1).drop ((x57).toNat * 3))).drop 0)).getD 0 .nil) : Int) ≤ (intD ((x60).getD ((x57).toNat * 1) .nil))))))) rfl hb131 rfl) rfl ?_
                        refine thenA_n ?_
                        unfold J3_3
                        exact ⟨_, v59, (decide ((lenN ((((((cellsD x20.1).drop ((x57).toNat * 3))).drop 0)).getD 0 .nil) : Int) ≤ (intD ((x60).getD ((x57).toNat * 1) .nil)))), Gh.join ⟨rfl, rfl, rfl, rfl, rfl, rfl, rfl, rfl, trivial⟩ ⟨hpL_hit, trivial⟩, fun id hid => (hpL_low hid).trans (hlow66 id hid), H⟩
                  · intro s hJ
                    unfold J3_3 at hJ
                    obtain ⟨hpx77, v76, x75, hG79, hlow78, H⟩ := hJ
                    unfold F3_K3 at H
                    refine awp_gh hG79 ?_
                    clear hG79
                    refine awp_ifL (b := x75) rfl (fun y81 hy81 hb80 => ?_) (fun y81 hy81 hb80 => ?_)
                    · replace H := cond_t H hb80
                      subst hy81
                      refine awp_regionL fun y82 hy82 => ?_
                      refine goL_s (st_as (v := (PV.d true (.bool false))) rfl) rfl ?_
                      subst hy82
                      refine awp_ret ?_
                      refine thenA_r ?_
                      refine blockA_r ?_
                      refine thenA_r ?_
                      refine thenA_r ?_
                      refine blockA_r ?_
                      refine blockA_r ?_
                      refine thenA_r ?_
                      refine thenA_r ?_
                      refine blockA_r ?_
                      refine thenA_r ?_
                      obtain rfl := Option.some.inj H
                      exact ret1 (res_t (x := (PV.d true (.bool false))) (d := (.bool false)) rfl rfl) (fun id hid => (hpL_low hid).trans (hlow78 id hid)) (fun _ _ => rfl) lowOK_same ⟨rfl, rfl⟩ (.inr rfl)
                    · replace H := cond_f H hb80
                      subst hy81
                      refine awp_skip ?_
                      refine thenA_n ?_
                      subst hy74
                      refine awp_regionL fun y83 hy83 => ?_
                      refine goL_s (st_mv (v := (PV.own (N + 38) v76 0 ((lenN x20.1 : Int)).toNat)) rfl) rfl ?_
                      refine goL_s (st_mv (v := (PV.d true (.int .i64 x57))) rfl) rfl ?_
                      obtain ⟨g84, H⟩ := gd_out H
                      refine goL_s (st_ia_o el_22 sz_3 (by decide) rfl hpL_hit rfl g84) rfl ?_
                      obtain ⟨⟨g85, g86⟩, H⟩ := gd_out H
                      refine goL_s (st_ld_p (row := (x60).map (PV.d true)) ty_3 rfl hpL_hit (row_at g85 (cI' g86))) rfl ?_
                      refine goL_s (st_bin rfl rfl rfl rfl trivial) rfl ?_
                      obtain ⟨g87, H⟩ := gd_out H
                      refine goL_s (st_ia_o el_22 sz_3 (by decide) rfl hpL_hit rfl g87) rfl ?_
                      obtain ⟨g88, H⟩ := gd_out H
                      refine goL_o0 (st_sto (x := (PV.d true (.int .i64 (IntKind.wrap .i64 ((intD ((x60).getD ((x57).toNat * 1) .nil)) + (1 : Int)))))) (cs := ([(.int .i64 (IntKind.wrap .i64 ((intD ((x60).getD ((x57).toNat * 1) .nil)) + (1 : Int))))] : List PD).map (PV.d true)) (row := (x60).map (PV.d true)) ty_3 rfl hpL_hit rfl rfl rfl (by rw [List.length_map]; exact g88) ⟨rfl, trivial⟩ row_setD) rfl ?_
                      subst hy83
                      refine awp_regionL fun y89 hy89 => ?_
                      refine goL_s (st_as (v := (PV.d true (.int .i64 (0 : Int)))) rfl) rfl ?_
                      subst hy89
                      refine awp_cut (J3_4 (mkC 129 N Try.prog hp X) N hp x23 x57 (F3_L2 x20 x23 (F3_L1 x17 x20 x23 n m1) x39 m2) x58 x60 x17 x20 x39 r) ?_ ?_
                      · refine awp_drawL 12 10 [] follows_any (by kernel_rfl) (by kernel_rfl) (by kernel_rfl) (by kernel_rfl) fun opsd109 Kd109 hod109 hKd109 => ?_
                        refine goA_s trivial (st_mv (v := (PV.own (N + 38) v76 0 ((lenN x20.1 : Int)).toNat)) rfl) rfl fun rd0 => ?_
                        refine goA_s trivial (st_mv (v := (PV.d true (.int .i64 x57))) rfl) rfl fun rd1 => ?_
                        obtain ⟨g110, H⟩ := gd_out H
                        refine goA_s trivial (st_ia_o el_22 sz_3 (by decide) rfl hpL_hit rfl g110) rfl fun rd2 => ?_
                        obtain ⟨⟨g111, g112⟩, H⟩ := gd_out H
                        refine goA_s trivial (st_ld_p (row := ((setD x60 ((x57).toNat * 1) [(.int .i64 (IntKind.wrap .i64 ((intD ((x60).getD ((x57).toNat * 1) .nil)) + (1 : Int))))])).map (PV.d true)) ty_3 rfl hpL_hit (row_at g111 (cI' g112))) rfl fun rd3 => ?_
                        refine goA_s trivial (st_mv (v := (PV.d true x20.1)) rfl) rfl fun rd4 => ?_
                        refine goA_s trivial (st_mv (v := (PV.d true (.int .i64 x57))) rfl) rfl fun rd5 => ?_
                        obtain ⟨g113, H⟩ := gd_out H
                        refine goA_s trivial (st_ia_d el_30 sz_36 (by decide) (y := x20.1) rfl rfl g113) rfl fun rd6 => ?_
                        obtain ⟨g114, H⟩ := gd_out H
                        refine goA_s trivial (st_fa_lp fi_36_0 (by decide) rfl g114) rfl fun rd7 => ?_
                        obtain ⟨g115, H⟩ := gd_out H
                        refine goA_s trivial (st_ld_lp ty_22 rfl g115 (dk_true _)) rfl fun rd8 => ?_
                        obtain ⟨g116, H⟩ := gd_out H
                        refine goA_s trivial (st_len_d (id := 0) sl_22 rfl g116) rfl fun rd9 => ?_
                        refine goA_nil ?_
                        rw [hKd109]
                        refine ⟨?_, goOps_goL ?_⟩
                        · trivial
                        refine goL_s (st_bin rfl rfl rfl rfl trivial) rfl ?_
                        refine awp_ifL (b := (decide ((intD (((setD x60 ((x57).toNat * 1) [(.int .i64 (IntKind.wrap .i64 ((intD ((x60).getD ((x57).toNat * 1) .nil)) + (1 : Int))))])).getD ((x57).toNat * 1) .nil)) < (lenN ((((((cellsD x20.1).drop ((x57).toNat * 3))).drop 0)).getD 0 .nil) : Int)))) rfl (fun y118 hy118 hb117 => ?_) (fun y118 hy118 hb117 => ?_)
                        · replace H := cond_t H hb117
                          subst hy118
                          refine awp_drawL1 13 9 [] follows_any (by kernel_rfl) (by kernel_rfl) (by kernel_rfl) (by kernel_rfl) fun opsd119 Kd119 hod119 hKd119 => ?_
                          refine goA_s trivial (st_mv (v := (PV.d true x20.1)) rfl) rfl fun rd0 => ?_
                          refine goA_s trivial (st_mv (v := (PV.d true (.int .i64 x57))) rfl) rfl fun rd1 => ?_
                          obtain ⟨g120, H⟩ := gd_out H
                          refine goA_s trivial (st_ia_d el_30 sz_36 (by decide) (y := x20.1) rfl rfl g120) rfl fun rd2 => ?_
                          obtain ⟨g121, H⟩ := gd_out H
                          refine goA_s trivial (st_fa_lp fi_36_0 (by decide) rfl g121) rfl fun rd3 => ?_
                          obtain ⟨g122, H⟩ := gd_out H
                          refine goA_s trivial (st_ld_lp ty_22 rfl g122 (dk_true _)) rfl fun rd4 => ?_
                          refine goA_s trivial (st_mv (v := (PV.own (N + 38) v76 0 ((lenN x20.1 : Int)).toNat)) rfl) rfl fun rd5 => ?_
                          refine goA_s trivial (st_mv (v := (PV.d true (.int .i64 x57))) rfl) rfl fun rd6 => ?_
                          obtain ⟨g123, H⟩ := gd_out H
                          refine goA_s trivial (st_ia_o el_22 sz_3 (by decide) rfl hpL_hit rfl g123) rfl fun rd7 => ?_
                          obtain ⟨⟨g124, g125⟩, H⟩ := gd_out H
                          refine goA_s trivial (st_ld_p (row := ((setD x60 ((x57).toNat * 1) [(.int .i64 (IntKind.wrap .i64 ((intD ((x60).getD ((x57).toNat * 1) .nil)) + (1 : Int))))])).map (PV.d true)) ty_3 rfl hpL_hit (row_at g124 (cI' g125))) rfl fun rd8 => ?_
                          refine goA_nil ?_
                          rw [hKd119]
                          refine ⟨?_, goOps_goL ?_⟩
                          · trivial
                          obtain ⟨g126, H⟩ := gd_out H
                          refine goL_s (st_ia_d el_22 sz_3 (by decide) (y := ((((((cellsD x20.1).drop ((x57).toNat * 3))).drop 0)).getD 0 .nil)) rfl rfl g126) rfl ?_
                          obtain ⟨⟨g127, g128⟩, H⟩ := gd_out H
                          refine goL_s (st_ld_lp ty_3 rfl g127 (cI g128)) rfl ?_
                          refine goL_s (st_as (v := (PV.d true (.int .i64 (intD ((((cellsD ((((((cellsD x20.1).drop ((x57).toNat * 3))).drop 0)).getD 0 .nil)).drop (((intD (((setD x60 ((x57).toNat * 1) [(.int .i64 (IntKind.wrap .i64 ((intD ((x60).getD ((x57).toNat * 1) .nil)) + (1 : Int))))])).getD ((x57).toNat * 1) .nil))).toNat * 1))).getD 0 .nil))))) rfl) rfl ?_
                          refine thenA_n ?_
                          unfold J3_4
                          exact ⟨_, v76, (intD ((((cellsD ((((((cellsD x20.1).drop ((x57).toNat * 3))).drop 0)).getD 0 .nil)).drop (((intD (((setD x60 ((x57).toNat * 1) [(.int .i64 (IntKind.wrap .i64 ((intD ((x60).getD ((x57).toNat * 1) .nil)) + (1 : Int))))])).getD ((x57).toNat * 1) .nil))).toNat * 1))).getD 0 .nil)), Gh.join ⟨rfl, rfl, rfl, rfl, rfl, rfl, rfl, rfl, trivial⟩ ⟨hpL_hit, trivial⟩, fun id hid => (hpL_low hid).trans (hlow78 id hid), H⟩
                        · replace H := cond_f H hb117
                          subst hy118
                          refine awp_skip ?_
                          refine thenA_n ?_
                          unfold J3_4
                          exact ⟨_, v76, (0 : Int), Gh.join ⟨rfl, rfl, rfl, rfl, rfl, rfl, rfl, rfl, trivial⟩ ⟨hpL_hit, trivial⟩, fun id hid => (hpL_low hid).trans (hlow78 id hid), H⟩
                      · intro s hJ
                        unfold J3_4 at hJ
                        obtain ⟨hpx92, v91, x90, hG94, hlow93, H⟩ := hJ
                        unfold F3_K4 at H
                        refine awp_gh hG94 ?_
                        clear hG94
                        refine awp_hide fun y95 hy95 => ?_
                        refine awp_regionL fun y96 hy96 => ?_
                        refine goL_s (st_mv (v := (PV.d true (.int .i64 x90))) rfl) rfl ?_
                        refine goL_s (st_mv (v := (PV.d true x23)) rfl) rfl ?_
                        refine goL_s (st_mv (v := (PV.d true (.int .i64 x57))) rfl) rfl ?_
                        obtain ⟨g97, H⟩ := gd_out H
                        refine goL_s (st_ia_d el_23 sz_22 (by decide) (y := x23) rfl rfl g97) rfl ?_
                        obtain ⟨g98, H⟩ := gd_out H
                        refine goL_s (st_ld_lp ty_22 rfl g98 (dk_true _)) rfl ?_
                        obtain ⟨g99, H⟩ := gd_out H
                        refine goL_s (st_len_d (id := 0) sl_22 rfl g99) rfl ?_
                        refine goL_s (st_bin rfl rfl rfl rfl trivial) rfl ?_
                        subst hy96
                        refine awp_ifL (b := (decide ((lenN ((((cellsD x23).drop ((x57).toNat * 1))).getD 0 .nil) : Int) ≤ x90))) rfl (fun y101 hy101 hb100 => ?_) (fun y101 hy101 hb100 => ?_)
                        · replace H := cond_t H hb100
                          subst hy101
                          refine awp_regionL fun y102 hy102 => ?_
                          refine goL_s (st_as (v := (PV.d true (.bool false))) rfl) rfl ?_
                          subst hy102
                          refine awp_ret ?_
                          refine thenA_r ?_
                          refine blockA_r ?_
                          refine thenA_r ?_
                          refine thenA_r ?_
                          refine blockA_r ?_
                          refine blockA_r ?_
                          refine thenA_r ?_
                          refine thenA_r ?_
                          refine blockA_r ?_
                          refine thenA_r ?_
                          obtain rfl := Option.some.inj H
                          exact ret1 (res_t (x := (PV.d true (.bool false))) (d := (.bool false)) rfl rfl) (fun id hid => (hpL_low hid).trans (hlow93 id hid)) (fun _ _ => rfl) lowOK_same ⟨rfl, rfl⟩ (.inr rfl)
                        · replace H := cond_f H hb100
                          subst hy101
                          refine awp_skip ?_
                          refine thenA_n ?_
                          subst hy95
                          refine awp_regionL1 ?_
                          refine goL_s (st_mv (v := (PV.d true x23)) rfl) rfl ?_
                          refine goL_s (st_mv (v := (PV.d true (.int .i64 x57))) rfl) rfl ?_
                          obtain ⟨g103, H⟩ := gd_out H
                          refine goL_s (st_ia_d el_23 sz_22 (by decide) (y := x23) rfl rfl g103) rfl ?_
                          obtain ⟨g104, H⟩ := gd_out H
                          refine goL_s (st_ld_lp ty_22 rfl g104 (dk_true _)) rfl ?_
                          refine goL_s (st_mv (v := (PV.d true (.int .i64 x90))) rfl) rfl ?_
                          obtain ⟨g105, H⟩ := gd_out H
                          refine goL_s (st_ia_d el_22 sz_3 (by decide) (y := ((((cellsD x23).drop ((x57).toNat * 1))).getD 0 .nil)) rfl rfl g105) rfl ?_
                          obtain ⟨⟨g106, g107⟩, H⟩ := gd_out H
                          refine goL_s (st_ld_lp ty_3 rfl g106 (cI g107)) rfl ?_
                          refine goL_s (st_as (v := (PV.d true (.int .i64 (intD ((((cellsD ((((cellsD x23).drop ((x57).toNat * 1))).getD 0 .nil)).drop ((x90).toNat * 1))).getD 0 .nil))))) rfl) rfl ?_
                          refine blockA_n ?_
                          refine thenA_n ?_
                          subst hy73
                          refine awp_regionL1 ?_
                          refine goL_s (st_mv (v := (PV.d true (.int .i64 x58))) rfl) rfl ?_
                          refine goL_s (st_bin rfl rfl rfl rfl trivial) rfl ?_
                          refine goL_s (st_as (v := (PV.d true (.int .i64 (IntKind.wrap .i64 (x58 + (1 : Int)))))) rfl) rfl ?_
                          refine thenA_n ?_
                          refine ⟨m2, Nat.lt_succ_self _, ?_⟩
                          unfold J3_2
                          exact ⟨_, v91, (intD ((((cellsD ((((cellsD x23).drop ((x57).toNat * 1))).getD 0 .nil)).drop ((x90).toNat * 1))).getD 0 .nil)), (IntKind.wrap .i64 (x58 + (1 : Int))), (setD x60 ((x57).toNat * 1) [(.int .i64 (IntKind.wrap .i64 ((intD ((x60).getD ((x57).toNat * 1) .nil)) + (1 : Int))))]), Gh.join ⟨rfl, rfl, rfl, rfl, rfl, rfl, rfl, trivial⟩ ⟨hpL_hit, trivial⟩, fun id hid => (hpL_low hid).trans (hlow93 id hid), H⟩
                · replace H := cond_f H hb71
                  subst hy72
                  refine awp_exit ?_
                  refine thenA_e ?_
                  refine thenA_e ?_
                  refine blockA_h ?_
                  refine blockA_n ?_
                  refine thenA_n ?_
                  subst hy53
                  refine awp_regionL1 ?_
                  refine goL_s (st_mv (v := (PV.d true (.int .i64 x39))) rfl) rfl ?_
                  refine goL_s (st_bin rfl rfl rfl rfl trivial) rfl ?_
                  refine goL_s (st_as (v := (PV.d true (.int .i64 (IntKind.wrap .i64 (x39 + (1 : Int)))))) rfl) rfl ?_
                  refine thenA_n ?_
                  refine ⟨m1, Nat.lt_succ_self _, ?_⟩
                  unfold J3_1
                  exact ⟨_, v59, (IntKind.wrap .i64 (x39 + (1 : Int))), x60, Gh.join ⟨rfl, rfl, rfl, rfl, rfl, trivial⟩ ⟨hpL_hit, trivial⟩, fun id hid => (hpL_low hid).trans (hlow66 id hid), H⟩
          · replace H := cond_f H hb51
            subst hy52
            refine awp_exit ?_
            refine thenA_e ?_
            refine thenA_e ?_
            refine blockA_h ?_
            refine thenA_n ?_
            subst hy36
            refine awp_hide fun y139 hy139 => ?_
            refine awp_regionL fun y140 hy140 => ?_
            refine goL_s (st_as (v := (PV.d true (.int .i64 (0 : Int)))) rfl) rfl ?_
            subst hy140
            refine awp_block ?_
            refine awp_loop (J3_5 (mkC 129 N Try.prog hp X) N hp x20 x41 r) n ?_ ?_
            · unfold J3_5
              exact ⟨_, v40, (0 : Int), Gh.join ⟨rfl, rfl, rfl, trivial⟩ ⟨hpL_hit, trivial⟩, fun id hid => (hpL_low hid).trans (hlow46 id hid), H⟩
            · intro m5 s hJ
              unfold J3_5 at hJ
              obtain ⟨hpx146, v143, x142, hG148, hlow147, H⟩ := hJ
              cases m5 with
              | zero => cases H
              | succ m5 =>
                rw [F3_L5] at H
                refine awp_gh hG148 ?_
                clear hG148
                refine awp_hide fun y149 hy149 => ?_
                refine awp_regionL fun y150 hy150 => ?_
                refine goL_s (st_mv (v := (PV.d true (.int .i64 x142))) rfl) rfl ?_
                refine goL_s (st_mv (v := (PV.d true x20.1)) rfl) rfl ?_
                obtain ⟨g151, H⟩ := gd_out H
                refine goL_s (st_len_d (id := 0) sl_30 rfl g151) rfl ?_
                refine goL_s (st_bin rfl rfl rfl rfl trivial) rfl ?_
                subst hy150
                refine awp_ifL (b := (decide (x142 < (lenN x20.1 : Int)))) rfl (fun y153 hy153 hb152 => ?_) (fun y153 hy153 hb152 => ?_)
                · replace H := cond_t H hb152
                  subst hy153
                  refine awp_skip ?_
                  refine thenA_n ?_
                  subst hy149
                  refine awp_hide fun y154 hy154 => ?_
                  refine awp_block ?_
                  refine awp_drawL 12 10 [] follows_any (by kernel_rfl) (by kernel_rfl) (by kernel_rfl) (by kernel_rfl) fun opsd156 Kd156 hod156 hKd156 => ?_
                  refine goA_s trivial (st_mv (v := (PV.own (N + 38) v143 0 ((lenN x20.1 : Int)).toNat)) rfl) rfl fun rd0 => ?_
                  refine goA_s trivial (st_mv (v := (PV.d true (.int .i64 x142))) rfl) rfl fun rd1 => ?_
                  obtain ⟨g157, H⟩ := gd_out H
                  refine goA_s trivial (st_ia_o el_22 sz_3 (by decide) rfl hpL_hit rfl g157) rfl fun rd2 => ?_
                  obtain ⟨⟨g158, g159⟩, H⟩ := gd_out H
                  refine goA_s trivial (st_ld_p (row := (x41).map (PV.d true)) ty_3 rfl hpL_hit (row_at g158 (cI' g159))) rfl fun rd3 => ?_
                  refine goA_s trivial (st_mv (v := (PV.d true x20.1)) rfl) rfl fun rd4 => ?_
                  refine goA_s trivial (st_mv (v := (PV.d true (.int .i64 x142))) rfl) rfl fun rd5 => ?_
                  obtain ⟨g160, H⟩ := gd_out H
                  refine goA_s trivial (st_ia_d el_30 sz_36 (by decide) (y := x20.1) rfl rfl g160) rfl fun rd6 => ?_
                  obtain ⟨g161, H⟩ := gd_out H
                  refine goA_s trivial (st_fa_lp fi_36_0 (by decide) rfl g161) rfl fun rd7 => ?_
                  obtain ⟨g162, H⟩ := gd_out H
                  refine goA_s trivial (st_ld_lp ty_22 rfl g162 (dk_true _)) rfl fun rd8 => ?_
                  obtain ⟨g163, H⟩ := gd_out H
                  refine goA_s trivial (st_len_d (id := 0) sl_22 rfl g163) rfl fun rd9 => ?_
                  refine goA_nil ?_
                  rw [hKd156]
                  refine ⟨?_, goOps_goL ?_⟩
                  · trivial
                  refine goL_s (st_bin rfl rfl rfl rfl trivial) rfl ?_
                  refine awp_ifL (b := ((intD ((x41).getD ((x142).toNat * 1) .nil)) != (lenN ((((((cellsD x20.1).drop ((x142).toNat * 3))).drop 0)).getD 0 .nil) : Int))) rfl (fun y165 hy165 hb164 => ?_) (fun y165 hy165 hb164 => ?_)
                  · replace H := cond_t H hb164
                    subst hy165
                    refine awp_regionL fun y166 hy166 => ?_
                    refine goL_s (st_as (v := (PV.d true (.bool false))) rfl) rfl ?_
                    subst hy166
                    refine awp_ret ?_
                    refine blockA_r ?_
                    refine thenA_r ?_
                    refine thenA_r ?_
                    refine blockA_r ?_
                    refine thenA_r ?_
                    obtain rfl := Option.some.inj H
                    exact ret1 (res_t (x := (PV.d true (.bool false))) (d := (.bool false)) rfl rfl) (fun id hid => (hpL_low hid).trans (hlow147 id hid)) (fun _ _ => rfl) lowOK_same ⟨rfl, rfl⟩ (.inr rfl)
                  · replace H := cond_f H hb164
                    subst hy165
                    refine awp_skip ?_
                    refine blockA_n ?_
                    refine thenA_n ?_
                    subst hy154
                    refine awp_regionL1 ?_
                    refine goL_s (st_mv (v := (PV.d true (.int .i64 x142))) rfl) rfl ?_
                    refine goL_s (st_bin rfl rfl rfl rfl trivial) rfl ?_
                    refine goL_s (st_as (v := (PV.d true (.int .i64 (IntKind.wrap .i64 (x142 + (1 : Int)))))) rfl) rfl ?_
                    refine thenA_n ?_
                    refine ⟨m5, Nat.lt_succ_self _, ?_⟩
                    unfold J3_5
                    exact ⟨_, v143, (IntKind.wrap .i64 (x142 + (1 : Int))), Gh.join ⟨rfl, rfl, rfl, trivial⟩ ⟨hpL_hit, trivial⟩, fun id hid => (hpL_low hid).trans (hlow147 id hid), H⟩
                · replace H := cond_f H hb152
                  subst hy153
                  refine awp_exit ?_
                  refine thenA_e ?_
                  refine thenA_e ?_
                  refine blockA_h ?_
                  refine thenA_n ?_
                  subst hy139
                  refine awp_regionL fun y167 hy167 => ?_
                  refine goL_s (st_as (v := (PV.d true (.bool true))) rfl) rfl ?_
                  subst hy167
                  refine awp_ret ?_
                  obtain rfl := Option.some.inj H
                  exact ret1 (res_t (x := (PV.d true (.bool true))) (d := (.bool true)) rfl rfl) (fun id hid => (hpL_low hid).trans (hlow147 id hid)) (fun _ _ => rfl) lowOK_same ⟨rfl, rfl⟩ (.inr rfl)

end Go.Proofs.Ytfhpoffgnpgagaa
