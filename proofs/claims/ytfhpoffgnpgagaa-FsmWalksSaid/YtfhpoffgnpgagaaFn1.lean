/- Functions of the program: what each does, in plain Lean, and that it does. Laid by program. Condition of each: its model answers. -/
import Derived.Test.YtfhpoffgnpgagaaWTy
set_option linter.unusedSimpArgs false
set_option linter.unusedVariables false
namespace Go.Proofs.Ytfhpoffgnpgagaa
open Go Go.Proofs Go.Abs
set_option linter.unusedVariables false
set_option maxRecDepth 100000
def F25 (n : Nat) (x1 : PD) : Option (PD) :=
  gd (nilOK x1 = true) <|
  bif (isNilD x1) then
    some .nil
  else
    gd ((srcOK 1 x1) ∧ (apOK 8 (0 + (lenN x1)))) <|
    gd ((0 + (lenN x1)) * 1 = ((([] : List PD) ++ (cellsD x1))).length) <|
    some (.lst (0 + (lenN x1)) (([] : List PD) ++ (cellsD x1)))

set_option maxHeartbeats 4000000 in
theorem f25_calls {n : Nat} {x1 : PD} {r : PD} (H : F25 n x1 = some r) (N : Nat) (hp : HP) : ACalls Try.prog 25 N [(PV.d true x1)] hp fun r' hp' => r' = (PV.d true r) ∧ hp' = hp := by
  unfold F25 at H
  refine acalls_body Try.func25 rfl rfl Try.ntmps25 (by simp) fun X hX => ?_
  refine awp_start (l := [(0, (PV.d true x1))]) (N := N) ⟨rfl, trivial⟩ ?_
  have hlow0 : ∀ id, id < N → hp id = hp id := fun _ _ => rfl
  refine awp_regionL fun y2 hy2 => ?_
  refine goL_s (st_as (v := (PV.d true .nil)) rfl) rfl ?_
  subst hy2
  refine awp_hide fun y3 hy3 => ?_
  refine awp_regionL fun y4 hy4 => ?_
  refine goL_s (st_mv (v := (PV.d true x1)) rfl) rfl ?_
  obtain ⟨g5, H⟩ := gd_out H
  refine goL_s (st_eqnil (p := x1) el_22 rfl rfl g5) rfl ?_
  subst hy4
  refine awp_ifL (b := (isNilD x1)) rfl (fun y7 hy7 hb6 => ?_) (fun y7 hy7 hb6 => ?_)
  · replace H := cond_t H hb6
    subst hy7
    refine awp_regionL fun y8 hy8 => ?_
    refine goL_s (st_as (v := (PV.d true .nil)) rfl) rfl ?_
    subst hy8
    refine awp_ret ?_
    refine thenA_r ?_
    obtain rfl := Option.some.inj H
    exact ret1 (res_t (x := (PV.d true .nil)) (d := .nil) rfl rfl) (fun id hid => (hpL_low hid).trans (hlow0 id hid)) (fun _ _ => rfl) lowOK_same ⟨rfl, rfl⟩ (.inr rfl)
  · replace H := cond_f H hb6
    subst hy7
    refine awp_skip ?_
    refine thenA_n ?_
    subst hy3
    refine awp_regionL fun y9 hy9 => ?_
    refine goL_n (d' := 5) (st_bsliceR (parts := []) (row := []) el_22 ze_3 sz_3 (by decide) rfl (by decide) rfl FillR.nil) rfl fun v10 => ?_
    refine goL_s (st_mv (v := (PV.d true x1)) rfl) rfl ?_
    obtain ⟨⟨g11, g12⟩, H⟩ := gd_out H
    refine goL_n (d' := 5) (st_ap_o (row := (([] : List PD)).map (PV.d true)) (news := ((cellsD x1)).map (PV.d true)) (m := (lenN x1)) (vy := (PV.d true x1)) el_22 ze_3 sz_3 by_3 (by decide) rfl rfl hpL_hit rfl (src_d sz_3 g11) g12 rfl (app_D _ _)) rfl fun v13 => ?_
    refine goL_s (st_as (v := (PV.own (N + 5) v13 0 (0 + (lenN x1)))) rfl) rfl ?_
    subst hy9
    obtain ⟨g14, H⟩ := gd_out H
    refine awp_frzs [2, 7] (R := (([] : List PD) ++ (cellsD x1))) hX ⟨rfl, rfl, trivial⟩ hpL_hit (toDs_true _) (mul_sz sz_3 g14) ?_
    refine awp_ret ?_
    obtain rfl := Option.some.inj H
    exact ret1 (res_t (x := (PV.d true (.lst (0 + (lenN x1)) (([] : List PD) ++ (cellsD x1))))) (d := (.lst (0 + (lenN x1)) (([] : List PD) ++ (cellsD x1)))) rfl rfl) (fun id hid => (hpL_low hid).trans (hlow0 id hid)) (fun _ _ => rfl) lowOK_same ⟨rfl, rfl⟩ (.inr rfl)

def F38 (n : Nat) (x1 : PD) : Option (PD) :=
  gd (nilOK x1 = true) <|
  bif (isNilD x1) then
    some .nil
  else
    gd ((srcOK 4 x1) ∧ (apOK 32 (0 + (lenN x1)))) <|
    gd ((0 + (lenN x1)) * 4 = ((([] : List PD) ++ (cellsD x1))).length) <|
    some (.lst (0 + (lenN x1)) (([] : List PD) ++ (cellsD x1)))

set_option maxHeartbeats 4000000 in
theorem f38_calls {n : Nat} {x1 : PD} {r : PD} (H : F38 n x1 = some r) (N : Nat) (hp : HP) : ACalls Try.prog 38 N [(PV.d true x1)] hp fun r' hp' => r' = (PV.d true r) ∧ hp' = hp := by
  unfold F38 at H
  refine acalls_body Try.func38 rfl rfl Try.ntmps38 (by simp) fun X hX => ?_
  refine awp_start (l := [(0, (PV.d true x1))]) (N := N) ⟨rfl, trivial⟩ ?_
  have hlow0 : ∀ id, id < N → hp id = hp id := fun _ _ => rfl
  refine awp_regionL fun y2 hy2 => ?_
  refine goL_s (st_as (v := (PV.d true .nil)) rfl) rfl ?_
  subst hy2
  refine awp_hide fun y3 hy3 => ?_
  refine awp_regionL fun y4 hy4 => ?_
  refine goL_s (st_mv (v := (PV.d true x1)) rfl) rfl ?_
  obtain ⟨g5, H⟩ := gd_out H
  refine goL_s (st_eqnil (p := x1) el_73 rfl rfl g5) rfl ?_
  subst hy4
  refine awp_ifL (b := (isNilD x1)) rfl (fun y7 hy7 hb6 => ?_) (fun y7 hy7 hb6 => ?_)
  · replace H := cond_t H hb6
    subst hy7
    refine awp_regionL fun y8 hy8 => ?_
    refine goL_s (st_as (v := (PV.d true .nil)) rfl) rfl ?_
    subst hy8
    refine awp_ret ?_
    refine thenA_r ?_
    obtain rfl := Option.some.inj H
    exact ret1 (res_t (x := (PV.d true .nil)) (d := .nil) rfl rfl) (fun id hid => (hpL_low hid).trans (hlow0 id hid)) (fun _ _ => rfl) lowOK_same ⟨rfl, rfl⟩ (.inr rfl)
  · replace H := cond_f H hb6
    subst hy7
    refine awp_skip ?_
    refine thenA_n ?_
    subst hy3
    refine awp_regionL fun y9 hy9 => ?_
    refine goL_n (d' := 5) (st_bsliceR (parts := []) (row := []) el_73 ze_78 sz_78 (by decide) rfl (by decide) rfl FillR.nil) rfl fun v10 => ?_
    refine goL_s (st_mv (v := (PV.d true x1)) rfl) rfl ?_
    obtain ⟨⟨g11, g12⟩, H⟩ := gd_out H
    refine goL_n (d' := 5) (st_ap_o (row := (([] : List PD)).map (PV.d true)) (news := ((cellsD x1)).map (PV.d true)) (m := (lenN x1)) (vy := (PV.d true x1)) el_73 ze_78 sz_78 by_78 (by decide) rfl rfl hpL_hit rfl (src_d sz_78 g11) g12 rfl (app_D _ _)) rfl fun v13 => ?_
    refine goL_s (st_as (v := (PV.own (N + 5) v13 0 (0 + (lenN x1)))) rfl) rfl ?_
    subst hy9
    obtain ⟨g14, H⟩ := gd_out H
    refine awp_frzs [2, 7] (R := (([] : List PD) ++ (cellsD x1))) hX ⟨rfl, rfl, trivial⟩ hpL_hit (toDs_true _) (mul_sz sz_78 g14) ?_
    refine awp_ret ?_
    obtain rfl := Option.some.inj H
    exact ret1 (res_t (x := (PV.d true (.lst (0 + (lenN x1)) (([] : List PD) ++ (cellsD x1))))) (d := (.lst (0 + (lenN x1)) (([] : List PD) ++ (cellsD x1)))) rfl rfl) (fun id hid => (hpL_low hid).trans (hlow0 id hid)) (fun _ _ => rfl) lowOK_same ⟨rfl, rfl⟩ (.inr rfl)

def F40 (n : Nat) (x1 : List UInt8) (x2 : Int) (x3 : Int) (x4 : Int) : Option (Int) :=
  bif (x2 == (2 : Int)) then
    some (42 : Int)
  else
    some (49 : Int)

set_option maxHeartbeats 4000000 in
theorem f40_calls {n : Nat} {x1 : List UInt8} {x2 : Int} {x3 : Int} {x4 : Int} {r : Int} (H : F40 n x1 x2 x3 x4 = some r) (N : Nat) (hp : HP) : ACalls Try.prog 40 N [(PV.agg [(PV.d true (.str x1)), (PV.d true (.int .i64 x2)), (PV.d true (.int .i64 x3)), (PV.d true (.int .i64 x4))])] hp fun r' hp' => r' = (PV.d true (.int .i32 r)) ∧ hp' = hp := by
  unfold F40 at H
  refine acalls_body Try.func40 rfl rfl Try.ntmps40 (by simp) fun X hX => ?_
  refine awp_start (l := [(0, (PV.agg [(PV.d true (.str x1)), (PV.d true (.int .i64 x2)), (PV.d true (.int .i64 x3)), (PV.d true (.int .i64 x4))]))]) (N := N) ⟨rfl, trivial⟩ ?_
  have hlow0 : ∀ id, id < N → hp id = hp id := fun _ _ => rfl
  refine awp_regionL fun y5 hy5 => ?_
  refine goL_n (d' := 1) (st_box (v := (PV.agg [(PV.d true (.str x1)), (PV.d true (.int .i64 x2)), (PV.d true (.int .i64 x3)), (PV.d true (.int .i64 x4))])) (cs := [(PV.d true (.str x1)), (PV.d true (.int .i64 x2)), (PV.d true (.int .i64 x3)), (PV.d true (.int .i64 x4))]) rfl rfl ⟨rfl, rfl, rfl, rfl, trivial⟩) rfl fun v6 => ?_
  refine goL_s (st_as (v := (PV.d true (.int .i32 (0 : Int)))) rfl) rfl ?_
  subst hy5
  refine awp_hide fun y7 hy7 => ?_
  refine awp_regionL fun y8 hy8 => ?_
  refine goL_s (st_fa_p (o' := 1) fi_61_1 (by decide) rfl hpL_hit rfl) rfl ?_
  refine goL_s (st_ld_p (c := (PV.d true (.int .i64 x2))) ty_3 rfl hpL_hit rfl) rfl ?_
  refine goL_s (st_bin rfl rfl rfl rfl trivial) rfl ?_
  subst hy8
  refine awp_ifL (b := (x2 == (2 : Int))) rfl (fun y10 hy10 hb9 => ?_) (fun y10 hy10 hb9 => ?_)
  · replace H := cond_t H hb9
    subst hy10
    refine awp_regionL fun y11 hy11 => ?_
    refine goL_s (st_as (v := (PV.d true (.int .i32 (42 : Int)))) rfl) rfl ?_
    subst hy11
    refine awp_ret ?_
    refine thenA_r ?_
    obtain rfl := Option.some.inj H
    exact ret1 (res_t (x := (PV.d true (.int .i32 (42 : Int)))) (d := (.int .i32 (42 : Int))) rfl rfl) (fun id hid => (hpL_low hid).trans (hlow0 id hid)) (fun _ _ => rfl) lowOK_same ⟨rfl, rfl⟩ (.inr rfl)
  · replace H := cond_f H hb9
    subst hy10
    refine awp_skip ?_
    refine thenA_n ?_
    subst hy7
    refine awp_regionL fun y12 hy12 => ?_
    refine goL_s (st_as (v := (PV.d true (.int .i32 (49 : Int)))) rfl) rfl ?_
    subst hy12
    refine awp_ret ?_
    obtain rfl := Option.some.inj H
    exact ret1 (res_t (x := (PV.d true (.int .i32 (49 : Int)))) (d := (.int .i32 (49 : Int))) rfl rfl) (fun id hid => (hpL_low hid).trans (hlow0 id hid)) (fun _ _ => rfl) lowOK_same ⟨rfl, rfl⟩ (.inr rfl)

def F24_L1 (x1 : PD) (x2 : Int) (x3 : Int) (x4 : Int) (x5 : Int) : Nat → Int → Option (Int)
  | 0, _ => none
  | m1 + 1, x12 =>
    bif (decide (x12 < (lenN x1 : Int))) then
      gd (idxOK 4 x1 x12) <|
      gd (4 ≤ (((cellsD x1).drop ((x12).toNat * 4))).length) <|
      gd ((4 ≤ (((cellsD x1).drop ((x12).toNat * 4))).length) ∧ (isI .i64 ((((cellsD x1).drop ((x12).toNat * 4))).getD 0 .nil) = true) ∧ (isI .i64 ((((cellsD x1).drop ((x12).toNat * 4))).getD 1 .nil) = true) ∧ (isI .i64 ((((cellsD x1).drop ((x12).toNat * 4))).getD 2 .nil) = true) ∧ (isI .i64 ((((cellsD x1).drop ((x12).toNat * 4))).getD 3 .nil) = true)) <|
      bif ((x2 == (intD ((((cellsD x1).drop ((x12).toNat * 4))).getD 0 .nil))) && ((x3 == (intD ((((cellsD x1).drop ((x12).toNat * 4))).getD 1 .nil))) && ((x4 == (intD ((((cellsD x1).drop ((x12).toNat * 4))).getD 2 .nil))) && ((x5 == (intD ((((cellsD x1).drop ((x12).toNat * 4))).getD 3 .nil))) && true)))) then
        some x12
      else
        (F24_L1 x1 x2 x3 x4 x5 m1) (IntKind.wrap .i64 (x12 + (1 : Int)))
    else
      some ((-1) : Int)

def J24_1 (C : Ctx) (N : Nat) (hp : HP) (x1 : PD) (x2 : Int) (x3 : Int) (x4 : Int) (x5 : Int) (rr : Int) (mm : Nat) (s : ASt) : Prop :=
  ∃ (hpx : HP) (v13 : Nat) (x12 : Int), Gh C s ⟨envL [(0, (PV.d true x1)), (3, (PV.ptr (N + 3) v13 0)), (7, (PV.d true (.int .i64 (lenN x1 : Int)))), (8, (PV.d true (.int .i64 x12)))], hpL N hpx [(3, (v13, some (.cells 78 [(PV.d true (.int .i64 x2)), (PV.d true (.int .i64 x3)), (PV.d true (.int .i64 x4)), (PV.d true (.int .i64 x5))])))]⟩ ∧ (∀ id, id < N → hpx id = hp id) ∧ F24_L1 x1 x2 x3 x4 x5 mm x12 = some rr

def F24 (n : Nat) (x1 : PD) (x2 : Int) (x3 : Int) (x4 : Int) (x5 : Int) : Option (Int) :=
  gd (isSlD x1 = true) <|
  F24_L1 x1 x2 x3 x4 x5 n (0 : Int)

set_option maxHeartbeats 4000000 in
theorem f24_calls {n : Nat} {x1 : PD} {x2 : Int} {x3 : Int} {x4 : Int} {x5 : Int} {r : Int} (H : F24 n x1 x2 x3 x4 x5 = some r) (N : Nat) (hp : HP) : ACalls Try.prog 24 N [(PV.d true x1), (PV.agg [(PV.d true (.int .i64 x2)), (PV.d true (.int .i64 x3)), (PV.d true (.int .i64 x4)), (PV.d true (.int .i64 x5))])] hp fun r' hp' => r' = (PV.d true (.int .i64 r)) ∧ hp' = hp := by
  unfold F24 at H
  refine acalls_body Try.func24 rfl rfl Try.ntmps24 (by simp) fun X hX => ?_
  refine awp_start (l := [(0, (PV.d true x1)), (1, (PV.agg [(PV.d true (.int .i64 x2)), (PV.d true (.int .i64 x3)), (PV.d true (.int .i64 x4)), (PV.d true (.int .i64 x5))]))]) (N := N) ⟨rfl, rfl, trivial⟩ ?_
  have hlow0 : ∀ id, id < N → hp id = hp id := fun _ _ => rfl
  refine awp_regionL fun y6 hy6 => ?_
  refine goL_n (d' := 3) (st_box (v := (PV.agg [(PV.d true (.int .i64 x2)), (PV.d true (.int .i64 x3)), (PV.d true (.int .i64 x4)), (PV.d true (.int .i64 x5))])) (cs := [(PV.d true (.int .i64 x2)), (PV.d true (.int .i64 x3)), (PV.d true (.int .i64 x4)), (PV.d true (.int .i64 x5))]) rfl rfl ⟨rfl, rfl, rfl, rfl, trivial⟩) rfl fun v7 => ?_
  refine goL_s (st_as (v := (PV.d true (.int .i64 (0 : Int)))) rfl) rfl ?_
  subst hy6
  refine awp_hide fun y8 hy8 => ?_
  refine awp_regionL fun y9 hy9 => ?_
  refine goL_s (st_mv (v := (PV.d true x1)) rfl) rfl ?_
  obtain ⟨g10, H⟩ := gd_out H
  refine goL_s (st_len_d (id := 0) sl_73 rfl g10) rfl ?_
  refine goL_s (st_mv (v := (PV.d true (.int .i64 (0 : Int)))) rfl) rfl ?_
  subst hy9
  refine awp_block ?_
  refine awp_loop (J24_1 (mkC 19 N Try.prog hp X) N hp x1 x2 x3 x4 x5 r) n ?_ ?_
  · unfold J24_1
    exact ⟨_, v7, (0 : Int), Gh.join ⟨rfl, rfl, rfl, rfl, trivial⟩ ⟨hpL_hit, trivial⟩, fun id hid => (hpL_low hid).trans (hlow0 id hid), H⟩
  · intro m1 s hJ
    unfold J24_1 at hJ
    obtain ⟨hpx16, v13, x12, hG18, hlow17, H⟩ := hJ
    cases m1 with
    | zero => cases H
    | succ m1 =>
      rw [F24_L1] at H
      refine awp_gh hG18 ?_
      clear hG18
      refine awp_regionL fun y19 hy19 => ?_
      refine goL_s (st_bin rfl rfl rfl rfl trivial) rfl ?_
      subst hy19
      refine awp_hide fun y20 hy20 => ?_
      refine awp_ifL (b := (decide (x12 < (lenN x1 : Int)))) rfl (fun y22 hy22 hb21 => ?_) (fun y22 hy22 hb21 => ?_)
      · replace H := cond_t H hb21
        subst hy22
        refine awp_skip ?_
        refine thenA_n ?_
        subst hy20
        refine awp_hide fun y23 hy23 => ?_
        refine awp_block ?_
        refine awp_regionL fun y24 hy24 => ?_
        refine goL_s (st_mv (v := (PV.d true (.int .i64 x12))) rfl) rfl ?_
        refine goL_s (st_as (v := (PV.d true (.int .i64 x12))) rfl) rfl ?_
        subst hy24
        refine awp_drawL 7 5 [] follows_any (by kernel_rfl) (by kernel_rfl) (by kernel_rfl) (by kernel_rfl) fun opsd26 Kd26 hod26 hKd26 => ?_
        refine goA_s trivial (st_ldA_p (cs := [(PV.d true (.int .i64 x2)), (PV.d true (.int .i64 x3)), (PV.d true (.int .i64 x4)), (PV.d true (.int .i64 x5))]) ty_78 rfl hpL_hit (Nat.le_of_ble_eq_true rfl) rfl) rfl fun rd0 => ?_
        refine goA_s trivial (st_mv (v := (PV.d true x1)) rfl) rfl fun rd1 => ?_
        refine goA_s trivial (st_mv (v := (PV.d true (.int .i64 x12))) rfl) rfl fun rd2 => ?_
        obtain ⟨g27, H⟩ := gd_out H
        refine goA_s trivial (st_ia_d el_73 sz_78 (by decide) (y := x1) rfl rfl g27) rfl fun rd3 => ?_
        obtain ⟨g28, H⟩ := gd_out H
        refine goA_s trivial (st_ldA_lp ty_78 rfl g28) rfl fun rd4 => ?_
        refine goA_nil ?_
        rw [hKd26]
        refine ⟨?_, goOps_goL ?_⟩
        · trivial
        obtain ⟨⟨g29, g30, g31, g32, g33⟩, H⟩ := gd_out H
        refine goL_s (st_eqa (vx := (PV.agg [(PV.d true (.int .i64 x2)), (PV.d true (.int .i64 x3)), (PV.d true (.int .i64 x4)), (PV.d true (.int .i64 x5))])) (vy := (PV.d true (.agg ((((cellsD x1).drop ((x12).toNat * 4))).take 4)))) (ds := [(.int .i64 x2), (.int .i64 x3), (.int .i64 x4), (.int .i64 x5)]) (es := [(.int .i64 (intD ((((cellsD x1).drop ((x12).toNat * 4))).getD 0 .nil))), (.int .i64 (intD ((((cellsD x1).drop ((x12).toNat * 4))).getD 1 .nil))), (.int .i64 (intD ((((cellsD x1).drop ((x12).toNat * 4))).getD 2 .nil))), (.int .i64 (intD ((((cellsD x1).drop ((x12).toNat * 4))).getD 3 .nil)))]) eq_78 rfl rfl rfl (congrArg some ((exP g29).trans (li2 (eI g30) (li2 (eI g31) (li2 (eI g32) (li2 (eI g33) rfl)))))) rfl rfl rfl rfl) rfl ?_
        refine awp_ifL (b := ((x2 == (intD ((((cellsD x1).drop ((x12).toNat * 4))).getD 0 .nil))) && ((x3 == (intD ((((cellsD x1).drop ((x12).toNat * 4))).getD 1 .nil))) && ((x4 == (intD ((((cellsD x1).drop ((x12).toNat * 4))).getD 2 .nil))) && ((x5 == (intD ((((cellsD x1).drop ((x12).toNat * 4))).getD 3 .nil))) && true))))) rfl (fun y35 hy35 hb34 => ?_) (fun y35 hy35 hb34 => ?_)
        · replace H := cond_t H hb34
          subst hy35
          refine awp_regionL fun y36 hy36 => ?_
          refine goL_s (st_mv (v := (PV.d true (.int .i64 x12))) rfl) rfl ?_
          refine goL_s (st_as (v := (PV.d true (.int .i64 x12))) rfl) rfl ?_
          subst hy36
          refine awp_ret ?_
          refine blockA_r ?_
          refine thenA_r ?_
          refine thenA_r ?_
          refine blockA_r ?_
          refine thenA_r ?_
          obtain rfl := Option.some.inj H
          exact ret1 (res_t (x := (PV.d true (.int .i64 x12))) (d := (.int .i64 x12)) rfl rfl) (fun id hid => (hpL_low hid).trans (hlow17 id hid)) (fun _ _ => rfl) lowOK_same ⟨rfl, rfl⟩ (.inr rfl)
        · replace H := cond_f H hb34
          subst hy35
          refine awp_skip ?_
          refine blockA_n ?_
          refine thenA_n ?_
          subst hy23
          refine awp_regionL1 ?_
          refine goL_s (st_bin rfl rfl rfl rfl trivial) rfl ?_
          refine goL_s (st_mv (v := (PV.d true (.int .i64 (IntKind.wrap .i64 (x12 + (1 : Int)))))) rfl) rfl ?_
          refine thenA_n ?_
          refine ⟨m1, Nat.lt_succ_self _, ?_⟩
          unfold J24_1
          exact ⟨_, v13, (IntKind.wrap .i64 (x12 + (1 : Int))), Gh.join ⟨rfl, rfl, rfl, rfl, trivial⟩ ⟨hpL_hit, trivial⟩, fun id hid => (hpL_low hid).trans (hlow17 id hid), H⟩
      · replace H := cond_f H hb21
        subst hy22
        refine awp_exit ?_
        refine thenA_e ?_
        refine thenA_e ?_
        refine blockA_h ?_
        refine thenA_n ?_
        subst hy8
        refine awp_regionL fun y37 hy37 => ?_
        refine goL_s (st_as (v := (PV.d true (.int .i64 ((-1) : Int)))) rfl) rfl ?_
        subst hy37
        refine awp_ret ?_
        obtain rfl := Option.some.inj H
        exact ret1 (res_t (x := (PV.d true (.int .i64 ((-1) : Int)))) (d := (.int .i64 ((-1) : Int))) rfl rfl) (fun id hid => (hpL_low hid).trans (hlow17 id hid)) (fun _ _ => rfl) lowOK_same ⟨rfl, rfl⟩ (.inr rfl)

def F54_L1 (x1 : Nat) : Nat → Int → Int → List PD → Option (List PD)
  | 0, _, _, _ => none
  | m1 + 1, x4, x5, x6 =>
    bif (decide (x4 < x5)) then
      gd (0 ≤ x5 ∧ x5 < (x1 : Nat)) <|
      gd ((((x5).toNat * 1) < (x6).length) ∧ (isI .i64 ((x6).getD ((x5).toNat * 1) .nil) = true)) <|
      gd (0 ≤ x4 ∧ x4 < (x1 : Nat)) <|
      gd ((((x4).toNat * 1) < (x6).length) ∧ (isI .i64 ((x6).getD ((x4).toNat * 1) .nil) = true)) <|
      gd (0 ≤ x4 ∧ x4 < (x1 : Nat)) <|
      gd (((x4).toNat * 1) + 1 ≤ (x6).length) <|
      gd (0 ≤ x5 ∧ x5 < (x1 : Nat)) <|
      gd (((x5).toNat * 1) + 1 ≤ ((setD x6 ((x4).toNat * 1) [(.int .i64 (intD ((x6).getD ((x5).toNat * 1) .nil)))])).length) <|
      (F54_L1 x1 m1) (IntKind.wrap .i64 (x4 + (1 : Int))) (IntKind.wrap .i64 (x5 - (1 : Int))) (setD (setD x6 ((x4).toNat * 1) [(.int .i64 (intD ((x6).getD ((x5).toNat * 1) .nil)))]) ((x5).toNat * 1) [(.int .i64 (intD ((x6).getD ((x4).toNat * 1) .nil)))])
    else
      some x6

def J54_1 (C : Ctx) (N : Nat) (hp : HP) (id1 w1 : Nat) (x1 : Nat) (rr : List PD) (mm : Nat) (s : ASt) : Prop :=
  ∃ (hpx : HP) (x4 : Int) (x5 : Int) (x6 : List PD), Gh C s ⟨envL [(0, (PV.own id1 w1 0 x1)), (2, (PV.d true (.int .i64 x4))), (3, (PV.d true (.int .i64 x5)))], hpL N hpx []⟩ ∧ (∀ id, id < N → id ≠ id1 → hpx id = hp id) ∧ hpx id1 = (w1, some (.cells 3 ((x6).map (PV.d true)))) ∧ F54_L1 x1 mm x4 x5 x6 = some rr

def F54 (n : Nat) (x1 : Nat) (x2 : List PD) : Option (List PD) :=
  F54_L1 x1 n (0 : Int) (IntKind.wrap .i64 ((x1 : Int) - (1 : Int))) x2

set_option maxHeartbeats 4000000 in
theorem f54_calls {n : Nat} {x1 : Nat} {x2 : List PD} {r : List PD} (H : F54 n x1 x2 = some r) (N : Nat) (hp : HP) {id1 w1 : Nat} (hid1 : id1 < N) (ho1 : hp id1 = (w1, some (.cells 3 ((x2).map (PV.d true))))) : ACalls Try.prog 54 N [(PV.own id1 w1 0 x1)] hp fun r' hp' => r' = (.d true (.tup [])) ∧ hp' = (upd hp id1 (w1, some (.cells 3 ((r).map (PV.d true))))) := by
  unfold F54 at H
  refine acalls_body Try.func54 rfl rfl Try.ntmps54 (by simp) fun X hX => ?_
  refine awp_start (l := [(0, (PV.own id1 w1 0 x1))]) (N := N) ⟨rfl, trivial⟩ ?_
  have hlow0 : ∀ id, id < N → id ≠ id1 → hp id = hp id := fun _ _ _ => rfl
  refine awp_regionL fun y3 hy3 => ?_
  refine goL_s (st_mv (v := (PV.own id1 w1 0 x1)) rfl) rfl ?_
  refine goL_s (st_len_o sl_22 rfl (hpL_low' hid1 ho1)) rfl ?_
  refine goL_s (st_bin rfl rfl rfl rfl trivial) rfl ?_
  refine goL_s (st_as (v := (PV.d true (.int .i64 (0 : Int)))) rfl) rfl ?_
  refine goL_s (st_as (v := (PV.d true (.int .i64 (IntKind.wrap .i64 ((x1 : Int) - (1 : Int)))))) rfl) rfl ?_
  subst hy3
  refine awp_block ?_
  refine awp_loop (J54_1 (mkC 28 N Try.prog hp X) N hp id1 w1 x1 r) n ?_ ?_
  · unfold J54_1
    exact ⟨_, (0 : Int), (IntKind.wrap .i64 ((x1 : Int) - (1 : Int))), x2, Gh.join ⟨rfl, rfl, rfl, trivial⟩ trivial, fun id hid nid1 => (hpL_low hid).trans (hlow0 id hid nid1), (hpL_low hid1).trans ho1, H⟩
  · intro m1 s hJ
    unfold J54_1 at hJ
    obtain ⟨hpx10, x4, x5, x6, hG12, hlow11, hc13, H⟩ := hJ
    cases m1 with
    | zero => cases H
    | succ m1 =>
      rw [F54_L1] at H
      refine awp_gh hG12 ?_
      clear hG12
      refine awp_hide fun y14 hy14 => ?_
      refine awp_regionL fun y15 hy15 => ?_
      refine goL_s (st_mv (v := (PV.d true (.int .i64 x4))) rfl) rfl ?_
      refine goL_s (st_mv (v := (PV.d true (.int .i64 x5))) rfl) rfl ?_
      refine goL_s (st_bin rfl rfl rfl rfl trivial) rfl ?_
      subst hy15
      refine awp_ifL (b := (decide (x4 < x5))) rfl (fun y17 hy17 hb16 => ?_) (fun y17 hy17 hb16 => ?_)
      · replace H := cond_t H hb16
        subst hy17
        refine awp_skip ?_
        refine thenA_n ?_
        subst hy14
        refine awp_hide fun y18 hy18 => ?_
        refine awp_block ?_
        refine awp_drawL1 17 14 [(0, 13), (1, 13), (4, 13), (5, 13), (6, 13), (7, 13), (8, 13), (9, 13), (10, 13), (11, 13), (12, 13)] follows_any (by kernel_rfl) (by kernel_rfl) (by kernel_rfl) (by kernel_rfl) fun opsd19 Kd19 hod19 hKd19 => ?_
        refine goA_r (rd := []) trivial (st_mv (v := (PV.own id1 w1 0 x1)) rfl) rfl rfl ?_
        refine goA_r (rd := []) trivial (st_mv (v := (PV.d true (.int .i64 x4))) rfl) rfl rfl ?_
        refine goA_r (rd := []) trivial (st_mv (v := (PV.own id1 w1 0 x1)) rfl) rfl rfl ?_
        refine goA_r (rd := []) trivial (st_mv (v := (PV.d true (.int .i64 x5))) rfl) rfl rfl ?_
        refine goA_r (rd := []) trivial (st_mv (v := (PV.own id1 w1 0 x1)) rfl) rfl rfl ?_
        refine goA_r (rd := []) trivial (st_mv (v := (PV.d true (.int .i64 x5))) rfl) rfl rfl ?_
        obtain ⟨g20, H⟩ := gd_out H
        refine goA_r (rd := [id1]) trivial (st_ia_o el_22 sz_3 (by decide) rfl (hpL_low' hid1 hc13) rfl g20) rfl rfl ?_
        obtain ⟨⟨g21, g22⟩, H⟩ := gd_out H
        refine goA_r (rd := [id1]) trivial (st_ld_p (row := (x6).map (PV.d true)) ty_3 rfl (hpL_low' hid1 hc13) (row_at g21 (cI' g22))) rfl rfl ?_
        refine goA_r (rd := []) trivial (st_mv (v := (PV.own id1 w1 0 x1)) rfl) rfl rfl ?_
        refine goA_r (rd := []) trivial (st_mv (v := (PV.d true (.int .i64 x4))) rfl) rfl rfl ?_
        obtain ⟨g23, H⟩ := gd_out H
        refine goA_r (rd := [id1]) trivial (st_ia_o el_22 sz_3 (by decide) rfl (hpL_low' hid1 hc13) rfl g23) rfl rfl ?_
        obtain ⟨⟨g24, g25⟩, H⟩ := gd_out H
        refine goA_r (rd := [id1]) trivial (st_ld_p (row := (x6).map (PV.d true)) ty_3 rfl (hpL_low' hid1 hc13) (row_at g24 (cI' g25))) rfl rfl ?_
        obtain ⟨g26, H⟩ := gd_out H
        refine goA_r (rd := [id1]) trivial (st_ia_o el_22 sz_3 (by decide) rfl (hpL_low' hid1 hc13) rfl g26) rfl rfl ?_
        obtain ⟨g27, H⟩ := gd_out H
        refine goA_c0 (rd := [id1]) trivial (st_sto (x := (PV.d true (.int .i64 (intD ((x6).getD ((x5).toNat * 1) .nil))))) (cs := ([(.int .i64 (intD ((x6).getD ((x5).toNat * 1) .nil)))] : List PD).map (PV.d true)) (row := (x6).map (PV.d true)) ty_3 rfl (hpL_low' hid1 hc13) rfl rfl rfl (by rw [List.length_map]; exact g27) ⟨rfl, trivial⟩ row_setD) hid1 rfl rfl ?_
        obtain ⟨hpx28, qhpx28⟩ : ∃ h, h = (upd hpx10 id1 (w1, some (.cells 3 (((setD x6 ((x4).toNat * 1) [(.int .i64 (intD ((x6).getD ((x5).toNat * 1) .nil)))])).map (PV.d true))))) := ⟨_, rfl⟩
        rw [← qhpx28]
        have hc29 : hpx28 id1 = (w1, some (.cells 3 (((setD x6 ((x4).toNat * 1) [(.int .i64 (intD ((x6).getD ((x5).toNat * 1) .nil)))])).map (PV.d true)))) := (congrFun qhpx28 id1).trans (upd_eq _ _ _)
        have hlow30 : ∀ id, id < N → id ≠ id1 → hpx28 id = hp id := fun id hid nid1 => (congrFun qhpx28 id).trans ((upd_ne _ _ nid1).trans (hlow11 id hid nid1))
        clear qhpx28
        refine goA_nil ?_
        rw [hKd19]
        refine ⟨?_, goOps_goL ?_⟩
        · simp [objsW, objsY] <;> omega
        obtain ⟨g31, H⟩ := gd_out H
        refine goL_s (st_ia_o el_22 sz_3 (by decide) rfl (hpL_low' hid1 hc29) rfl g31) rfl ?_
        obtain ⟨g32, H⟩ := gd_out H
        refine goL_c0 (st_sto (x := (PV.d true (.int .i64 (intD ((x6).getD ((x4).toNat * 1) .nil))))) (cs := ([(.int .i64 (intD ((x6).getD ((x4).toNat * 1) .nil)))] : List PD).map (PV.d true)) (row := ((setD x6 ((x4).toNat * 1) [(.int .i64 (intD ((x6).getD ((x5).toNat * 1) .nil)))])).map (PV.d true)) ty_3 rfl (hpL_low' hid1 hc29) rfl rfl rfl (by rw [List.length_map]; exact g32) ⟨rfl, trivial⟩ row_setD) hid1 rfl ?_
        obtain ⟨hpx33, qhpx33⟩ : ∃ h, h = (upd hpx28 id1 (w1, some (.cells 3 (((setD (setD x6 ((x4).toNat * 1) [(.int .i64 (intD ((x6).getD ((x5).toNat * 1) .nil)))]) ((x5).toNat * 1) [(.int .i64 (intD ((x6).getD ((x4).toNat * 1) .nil)))])).map (PV.d true))))) := ⟨_, rfl⟩
        rw [← qhpx33]
        have hc34 : hpx33 id1 = (w1, some (.cells 3 (((setD (setD x6 ((x4).toNat * 1) [(.int .i64 (intD ((x6).getD ((x5).toNat * 1) .nil)))]) ((x5).toNat * 1) [(.int .i64 (intD ((x6).getD ((x4).toNat * 1) .nil)))])).map (PV.d true)))) := (congrFun qhpx33 id1).trans (upd_eq _ _ _)
        have hlow35 : ∀ id, id < N → id ≠ id1 → hpx33 id = hp id := fun id hid nid1 => (congrFun qhpx33 id).trans ((upd_ne _ _ nid1).trans (hlow30 id hid nid1))
        clear qhpx33
        refine blockA_n ?_
        refine thenA_n ?_
        subst hy18
        refine awp_regionL1 ?_
        refine goL_s (st_mv (v := (PV.d true (.int .i64 x4))) rfl) rfl ?_
        refine goL_s (st_bin rfl rfl rfl rfl trivial) rfl ?_
        refine goL_s (st_mv (v := (PV.d true (.int .i64 x5))) rfl) rfl ?_
        refine goL_s (st_bin rfl rfl rfl rfl trivial) rfl ?_
        refine goL_s (st_as (v := (PV.d true (.int .i64 (IntKind.wrap .i64 (x4 + (1 : Int)))))) rfl) rfl ?_
        refine goL_s (st_as (v := (PV.d true (.int .i64 (IntKind.wrap .i64 (x5 - (1 : Int)))))) rfl) rfl ?_
        refine thenA_n ?_
        refine ⟨m1, Nat.lt_succ_self _, ?_⟩
        unfold J54_1
        exact ⟨_, (IntKind.wrap .i64 (x4 + (1 : Int))), (IntKind.wrap .i64 (x5 - (1 : Int))), (setD (setD x6 ((x4).toNat * 1) [(.int .i64 (intD ((x6).getD ((x5).toNat * 1) .nil)))]) ((x5).toNat * 1) [(.int .i64 (intD ((x6).getD ((x4).toNat * 1) .nil)))]), Gh.join ⟨rfl, rfl, rfl, trivial⟩ trivial, fun id hid nid1 => (hpL_low hid).trans (hlow35 id hid nid1), (hpL_low hid1).trans hc34, H⟩
      · replace H := cond_f H hb16
        subst hy17
        refine awp_exit ?_
        refine thenA_e ?_
        refine thenA_e ?_
        refine blockA_h ?_
        obtain rfl := Option.some.inj H
        refine retn (ds := []) (by decide) ResL.nil (hp2 := (upd hp id1 (w1, some (.cells 3 ((x6).map (PV.d true)))))) ?_ ?_ (lowOK_also lowOK_same (locs_R _)) ⟨rfl, rfl⟩ (.inl rfl)
        · intro id hid
          by_cases nid1 : id = id1
          · rw [nid1]; exact (hpL_low hid1).trans (hc13.trans (Eq.symm (upd_eq _ _ _)))
          exact (hpL_low hid).trans ((hlow11 id hid nid1).trans (Eq.symm ((upd_ne _ _ nid1).trans (rfl))))
        · intro id hid; exact (upd_ne _ _ (fun e => absurd hid1 (by omega))).trans (rfl)

def F39_L1 (x1 : PD) (n : Nat) : Nat → Int → Nat → List PD → Option (PD)
  | 0, _, _, _ => none
  | m1 + 1, x4, x5, x7 =>
    gd ((apOK 8 (x5 + 1)) ∧ (x5 * 1 = (x7).length)) <|
    gd (idxOK 1 x1 x4) <|
    gd ((1 ≤ (((cellsD x1).drop ((x4).toNat * 1))).length) ∧ (isI .i64 ((((cellsD x1).drop ((x4).toNat * 1))).getD 0 .nil) = true)) <|
    bif (decide ((0 : Int) ≤ (intD ((((cellsD x1).drop ((x4).toNat * 1))).getD 0 .nil)))) then
      (F39_L1 x1 n m1) (intD ((((cellsD x1).drop ((x4).toNat * 1))).getD 0 .nil)) (x5 + 1) (x7 ++ ([(.int .i64 x4)] : List PD))
    else
      bd (F54 n (x5 + 1) (x7 ++ ([(.int .i64 x4)] : List PD))) fun x29 =>
      gd ((x5 + 1) * 1 = (x29).length) <|
      some (.lst (x5 + 1) x29)

def J39_1 (C : Ctx) (N : Nat) (hp : HP) (x1 : PD) (n : Nat) (rr : PD) (mm : Nat) (s : ASt) : Prop :=
  ∃ (hpx : HP) (v6 : Nat) (x4 : Int) (x5 : Nat) (x7 : List PD), Gh C s ⟨envL [(0, (PV.d true x1)), (1, (PV.d true (.int .i64 x4))), (5, (PV.own (N + 9) v6 0 x5))], hpL N hpx [(9, (v6, some (.cells 3 ((x7).map (PV.d true)))))]⟩ ∧ (∀ id, id < N → hpx id = hp id) ∧ F39_L1 x1 n mm x4 x5 x7 = some rr

def F39 (n : Nat) (x1 : PD) (x2 : Int) : Option (PD) :=
  F39_L1 x1 n n x2 0 ([] : List PD)

set_option maxHeartbeats 4000000 in
theorem f39_calls {n : Nat} {x1 : PD} {x2 : Int} {r : PD} (H : F39 n x1 x2 = some r) (N : Nat) (hp : HP) : ACalls Try.prog 39 N [(PV.d true x1), (PV.d true (.int .i64 x2))] hp fun r' hp' => r' = (PV.d true r) ∧ hp' = hp := by
  unfold F39 at H
  refine acalls_body Try.func39 rfl rfl Try.ntmps39 (by simp) fun X hX => ?_
  refine awp_start (l := [(0, (PV.d true x1)), (1, (PV.d true (.int .i64 x2)))]) (N := N) ⟨rfl, rfl, trivial⟩ ?_
  have hlow0 : ∀ id, id < N → hp id = hp id := fun _ _ => rfl
  refine awp_regionL fun y3 hy3 => ?_
  refine goL_s (st_as (v := (PV.d true .nil)) rfl) rfl ?_
  subst hy3
  refine awp_scope_seq 0 (J39_1 (mkC 19 N Try.prog hp X) N hp x1 n r) rfl ?_ ?_
  · refine awp_regionL1 ?_
    refine goL_s (st_as (v := (PV.d true .nil)) rfl) rfl ?_
    refine thenA_n ?_
    refine ⟨n, ?_⟩
    unfold J39_1
    exact ⟨_, _, x2, 0, ([] : List PD), ((Gh.virtE (t := 5) (d := 9) 3 (Nat.add_lt_add_left (show 9 < 19 by decide) N) rfl).trans (Gh.join ⟨rfl, rfl, rfl, trivial⟩ ⟨hpL_hit, trivial⟩)), fun id hid => (hpL_low hid).trans (hlow0 id hid), H⟩
  · intro m1 s hJ
    unfold J39_1 at hJ
    obtain ⟨hpx12, v6, x4, x5, x7, hG14, hlow13, H⟩ := hJ
    cases m1 with
    | zero => cases H
    | succ m1 =>
      rw [F39_L1] at H
      refine awp_gh hG14 ?_
      clear hG14
      refine awp_regionL fun y15 hy15 => ?_
      refine goL_s (st_mv (v := (PV.own (N + 9) v6 0 x5)) rfl) rfl ?_
      refine goL_s (st_mv (v := (PV.d true (.int .i64 x4))) rfl) rfl ?_
      refine goL_n (d' := 8) (st_bs1 (x := (PV.d true (.int .i64 x4))) (cs := [(PV.d true (.int .i64 x4))]) el_22 ze_3 sz_3 (by decide) rfl (by decide) rfl rfl rfl ⟨rfl, trivial⟩) rfl fun v16 => ?_
      obtain ⟨⟨g17, g18⟩, H⟩ := gd_out H
      refine goL_n (d' := 9) (st_ap_o (row := (x7).map (PV.d true)) (news := (([(.int .i64 x4)] : List PD)).map (PV.d true)) (m := 1) (vy := (PV.own (N + 8) v16 0 1)) el_22 ze_3 sz_3 by_3 (by decide) rfl rfl (hpL_miss rfl hpL_hit) rfl (src_own sz_3 hpL_hit rfl) g17 (by rw [List.length_map]; exact g18) (app_D _ _)) rfl fun v19 => ?_
      refine goL_s (st_as (v := (PV.own (N + 9) v19 0 (x5 + 1))) rfl) rfl ?_
      subst hy15
      refine awp_hide fun y20 hy20 => ?_
      refine awp_regionL fun y21 hy21 => ?_
      refine goL_s (st_mv (v := (PV.d true x1)) rfl) rfl ?_
      refine goL_s (st_mv (v := (PV.d true (.int .i64 x4))) rfl) rfl ?_
      obtain ⟨g22, H⟩ := gd_out H
      refine goL_s (st_ia_d el_22 sz_3 (by decide) (y := x1) rfl rfl g22) rfl ?_
      obtain ⟨⟨g23, g24⟩, H⟩ := gd_out H
      refine goL_s (st_ld_lp ty_3 rfl g23 (cI g24)) rfl ?_
      refine goL_s (st_as (v := (PV.d true (.int .i64 (intD ((((cellsD x1).drop ((x4).toNat * 1))).getD 0 .nil))))) rfl) rfl ?_
      subst hy21
      refine awp_regionL fun y25 hy25 => ?_
      refine goL_s (st_mv (v := (PV.d true (.int .i64 (intD ((((cellsD x1).drop ((x4).toNat * 1))).getD 0 .nil))))) rfl) rfl ?_
      refine goL_s (st_bin rfl rfl rfl rfl trivial) rfl ?_
      subst hy25
      refine awp_ifL (b := (decide ((0 : Int) ≤ (intD ((((cellsD x1).drop ((x4).toNat * 1))).getD 0 .nil))))) rfl (fun y27 hy27 hb26 => ?_) (fun y27 hy27 hb26 => ?_)
      · replace H := cond_t H hb26
        subst hy27
        refine awp_goto ?_
        refine thenA_g ?_
        refine jumpA_h ?_
        refine ⟨m1, Nat.lt_succ_self _, ?_⟩
        unfold J39_1
        exact ⟨_, v19, (intD ((((cellsD x1).drop ((x4).toNat * 1))).getD 0 .nil)), (x5 + 1), (x7 ++ ([(.int .i64 x4)] : List PD)), Gh.join ⟨rfl, rfl, rfl, trivial⟩ ⟨hpL_hit, trivial⟩, fun id hid => (hpL_low hid).trans (hlow13 id hid), H⟩
      · replace H := cond_f H hb26
        subst hy27
        refine awp_skip ?_
        refine thenA_n ?_
        subst hy20
        refine awp_regionL fun y28 hy28 => ?_
        refine goL_s (st_mv (v := (PV.own (N + 9) v19 0 (x5 + 1))) rfl) rfl ?_
        obtain ⟨x29, c30, H⟩ := bd_out H
        refine goL_cg (U := Unit) (args' := [(PV.own (N + 9) v19 0 (x5 + 1))]) (r := fun _ => (PV.d true (.tup []))) (h' := fun _ => (upd (hpL N hpx12 _) (N + 9) (v19, some (.cells 3 ((x29).map (PV.d true)))))) rfl rfl ⟨Wk.refl, trivial⟩ enter_54 rfl (ACalls.mono (f54_calls c30 (N + 19) _ (show (N + 9) < N + 19 from Nat.add_lt_add_left (by decide) N) hpL_hit) (fun r' hp' ⟨h1, h2⟩ => ⟨(), h1, h2⟩)) fun _ => ?_
        refine goL_hp (h' := hpL N hpx12 ((9, (v19, some (.cells 3 ((x29).map (PV.d true))))) :: _)) rfl ?_
        subst hy28
        refine awp_regionL fun y31 hy31 => ?_
        refine goL_s (st_mv (v := (PV.own (N + 9) v19 0 (x5 + 1))) rfl) rfl ?_
        refine goL_s (st_as (v := (PV.own (N + 9) v19 0 (x5 + 1))) rfl) rfl ?_
        subst hy31
        obtain ⟨g32, H⟩ := gd_out H
        refine awp_frzs [5, 9, 16, 18, 4] (R := x29) hX ⟨rfl, rfl, rfl, rfl, rfl, trivial⟩ hpL_hit (toDs_true _) (mul_sz sz_3 g32) ?_
        refine awp_ret ?_
        refine jumpA_r ?_
        obtain rfl := Option.some.inj H
        exact ret1 (res_t (x := (PV.d true (.lst (x5 + 1) x29))) (d := (.lst (x5 + 1) x29)) rfl rfl) (fun id hid => (hpL_low hid).trans (hlow13 id hid)) (fun _ _ => rfl) lowOK_same ⟨rfl, rfl⟩ (.inr rfl)

def F53 (n : Nat) (x1 : Int) (x2 : Int) (x3 : Int) (x4 : Nat) (x5 : List PD) : Option (Bool × Nat × (List PD)) :=
  gd ((apOK 8 (x4 + 1)) ∧ (x4 * 1 = (x5).length)) <|
  some (true, (x4 + 1), (x5 ++ ([(.int .i64 x2)] : List PD)))

set_option maxHeartbeats 4000000 in
theorem f53_calls {n : Nat} {x1 : Int} {x2 : Int} {x3 : Int} {x4 : Nat} {x5 : List PD} {r : Bool × Nat × (List PD)} (H : F53 n x1 x2 x3 x4 x5 = some r) (N : Nat) (hp : HP) {id1 w1 : Nat} {id2 w2 : Nat} (hid1 : id1 < N) (ho1 : hp id1 = (w1, some (.cells 22 [(PV.own id2 w2 0 x4)]))) (hid2 : id2 < N) (ho2 : hp id2 = (w2, some (.cells 3 ((x5).map (PV.d true))))) (hn1_2 : id1 ≠ id2) : ACalls Try.prog 53 N [(PV.d true (.int .i64 x1)), (PV.d true (.int .i64 x2)), (PV.d true (.int .i64 x3)), (PV.ptr id1 w1 0)] hp fun r' hp' => ∃ u2 : Nat, r' = (PV.d true (.bool r.1)) ∧ hp' = (upd (upd hp id1 (w1, some (.cells 22 [(PV.own id2 u2 0 r.2.1)]))) id2 (u2, some (.cells 3 ((r.2.2).map (PV.d true))))) := by
  unfold F53 at H
  refine acalls_body Try.func53 rfl rfl Try.ntmps53 (by simp) fun X hX => ?_
  refine awp_start (l := [(0, (PV.d true (.int .i64 x1))), (1, (PV.d true (.int .i64 x2))), (2, (PV.d true (.int .i64 x3))), (3, (PV.ptr id1 w1 0))]) (N := N) ⟨rfl, rfl, rfl, rfl, trivial⟩ ?_
  have hlow0 : ∀ id, id < N → id ≠ id1 → id ≠ id2 → hp id = hp id := fun _ _ _ _ => rfl
  refine awp_regionL fun y6 hy6 => ?_
  refine goL_s (st_as (v := (PV.d true (.bool false))) rfl) rfl ?_
  subst hy6
  refine awp_regionL fun y7 hy7 => ?_
  refine goL_s (st_ld_p (c := (PV.own id2 w2 0 x4)) ty_22 rfl (hpL_low' hid1 ho1) rfl) rfl ?_
  refine goL_s (st_mv (v := (PV.d true (.int .i64 x2))) rfl) rfl ?_
  refine goL_n (d' := 10) (st_bs1 (x := (PV.d true (.int .i64 x2))) (cs := [(PV.d true (.int .i64 x2))]) el_22 ze_3 sz_3 (by decide) rfl (by decide) rfl rfl rfl ⟨rfl, trivial⟩) rfl fun v8 => ?_
  obtain ⟨⟨g9, g10⟩, H⟩ := gd_out H
  refine goL_nc (st_ap_o (row := (x5).map (PV.d true)) (news := (([(.int .i64 x2)] : List PD)).map (PV.d true)) (m := 1) (vy := (PV.own (N + 10) v8 0 1)) el_22 ze_3 sz_3 by_3 (by decide) rfl rfl (hpL_low' hid2 ho2) rfl (src_own sz_3 hpL_hit rfl) g9 (by rw [List.length_map]; exact g10) (app_D _ _)) hid2 rfl fun v11 => ?_
  obtain ⟨hpx12, qhpx12⟩ : ∃ h, h = (upd hp id2 (v11, some (.cells 3 (((x5 ++ ([(.int .i64 x2)] : List PD))).map (PV.d true))))) := ⟨_, rfl⟩
  rw [← qhpx12]
  have hc13 : hpx12 id1 = (w1, some (.cells 22 [(PV.own id2 w2 0 x4)])) := (congrFun qhpx12 id1).trans ((upd_ne _ _ hn1_2).trans (ho1))
  have hc14 : hpx12 id2 = (v11, some (.cells 3 (((x5 ++ ([(.int .i64 x2)] : List PD))).map (PV.d true)))) := (congrFun qhpx12 id2).trans (upd_eq _ _ _)
  have hlow15 : ∀ id, id < N → id ≠ id1 → id ≠ id2 → hpx12 id = hp id := fun id hid nid1 nid2 => (congrFun qhpx12 id).trans ((upd_ne _ _ nid2).trans (hlow0 id hid nid1 nid2))
  clear qhpx12
  refine goL_c0 (st_sto (x := (PV.own id2 v11 0 (x4 + 1))) (cs := [(PV.own id2 v11 0 (x4 + 1))]) (row' := [(PV.own id2 v11 0 (x4 + 1))]) ty_22 rfl (hpL_low' hid1 hc13) rfl rfl rfl (Nat.le_of_ble_eq_true rfl) ⟨fits_o (hpL_low' hid2 hc14), trivial⟩ rfl) hid1 rfl ?_
  obtain ⟨hpx16, qhpx16⟩ : ∃ h, h = (upd hpx12 id1 (w1, some (.cells 22 [(PV.own id2 v11 0 (x4 + 1))]))) := ⟨_, rfl⟩
  rw [← qhpx16]
  have hc17 : hpx16 id1 = (w1, some (.cells 22 [(PV.own id2 v11 0 (x4 + 1))])) := (congrFun qhpx16 id1).trans (upd_eq _ _ _)
  have hc18 : hpx16 id2 = (v11, some (.cells 3 (((x5 ++ ([(.int .i64 x2)] : List PD))).map (PV.d true)))) := (congrFun qhpx16 id2).trans ((upd_ne _ _ (Ne.symm hn1_2)).trans (hc14))
  have hlow19 : ∀ id, id < N → id ≠ id1 → id ≠ id2 → hpx16 id = hp id := fun id hid nid1 nid2 => (congrFun qhpx16 id).trans ((upd_ne _ _ nid1).trans (hlow15 id hid nid1 nid2))
  clear qhpx16
  subst hy7
  refine awp_regionL fun y20 hy20 => ?_
  refine goL_s (st_as (v := (PV.d true (.bool true))) rfl) rfl ?_
  subst hy20
  refine awp_ret ?_
  obtain rfl := Option.some.inj H
  refine ret1 (res_t (x := (PV.d true (.bool true))) (d := (.bool true)) rfl rfl) (hp2 := (upd (upd hp id1 (w1, some (.cells 22 [(PV.own id2 v11 0 (x4 + 1))]))) id2 (v11, some (.cells 3 (((x5 ++ ([(.int .i64 x2)] : List PD))).map (PV.d true)))))) ?_ ?_ (lowOK_also (lowOK_also lowOK_same ⟨hid2, trivial⟩) (locs_R _)) ⟨v11, rfl, rfl⟩ (.inr rfl)
  · intro id hid
    by_cases nid1 : id = id1
    · rw [nid1]; exact (hpL_low hid1).trans (hc17.trans (Eq.symm ((upd_ne _ _ hn1_2).trans (upd_eq _ _ _))))
    by_cases nid2 : id = id2
    · rw [nid2]; exact (hpL_low hid2).trans (hc18.trans (Eq.symm (upd_eq _ _ _)))
    exact (hpL_low hid).trans ((hlow19 id hid nid1 nid2).trans (Eq.symm ((upd_ne _ _ nid2).trans ((upd_ne _ _ nid1).trans (rfl)))))
  · intro id hid; exact (upd_ne _ _ (fun e => absurd hid2 (by omega))).trans ((upd_ne _ _ (fun e => absurd hid1 (by omega))).trans (rfl))

def F52_K2 (lo1 : Nat → Int → Nat → List PD → List PD → Option (Bool × Nat × (List PD))) (x11 : Int) (x33 : Nat) (x34 : Nat) (x36 : List PD) (x38 : List PD) : Option (Bool × Nat × (List PD)) :=
  lo1 x33 (IntKind.wrap .i64 (x11 + (1 : Int))) x34 x36 x38

def J52_2 (C : Ctx) (N : Nat) (hp : HP) (id1 w1 : Nat) (id2 w2 : Nat) (lo1 : Nat → Int → Nat → List PD → List PD → Option (Bool × Nat × (List PD))) (x11 : Int) (x1 : PD) (rr : Bool × Nat × (List PD)) (s : ASt) : Prop :=
  ∃ (hpx : HP) (v35 v37 : Nat) (x33 : Nat) (x34 : Nat) (x36 : List PD) (x38 : List PD), Gh C s ⟨envL [(1, (PV.fn 53 [] [(PV.ptr id1 w1 0)])), (4, (PV.d true (.bool false))), (5, (PV.own (N + 72) v35 0 x33)), (12, (PV.d true x1)), (13, (PV.d true (.int .i64 (lenN x1 : Int)))), (14, (PV.d true (.int .i64 x11)))], hpL N hpx [(72, (v35, some (.cells 126 ((x36).map (PV.d true)))))]⟩ ∧ (∀ id, id < N → id ≠ id1 → id ≠ id2 → hpx id = hp id) ∧ hpx id1 = (w1, some (.cells 22 [(PV.own id2 v37 0 x34)])) ∧ hpx id2 = (v37, some (.cells 3 ((x38).map (PV.d true)))) ∧ F52_K2 lo1 x11 x33 x34 x36 x38 = some rr

def F52_K5 (n : Nat) (x11 : Int) (x57 : Nat) (x12 : Nat) (x16 : List PD) (x1 : PD) (lo1 : Nat → Int → Nat → List PD → List PD → Option (Bool × Nat × (List PD))) (x86 : Int) (x88 : List PD) : Option (Bool × Nat × (List PD)) :=
  bd (F53 n x11 x86 (x57 : Int) x12 x16) fun x98 =>
  bif (!x98.1) then
    some (false, x98.2.1, x98.2.2)
  else
    bif ((intD ((((cellsD x1).drop ((x11).toNat * 4))).getD 2 .nil)) == (0 : Int)) then
      gd ((apOK 16 (x57 + 1)) ∧ (x57 * 2 = (x88).length)) <|
      F52_K2 lo1 x11 (x57 + 1) x98.2.1 (x88 ++ ([(.int .i64 x11), (.int .i64 (intD ((((cellsD x1).drop ((x11).toNat * 4))).getD 3 .nil)))] : List PD)) x98.2.2
    else
      F52_K2 lo1 x11 x57 x98.2.1 x88 x98.2.2

def J52_5 (C : Ctx) (N : Nat) (hp : HP) (id1 w1 : Nat) (id2 w2 : Nat) (n : Nat) (x11 : Int) (x57 : Nat) (x12 : Nat) (x16 : List PD) (x1 : PD) (lo1 : Nat → Int → Nat → List PD → List PD → Option (Bool × Nat × (List PD))) (rr : Bool × Nat × (List PD)) (s : ASt) : Prop :=
  ∃ (hpx : HP) (v87 v89 v90 : Nat) (x86 : Int) (x88 : List PD), Gh C s ⟨envL [(1, (PV.fn 53 [] [(PV.ptr id1 w1 0)])), (4, (PV.d true (.bool false))), (5, (PV.own (N + 72) v87 0 x57)), (6, (PV.d true (.int .i64 x11))), (7, (PV.ptr (N + 7) v89 0)), (8, (PV.d true (.int .i64 x86))), (12, (PV.d true x1)), (13, (PV.d true (.int .i64 (lenN x1 : Int)))), (14, (PV.d true (.int .i64 x11)))], hpL N hpx [(72, (v87, some (.cells 126 ((x88).map (PV.d true))))), (7, (v89, some (.cells 61 [(PV.d true (.str (strD ((((cellsD x1).drop ((x11).toNat * 4))).getD 0 .nil)))), (PV.d true (.int .i64 (intD ((((cellsD x1).drop ((x11).toNat * 4))).getD 1 .nil)))), (PV.d true (.int .i64 (intD ((((cellsD x1).drop ((x11).toNat * 4))).getD 2 .nil)))), (PV.d true (.int .i64 (intD ((((cellsD x1).drop ((x11).toNat * 4))).getD 3 .nil))))])))]⟩ ∧ (∀ id, id < N → id ≠ id1 → id ≠ id2 → hpx id = hp id) ∧ hpx id1 = (w1, some (.cells 22 [(PV.own id2 v90 0 x12)])) ∧ hpx id2 = (v90, some (.cells 3 ((x16).map (PV.d true)))) ∧ F52_K5 n x11 x57 x12 x16 x1 lo1 x86 x88 = some rr

def F52_K4 (x57 : Nat) (lo3 : Nat → List PD → Option (Bool × Nat × (List PD))) (x59 : List PD) (n : Nat) (x11 : Int) (x12 : Nat) (x16 : List PD) (x1 : PD) (lo1 : Nat → Int → Nat → List PD → List PD → Option (Bool × Nat × (List PD))) (x73 : Bool) : Option (Bool × Nat × (List PD)) :=
  bif x73 then
    gd (0 ≤ (0 : Int) ∧ (0 : Int) ≤ (IntKind.wrap .i64 ((x57 : Int) - (1 : Int))) ∧ (IntKind.wrap .i64 ((x57 : Int) - (1 : Int))) ≤ (x57 : Nat)) <|
    lo3 ((IntKind.wrap .i64 ((x57 : Int) - (1 : Int)))).toNat ((x59).take (((IntKind.wrap .i64 ((x57 : Int) - (1 : Int)))).toNat * 2))
  else
    bif (decide ((0 : Int) < (x57 : Int))) then
      gd (0 ≤ (IntKind.wrap .i64 ((x57 : Int) - (1 : Int))) ∧ (IntKind.wrap .i64 ((x57 : Int) - (1 : Int))) < (x57 : Nat)) <|
      gd (((((IntKind.wrap .i64 ((x57 : Int) - (1 : Int)))).toNat * 2) < (x59).length) ∧ (isI .i64 ((x59).getD (((IntKind.wrap .i64 ((x57 : Int) - (1 : Int)))).toNat * 2) .nil) = true)) <|
      gd (0 ≤ (IntKind.wrap .i64 ((x57 : Int) - (1 : Int))) ∧ (IntKind.wrap .i64 ((x57 : Int) - (1 : Int))) < (x57 : Nat)) <|
      gd ((((((IntKind.wrap .i64 ((x57 : Int) - (1 : Int)))).toNat * 2) + 1) < (x59).length) ∧ (isI .i64 ((x59).getD ((((IntKind.wrap .i64 ((x57 : Int) - (1 : Int)))).toNat * 2) + 1) .nil) = true)) <|
      gd (0 ≤ (IntKind.wrap .i64 ((x57 : Int) - (1 : Int))) ∧ (IntKind.wrap .i64 ((x57 : Int) - (1 : Int))) < (x57 : Nat)) <|
      gd (((((IntKind.wrap .i64 ((x57 : Int) - (1 : Int)))).toNat * 2) + 1) + 1 ≤ (x59).length) <|
      F52_K5 n x11 x57 x12 x16 x1 lo1 (intD ((x59).getD (((IntKind.wrap .i64 ((x57 : Int) - (1 : Int)))).toNat * 2) .nil)) (setD x59 ((((IntKind.wrap .i64 ((x57 : Int) - (1 : Int)))).toNat * 2) + 1) [(.int .i64 (IntKind.wrap .i64 ((intD ((x59).getD ((((IntKind.wrap .i64 ((x57 : Int) - (1 : Int)))).toNat * 2) + 1) .nil)) - (1 : Int))))])
    else
      F52_K5 n x11 x57 x12 x16 x1 lo1 ((-1) : Int) x59

def J52_4 (C : Ctx) (N : Nat) (hp : HP) (id1 w1 : Nat) (id2 w2 : Nat) (x57 : Nat) (lo3 : Nat → List PD → Option (Bool × Nat × (List PD))) (x59 : List PD) (n : Nat) (x11 : Int) (x12 : Nat) (x16 : List PD) (x1 : PD) (lo1 : Nat → Int → Nat → List PD → List PD → Option (Bool × Nat × (List PD))) (rr : Bool × Nat × (List PD)) (s : ASt) : Prop :=
  ∃ (hpx : HP) (v74 v75 v76 : Nat) (x73 : Bool), Gh C s ⟨envL [(1, (PV.fn 53 [] [(PV.ptr id1 w1 0)])), (4, (PV.d true (.bool false))), (5, (PV.own (N + 72) v74 0 x57)), (6, (PV.d true (.int .i64 x11))), (7, (PV.ptr (N + 7) v75 0)), (12, (PV.d true x1)), (13, (PV.d true (.int .i64 (lenN x1 : Int)))), (14, (PV.d true (.int .i64 x11))), (31, (PV.d true (.bool x73)))], hpL N hpx [(72, (v74, some (.cells 126 ((x59).map (PV.d true))))), (7, (v75, some (.cells 61 [(PV.d true (.str (strD ((((cellsD x1).drop ((x11).toNat * 4))).getD 0 .nil)))), (PV.d true (.int .i64 (intD ((((cellsD x1).drop ((x11).toNat * 4))).getD 1 .nil)))), (PV.d true (.int .i64 (intD ((((cellsD x1).drop ((x11).toNat * 4))).getD 2 .nil)))), (PV.d true (.int .i64 (intD ((((cellsD x1).drop ((x11).toNat * 4))).getD 3 .nil))))])))]⟩ ∧ (∀ id, id < N → id ≠ id1 → id ≠ id2 → hpx id = hp id) ∧ hpx id1 = (w1, some (.cells 22 [(PV.own id2 v76 0 x12)])) ∧ hpx id2 = (v76, some (.cells 3 ((x16).map (PV.d true)))) ∧ F52_K4 x57 lo3 x59 n x11 x12 x16 x1 lo1 x73 = some rr

def F52_L3 (n : Nat) (x11 : Int) (x12 : Nat) (x16 : List PD) (x1 : PD) (lo1 : Nat → Int → Nat → List PD → List PD → Option (Bool × Nat × (List PD))) : Nat → Nat → List PD → Option (Bool × Nat × (List PD))
  | 0, _, _ => none
  | m3 + 1, x57, x59 =>
    bif (decide ((0 : Int) < (x57 : Int))) then
      gd (0 ≤ (IntKind.wrap .i64 ((x57 : Int) - (1 : Int))) ∧ (IntKind.wrap .i64 ((x57 : Int) - (1 : Int))) < (x57 : Nat)) <|
      gd ((((((IntKind.wrap .i64 ((x57 : Int) - (1 : Int)))).toNat * 2) + 1) < (x59).length) ∧ (isI .i64 ((x59).getD ((((IntKind.wrap .i64 ((x57 : Int) - (1 : Int)))).toNat * 2) + 1) .nil) = true)) <|
      F52_K4 x57 (F52_L3 n x11 x12 x16 x1 lo1 m3) x59 n x11 x12 x16 x1 lo1 (decide ((intD ((x59).getD ((((IntKind.wrap .i64 ((x57 : Int) - (1 : Int)))).toNat * 2) + 1) .nil)) ≤ (0 : Int)))
    else
      F52_K4 x57 (F52_L3 n x11 x12 x16 x1 lo1 m3) x59 n x11 x12 x16 x1 lo1 false

def J52_3 (C : Ctx) (N : Nat) (hp : HP) (id1 w1 : Nat) (id2 w2 : Nat) (n : Nat) (x11 : Int) (x12 : Nat) (x16 : List PD) (x1 : PD) (lo1 : Nat → Int → Nat → List PD → List PD → Option (Bool × Nat × (List PD))) (rr : Bool × Nat × (List PD)) (mm : Nat) (s : ASt) : Prop :=
  ∃ (hpx : HP) (v58 v60 v61 : Nat) (x57 : Nat) (x59 : List PD), Gh C s ⟨envL [(1, (PV.fn 53 [] [(PV.ptr id1 w1 0)])), (4, (PV.d true (.bool false))), (5, (PV.own (N + 72) v58 0 x57)), (6, (PV.d true (.int .i64 x11))), (7, (PV.ptr (N + 7) v60 0)), (12, (PV.d true x1)), (13, (PV.d true (.int .i64 (lenN x1 : Int)))), (14, (PV.d true (.int .i64 x11)))], hpL N hpx [(72, (v58, some (.cells 126 ((x59).map (PV.d true))))), (7, (v60, some (.cells 61 [(PV.d true (.str (strD ((((cellsD x1).drop ((x11).toNat * 4))).getD 0 .nil)))), (PV.d true (.int .i64 (intD ((((cellsD x1).drop ((x11).toNat * 4))).getD 1 .nil)))), (PV.d true (.int .i64 (intD ((((cellsD x1).drop ((x11).toNat * 4))).getD 2 .nil)))), (PV.d true (.int .i64 (intD ((((cellsD x1).drop ((x11).toNat * 4))).getD 3 .nil))))])))]⟩ ∧ (∀ id, id < N → id ≠ id1 → id ≠ id2 → hpx id = hp id) ∧ hpx id1 = (w1, some (.cells 22 [(PV.own id2 v61 0 x12)])) ∧ hpx id2 = (v61, some (.cells 3 ((x16).map (PV.d true)))) ∧ F52_L3 n x11 x12 x16 x1 lo1 mm x57 x59 = some rr

def F52_K7 (lo6 : Bool → Int → Option (Bool × Nat × (List PD))) (x137 : Int) (x153 : Bool) : Option (Bool × Nat × (List PD)) :=
  lo6 x153 (IntKind.wrap .i64 (x137 + (1 : Int)))

def J52_7 (C : Ctx) (N : Nat) (hp : HP) (id1 w1 : Nat) (id2 w2 : Nat) (lo6 : Bool → Int → Option (Bool × Nat × (List PD))) (x137 : Int) (x10 : Nat) (x14 : List PD) (x12 : Nat) (x16 : List PD) (rr : Bool × Nat × (List PD)) (s : ASt) : Prop :=
  ∃ (hpx : HP) (v154 v155 : Nat) (x153 : Bool), Gh C s ⟨envL [(4, (PV.d true (.bool x153))), (74, (PV.own (N + 72) v154 0 x10)), (75, (PV.d true (.int .i64 (x10 : Int)))), (76, (PV.d true (.int .i64 x137)))], hpL N hpx [(72, (v154, some (.cells 126 ((x14).map (PV.d true)))))]⟩ ∧ (∀ id, id < N → id ≠ id1 → id ≠ id2 → hpx id = hp id) ∧ hpx id1 = (w1, some (.cells 22 [(PV.own id2 v155 0 x12)])) ∧ hpx id2 = (v155, some (.cells 3 ((x16).map (PV.d true)))) ∧ F52_K7 lo6 x137 x153 = some rr

def F52_L6 (x10 : Nat) (x14 : List PD) (x12 : Nat) (x16 : List PD) : Nat → Bool → Int → Option (Bool × Nat × (List PD))
  | 0, _, _ => none
  | m6 + 1, x136, x137 =>
    bif (decide (x137 < (x10 : Int))) then
      gd (0 ≤ x137 ∧ x137 < (x10 : Nat)) <|
      gd (((x137).toNat * 2) + 2 ≤ (x14).length) <|
      gd ((2 ≤ (((x14).drop ((x137).toNat * 2))).length) ∧ (isI .i64 ((((x14).drop ((x137).toNat * 2))).getD 0 .nil) = true) ∧ (isI .i64 ((((x14).drop ((x137).toNat * 2))).getD 1 .nil) = true)) <|
      bif x136 then
        F52_K7 (F52_L6 x10 x14 x12 x16 m6) x137 true
      else
        F52_K7 (F52_L6 x10 x14 x12 x16 m6) x137 (decide ((0 : Int) < (intD ((((x14).drop ((x137).toNat * 2))).getD 1 .nil))))
    else
      some (x136, x12, x16)

def J52_6 (C : Ctx) (N : Nat) (hp : HP) (id1 w1 : Nat) (id2 w2 : Nat) (x10 : Nat) (x14 : List PD) (x12 : Nat) (x16 : List PD) (rr : Bool × Nat × (List PD)) (mm : Nat) (s : ASt) : Prop :=
  ∃ (hpx : HP) (v138 v139 : Nat) (x136 : Bool) (x137 : Int), Gh C s ⟨envL [(4, (PV.d true (.bool x136))), (74, (PV.own (N + 72) v138 0 x10)), (75, (PV.d true (.int .i64 (x10 : Int)))), (76, (PV.d true (.int .i64 x137)))], hpL N hpx [(72, (v138, some (.cells 126 ((x14).map (PV.d true)))))]⟩ ∧ (∀ id, id < N → id ≠ id1 → id ≠ id2 → hpx id = hp id) ∧ hpx id1 = (w1, some (.cells 22 [(PV.own id2 v139 0 x12)])) ∧ hpx id2 = (v139, some (.cells 3 ((x16).map (PV.d true)))) ∧ F52_L6 x10 x14 x12 x16 mm x136 x137 = some rr

def F52_L1 (x1 : PD) (n : Nat) : Nat → Nat → Int → Nat → List PD → List PD → Option (Bool × Nat × (List PD))
  | 0, _, _, _, _, _ => none
  | m1 + 1, x10, x11, x12, x14, x16 =>
    bif (decide (x11 < (lenN x1 : Int))) then
      gd (idxOK 4 x1 x11) <|
      gd (4 ≤ (((cellsD x1).drop ((x11).toNat * 4))).length) <|
      gd ((4 ≤ (((cellsD x1).drop ((x11).toNat * 4))).length) ∧ (isS ((((cellsD x1).drop ((x11).toNat * 4))).getD 0 .nil) = true) ∧ (isI .i64 ((((cellsD x1).drop ((x11).toNat * 4))).getD 1 .nil) = true) ∧ (isI .i64 ((((cellsD x1).drop ((x11).toNat * 4))).getD 2 .nil) = true) ∧ (isI .i64 ((((cellsD x1).drop ((x11).toNat * 4))).getD 3 .nil) = true)) <|
      F52_L3 n x11 x12 x16 x1 (F52_L1 x1 n m1) n x10 x14
    else
      F52_L6 x10 x14 x12 x16 n false (0 : Int)

def J52_1 (C : Ctx) (N : Nat) (hp : HP) (id1 w1 : Nat) (id2 w2 : Nat) (x1 : PD) (n : Nat) (rr : Bool × Nat × (List PD)) (mm : Nat) (s : ASt) : Prop :=
  ∃ (hpx : HP) (v13 v15 : Nat) (x10 : Nat) (x11 : Int) (x12 : Nat) (x14 : List PD) (x16 : List PD), Gh C s ⟨envL [(1, (PV.fn 53 [] [(PV.ptr id1 w1 0)])), (4, (PV.d true (.bool false))), (5, (PV.own (N + 72) v13 0 x10)), (12, (PV.d true x1)), (13, (PV.d true (.int .i64 (lenN x1 : Int)))), (14, (PV.d true (.int .i64 x11)))], hpL N hpx [(72, (v13, some (.cells 126 ((x14).map (PV.d true)))))]⟩ ∧ (∀ id, id < N → id ≠ id1 → id ≠ id2 → hpx id = hp id) ∧ hpx id1 = (w1, some (.cells 22 [(PV.own id2 v15 0 x12)])) ∧ hpx id2 = (v15, some (.cells 3 ((x16).map (PV.d true)))) ∧ F52_L1 x1 n mm x10 x11 x12 x14 x16 = some rr

def F52 (n : Nat) (x1 : PD) (x2 : Nat) (x3 : List PD) : Option (Bool × Nat × (List PD)) :=
  gd (isSlD x1 = true) <|
  F52_L1 x1 n n 0 (0 : Int) x2 ([] : List PD) x3

set_option maxHeartbeats 4000000 in
theorem f52_calls {n : Nat} {x1 : PD} {x2 : Nat} {x3 : List PD} {r : Bool × Nat × (List PD)} (H : F52 n x1 x2 x3 = some r) (N : Nat) (hp : HP) {id1 w1 : Nat} {id2 w2 : Nat} (hid1 : id1 < N) (ho1 : hp id1 = (w1, some (.cells 22 [(PV.own id2 w2 0 x2)]))) (hid2 : id2 < N) (ho2 : hp id2 = (w2, some (.cells 3 ((x3).map (PV.d true))))) (hn1_2 : id1 ≠ id2) : ACalls Try.prog 52 N [(PV.d true x1), (PV.fn 53 [] [(PV.ptr id1 w1 0)])] hp fun r' hp' => ∃ u2 : Nat, r' = (PV.d true (.bool r.1)) ∧ hp' = (upd (upd hp id1 (w1, some (.cells 22 [(PV.own id2 u2 0 r.2.1)]))) id2 (u2, some (.cells 3 ((r.2.2).map (PV.d true))))) := by
  unfold F52 at H
  refine acalls_body Try.func52 rfl rfl Try.ntmps52 (by simp) fun X hX => ?_
  refine awp_start (l := [(0, (PV.d true x1)), (1, (PV.fn 53 [] [(PV.ptr id1 w1 0)]))]) (N := N) ⟨rfl, rfl, trivial⟩ ?_
  have hlow0 : ∀ id, id < N → id ≠ id1 → id ≠ id2 → hp id = hp id := fun _ _ _ _ => rfl
  refine awp_regionL fun y4 hy4 => ?_
  refine goL_s (st_as (v := (PV.d true (.bool false))) rfl) rfl ?_
  subst hy4
  refine awp_regionL fun y5 hy5 => ?_
  refine goL_s (st_as (v := (PV.d true .nil)) rfl) rfl ?_
  subst hy5
  refine awp_hide fun y6 hy6 => ?_
  refine awp_regionL fun y7 hy7 => ?_
  refine goL_s (st_mv (v := (PV.d true x1)) rfl) rfl ?_
  obtain ⟨g8, H⟩ := gd_out H
  refine goL_s (st_len_d (id := 0) sl_26 rfl g8) rfl ?_
  refine goL_s (st_mv (v := (PV.d true (.int .i64 (0 : Int)))) rfl) rfl ?_
  subst hy7
  refine awp_block ?_
  refine awp_loop (J52_1 (mkC 88 N Try.prog hp X) N hp id1 w1 id2 w2 x1 n r) n ?_ ?_
  · unfold J52_1
    exact ⟨_, _, w2, 0, (0 : Int), x2, ([] : List PD), x3, ((Gh.virtE (t := 5) (d := 72) 126 (Nat.add_lt_add_left (show 72 < 88 by decide) N) rfl).trans (Gh.join ⟨rfl, rfl, rfl, rfl, rfl, rfl, trivial⟩ ⟨hpL_hit, trivial⟩)), fun id hid nid1 nid2 => (hpL_low hid).trans (hlow0 id hid nid1 nid2), (hpL_low hid1).trans ho1, (hpL_low hid2).trans ho2, H⟩
  · intro m1 s hJ
    unfold J52_1 at hJ
    obtain ⟨hpx24, v13, v15, x10, x11, x12, x14, x16, hG26, hlow25, hc27, hc28, H⟩ := hJ
    cases m1 with
    | zero => cases H
    | succ m1 =>
      rw [F52_L1] at H
      refine awp_gh hG26 ?_
      clear hG26
      refine awp_regionL fun y29 hy29 => ?_
      refine goL_s (st_bin rfl rfl rfl rfl trivial) rfl ?_
      subst hy29
      refine awp_hide fun y30 hy30 => ?_
      refine awp_ifL (b := (decide (x11 < (lenN x1 : Int)))) rfl (fun y32 hy32 hb31 => ?_) (fun y32 hy32 hb31 => ?_)
      · replace H := cond_t H hb31
        subst hy32
        refine awp_skip ?_
        refine thenA_n ?_
        subst hy30
        refine awp_cut (J52_2 (mkC 88 N Try.prog hp X) N hp id1 w1 id2 w2 (F52_L1 x1 n m1) x11 x1 r) ?_ ?_
        · refine awp_block ?_
          refine awp_regionL fun y44 hy44 => ?_
          refine goL_s (st_mv (v := (PV.d true (.int .i64 x11))) rfl) rfl ?_
          obtain ⟨g45, H⟩ := gd_out H
          refine goL_s (st_ia_d el_26 sz_61 (by decide) (y := x1) rfl rfl g45) rfl ?_
          obtain ⟨g46, H⟩ := gd_out H
          refine goL_s (st_ldA_lp ty_61 rfl g46) rfl ?_
          refine goL_n (d' := 7) (st_alloc ze_61) rfl fun v47 => ?_
          refine goL_s (st_as (v := (PV.d true (.int .i64 x11))) rfl) rfl ?_
          obtain ⟨⟨g48, g49, g50, g51, g52⟩, H⟩ := gd_out H
          refine goL_o0 (st_sto (x := (PV.d true (.agg ((((cellsD x1).drop ((x11).toNat * 4))).take 4)))) (cs := [(PV.d true (.str (strD ((((cellsD x1).drop ((x11).toNat * 4))).getD 0 .nil)))), (PV.d true (.int .i64 (intD ((((cellsD x1).drop ((x11).toNat * 4))).getD 1 .nil)))), (PV.d true (.int .i64 (intD ((((cellsD x1).drop ((x11).toNat * 4))).getD 2 .nil)))), (PV.d true (.int .i64 (intD ((((cellsD x1).drop ((x11).toNat * 4))).getD 3 .nil))))]) (row' := [(PV.d true (.str (strD ((((cellsD x1).drop ((x11).toNat * 4))).getD 0 .nil)))), (PV.d true (.int .i64 (intD ((((cellsD x1).drop ((x11).toNat * 4))).getD 1 .nil)))), (PV.d true (.int .i64 (intD ((((cellsD x1).drop ((x11).toNat * 4))).getD 2 .nil)))), (PV.d true (.int .i64 (intD ((((cellsD x1).drop ((x11).toNat * 4))).getD 3 .nil))))]) ty_61 rfl hpL_hit rfl (cells_ad (by rw [ex4 g48, cS g49, cI g50, cI g51, cI g52])) rfl (Nat.le_of_ble_eq_true rfl) ⟨rfl, rfl, rfl, rfl, trivial⟩ rfl) rfl ?_
          subst hy44
          refine awp_hide fun y53 hy53 => ?_
          refine awp_block ?_
          refine awp_loop (J52_3 (mkC 88 N Try.prog hp X) N hp id1 w1 id2 w2 n x11 x12 x16 x1 (F52_L1 x1 n m1) r) n ?_ ?_
          · unfold J52_3
            exact ⟨_, v13, v47, v15, x10, x14, Gh.join ⟨rfl, rfl, rfl, rfl, rfl, rfl, rfl, rfl, trivial⟩ ⟨(hpL_miss rfl (hpL_miss rfl hpL_hit)), hpL_hit, trivial⟩, fun id hid nid1 nid2 => (hpL_low hid).trans (hlow25 id hid nid1 nid2), (hpL_low hid1).trans hc27, (hpL_low hid2).trans hc28, H⟩
          · intro m3 s hJ
            unfold J52_3 at hJ
            obtain ⟨hpx67, v58, v60, v61, x57, x59, hG69, hlow68, hc70, hc71, H⟩ := hJ
            cases m3 with
            | zero => cases H
            | succ m3 =>
              rw [F52_L3] at H
              refine awp_gh hG69 ?_
              clear hG69
              refine awp_hide fun y72 hy72 => ?_
              refine awp_cut (J52_4 (mkC 88 N Try.prog hp X) N hp id1 w1 id2 w2 x57 (F52_L3 n x11 x12 x16 x1 (F52_L1 x1 n m1) m3) x59 n x11 x12 x16 x1 (F52_L1 x1 n m1) r) ?_ ?_
              · refine awp_regionL1 ?_
                refine goL_s (st_mv (v := (PV.own (N + 72) v58 0 x57)) rfl) rfl ?_
                refine goL_s (st_len_o sl_124 rfl hpL_hit) rfl ?_
                refine goL_s (st_bin rfl rfl rfl rfl trivial) rfl ?_
                refine goL_s (st_mv (v := (PV.d true (.bool (decide ((0 : Int) < (x57 : Int)))))) rfl) rfl ?_
                refine goL_fork (decide ((0 : Int) < (x57 : Int))) (fun hb128 => ?_) (fun hb128 => ?_)
                · replace H := cond_t H hb128
                  refine goL_gT rfl rfl hb128 ?_
                  refine goL_s (st_mv (v := (PV.own (N + 72) v58 0 x57)) rfl) rfl ?_
                  refine goL_gT rfl rfl hb128 ?_
                  refine goL_s (st_mv (v := (PV.own (N + 72) v58 0 x57)) rfl) rfl ?_
                  refine goL_gT rfl rfl hb128 ?_
                  refine goL_s (st_len_o sl_124 rfl hpL_hit) rfl ?_
                  refine goL_gT rfl rfl hb128 ?_
                  refine goL_s (st_bin rfl rfl rfl rfl trivial) rfl ?_
                  obtain ⟨g129, H⟩ := gd_out H
                  refine goL_gT rfl rfl hb128 ?_
                  refine goL_s (st_ia_o el_124 sz_126 (by decide) rfl hpL_hit rfl g129) rfl ?_
                  refine goL_gT rfl rfl hb128 ?_
                  refine goL_s (st_fa_p (o' := ((((IntKind.wrap .i64 ((x57 : Int) - (1 : Int)))).toNat * 2) + 1)) fi_126_1 (by decide) rfl hpL_hit rfl) rfl ?_
                  obtain ⟨⟨g130, g131⟩, H⟩ := gd_out H
                  refine goL_gT rfl rfl hb128 ?_
                  refine goL_s (st_ld_p (row := (x59).map (PV.d true)) ty_3 rfl hpL_hit (row_at g130 (cI' g131))) rfl ?_
                  refine goL_gT rfl rfl hb128 ?_
                  refine goL_s (st_bin rfl rfl rfl rfl trivial) rfl ?_
                  refine goL_s (st_pickT (v := (PV.d true (.bool (decide ((intD ((x59).getD ((((IntKind.wrap .i64 ((x57 : Int) - (1 : Int)))).toNat * 2) + 1) .nil)) ≤ (0 : Int)))))) rfl hb128 rfl) rfl ?_
                  refine thenA_n ?_
                  unfold J52_4
                  exact ⟨_, v58, v60, v61, (decide ((intD ((x59).getD ((((IntKind.wrap .i64 ((x57 : Int) - (1 : Int)))).toNat * 2) + 1) .nil)) ≤ (0 : Int))), Gh.join ⟨rfl, rfl, rfl, rfl, rfl, rfl, rfl, rfl, rfl, trivial⟩ ⟨hpL_hit, (hpL_miss rfl hpL_hit), trivial⟩, fun id hid nid1 nid2 => (hpL_low hid).trans (hlow68 id hid nid1 nid2), (hpL_low hid1).trans hc70, (hpL_low hid2).trans hc71, H⟩
                · replace H := cond_f H hb128
                  refine goL_gF rfl rfl hb128 rfl ?_
                  refine goL_gF rfl rfl hb128 rfl ?_
                  refine goL_gF rfl rfl hb128 rfl ?_
                  refine goL_gF rfl rfl hb128 rfl ?_
                  refine goL_gF rfl rfl hb128 rfl ?_
                  refine goL_gF rfl rfl hb128 rfl ?_
                  refine goL_gF rfl rfl hb128 rfl ?_
                  refine goL_gF rfl rfl hb128 rfl ?_
                  refine goL_s (st_pickF (v := (PV.d true (.bool false))) rfl hb128 rfl) rfl ?_
                  refine thenA_n ?_
                  unfold J52_4
                  exact ⟨_, v58, v60, v61, false, Gh.join ⟨rfl, rfl, rfl, rfl, rfl, rfl, rfl, rfl, rfl, trivial⟩ ⟨hpL_hit, (hpL_miss rfl hpL_hit), trivial⟩, fun id hid nid1 nid2 => (hpL_low hid).trans (hlow68 id hid nid1 nid2), (hpL_low hid1).trans hc70, (hpL_low hid2).trans hc71, H⟩
              · intro s hJ
                unfold J52_4 at hJ
                obtain ⟨hpx77, v74, v75, v76, x73, hG79, hlow78, hc80, hc81, H⟩ := hJ
                unfold F52_K4 at H
                refine awp_gh hG79 ?_
                clear hG79
                refine awp_ifL (b := x73) rfl (fun y83 hy83 hb82 => ?_) (fun y83 hy83 hb82 => ?_)
                · replace H := cond_t H hb82
                  subst hy83
                  refine awp_skip ?_
                  refine thenA_n ?_
                  subst hy72
                  refine awp_block ?_
                  refine awp_regionL1 ?_
                  refine goL_s (st_mv (v := (PV.own (N + 72) v74 0 x57)) rfl) rfl ?_
                  refine goL_s (st_mv (v := (PV.own (N + 72) v74 0 x57)) rfl) rfl ?_
                  refine goL_s (st_len_o sl_124 rfl hpL_hit) rfl ?_
                  refine goL_s (st_bin rfl rfl rfl rfl trivial) rfl ?_
                  obtain ⟨g84, H⟩ := gd_out H
                  refine goL_s ((st_sl_front el_124 sz_126 (by decide) rfl hpL_hit rfl g84)) rfl ?_
                  refine goL_s (st_as (v := (PV.own (N + 72) v74 0 ((IntKind.wrap .i64 ((x57 : Int) - (1 : Int)))).toNat)) rfl) rfl ?_
                  refine blockA_n ?_
                  refine thenA_n ?_
                  refine ⟨m3, Nat.lt_succ_self _, ?_⟩
                  unfold J52_3
                  exact ⟨_, v74, v75, v76, ((IntKind.wrap .i64 ((x57 : Int) - (1 : Int)))).toNat, ((x59).take (((IntKind.wrap .i64 ((x57 : Int) - (1 : Int)))).toNat * 2)), ((Gh.truncL (((IntKind.wrap .i64 ((x57 : Int) - (1 : Int)))).toNat * 2) hpL_hit).trans (Gh.join ⟨rfl, rfl, rfl, rfl, rfl, rfl, rfl, rfl, trivial⟩ ⟨hpL_hit, (hpL_miss rfl (hpL_miss rfl hpL_hit)), trivial⟩)), fun id hid nid1 nid2 => (hpL_low hid).trans (hlow78 id hid nid1 nid2), (hpL_low hid1).trans hc80, (hpL_low hid2).trans hc81, H⟩
                · replace H := cond_f H hb82
                  subst hy83
                  refine awp_exit ?_
                  refine thenA_e ?_
                  refine thenA_e ?_
                  refine blockA_h ?_
                  refine thenA_n ?_
                  subst hy53
                  refine awp_regionL fun y85 hy85 => ?_
                  refine goL_s (st_as (v := (PV.d true (.int .i64 ((-1) : Int)))) rfl) rfl ?_
                  subst hy85
                  refine awp_cut (J52_5 (mkC 88 N Try.prog hp X) N hp id1 w1 id2 w2 n x11 x57 x12 x16 x1 (F52_L1 x1 n m1) r) ?_ ?_
                  · refine awp_regionL fun y115 hy115 => ?_
                    refine goL_s (st_mv (v := (PV.own (N + 72) v74 0 x57)) rfl) rfl ?_
                    refine goL_s (st_len_o sl_124 rfl hpL_hit) rfl ?_
                    refine goL_s (st_as (v := (PV.d true (.int .i64 (x57 : Int)))) rfl) rfl ?_
                    subst hy115
                    refine awp_regionL fun y116 hy116 => ?_
                    refine goL_s (st_mv (v := (PV.d true (.int .i64 (x57 : Int)))) rfl) rfl ?_
                    refine goL_s (st_bin rfl rfl rfl rfl trivial) rfl ?_
                    subst hy116
                    refine awp_ifL (b := (decide ((0 : Int) < (x57 : Int)))) rfl (fun y118 hy118 hb117 => ?_) (fun y118 hy118 hb117 => ?_)
                    · replace H := cond_t H hb117
                      subst hy118
                      refine awp_regionL fun y119 hy119 => ?_
                      refine goL_s (st_mv (v := (PV.own (N + 72) v74 0 x57)) rfl) rfl ?_
                      refine goL_s (st_mv (v := (PV.d true (.int .i64 (x57 : Int)))) rfl) rfl ?_
                      refine goL_s (st_bin rfl rfl rfl rfl trivial) rfl ?_
                      obtain ⟨g120, H⟩ := gd_out H
                      refine goL_s (st_ia_o el_124 sz_126 (by decide) rfl hpL_hit rfl g120) rfl ?_
                      refine goL_s (st_fa_p (o' := (((IntKind.wrap .i64 ((x57 : Int) - (1 : Int)))).toNat * 2)) fi_126_0 (by decide) rfl hpL_hit rfl) rfl ?_
                      obtain ⟨⟨g121, g122⟩, H⟩ := gd_out H
                      refine goL_s (st_ld_p (row := (x59).map (PV.d true)) ty_3 rfl hpL_hit (row_at g121 (cI' g122))) rfl ?_
                      refine goL_s (st_as (v := (PV.d true (.int .i64 (intD ((x59).getD (((IntKind.wrap .i64 ((x57 : Int) - (1 : Int)))).toNat * 2) .nil))))) rfl) rfl ?_
                      subst hy119
                      refine awp_regionL1 ?_
                      refine goL_s (st_mv (v := (PV.own (N + 72) v74 0 x57)) rfl) rfl ?_
                      refine goL_s (st_mv (v := (PV.d true (.int .i64 (x57 : Int)))) rfl) rfl ?_
                      refine goL_s (st_bin rfl rfl rfl rfl trivial) rfl ?_
                      obtain ⟨g123, H⟩ := gd_out H
                      refine goL_s (st_ia_o el_124 sz_126 (by decide) rfl hpL_hit rfl g123) rfl ?_
                      refine goL_s (st_fa_p (o' := ((((IntKind.wrap .i64 ((x57 : Int) - (1 : Int)))).toNat * 2) + 1)) fi_126_1 (by decide) rfl hpL_hit rfl) rfl ?_
                      obtain ⟨⟨g124, g125⟩, H⟩ := gd_out H
                      refine goL_s (st_ld_p (row := (x59).map (PV.d true)) ty_3 rfl hpL_hit (row_at g124 (cI' g125))) rfl ?_
                      refine goL_s (st_bin rfl rfl rfl rfl trivial) rfl ?_
                      obtain ⟨g126, H⟩ := gd_out H
                      refine goL_s (st_ia_o el_124 sz_126 (by decide) rfl hpL_hit rfl g126) rfl ?_
                      refine goL_s (st_fa_p (o' := ((((IntKind.wrap .i64 ((x57 : Int) - (1 : Int)))).toNat * 2) + 1)) fi_126_1 (by decide) rfl hpL_hit rfl) rfl ?_
                      obtain ⟨g127, H⟩ := gd_out H
                      refine goL_o0 (st_sto (x := (PV.d true (.int .i64 (IntKind.wrap .i64 ((intD ((x59).getD ((((IntKind.wrap .i64 ((x57 : Int) - (1 : Int)))).toNat * 2) + 1) .nil)) - (1 : Int)))))) (cs := ([(.int .i64 (IntKind.wrap .i64 ((intD ((x59).getD ((((IntKind.wrap .i64 ((x57 : Int) - (1 : Int)))).toNat * 2) + 1) .nil)) - (1 : Int))))] : List PD).map (PV.d true)) (row := (x59).map (PV.d true)) ty_3 rfl hpL_hit rfl rfl rfl (by rw [List.length_map]; exact g127) ⟨rfl, trivial⟩ row_setD) rfl ?_
                      refine thenA_n ?_
                      unfold J52_5
                      exact ⟨_, v74, v75, v76, (intD ((x59).getD (((IntKind.wrap .i64 ((x57 : Int) - (1 : Int)))).toNat * 2) .nil)), (setD x59 ((((IntKind.wrap .i64 ((x57 : Int) - (1 : Int)))).toNat * 2) + 1) [(.int .i64 (IntKind.wrap .i64 ((intD ((x59).getD ((((IntKind.wrap .i64 ((x57 : Int) - (1 : Int)))).toNat * 2) + 1) .nil)) - (1 : Int))))]), Gh.join ⟨rfl, rfl, rfl, rfl, rfl, rfl, rfl, rfl, rfl, trivial⟩ ⟨hpL_hit, (hpL_miss rfl (hpL_miss rfl hpL_hit)), trivial⟩, fun id hid nid1 nid2 => (hpL_low hid).trans (hlow78 id hid nid1 nid2), (hpL_low hid1).trans hc80, (hpL_low hid2).trans hc81, H⟩
                    · replace H := cond_f H hb117
                      subst hy118
                      refine awp_skip ?_
                      refine thenA_n ?_
                      unfold J52_5
                      exact ⟨_, v74, v75, v76, ((-1) : Int), x59, Gh.join ⟨rfl, rfl, rfl, rfl, rfl, rfl, rfl, rfl, rfl, trivial⟩ ⟨hpL_hit, (hpL_miss rfl hpL_hit), trivial⟩, fun id hid nid1 nid2 => (hpL_low hid).trans (hlow78 id hid nid1 nid2), (hpL_low hid1).trans hc80, (hpL_low hid2).trans hc81, H⟩
                  · intro s hJ
                    unfold J52_5 at hJ
                    obtain ⟨hpx91, v87, v89, v90, x86, x88, hG93, hlow92, hc94, hc95, H⟩ := hJ
                    unfold F52_K5 at H
                    refine awp_gh hG93 ?_
                    clear hG93
                    refine awp_hide fun y96 hy96 => ?_
                    refine awp_regionL fun y97 hy97 => ?_
                    refine goL_s (st_mv (v := (PV.fn 53 [] [(PV.ptr id1 w1 0)])) rfl) rfl ?_
                    refine goL_s (st_mv (v := (PV.d true (.int .i64 x11))) rfl) rfl ?_
                    refine goL_s (st_mv (v := (PV.d true (.int .i64 x86))) rfl) rfl ?_
                    refine goL_s (st_mv (v := (PV.own (N + 72) v87 0 x57)) rfl) rfl ?_
                    refine goL_s (st_len_o sl_124 rfl hpL_hit) rfl ?_
                    obtain ⟨x98, c99, H⟩ := bd_out H
                    refine goL_cg (U := Nat) (args' := [(PV.d true (.int .i64 x11)), (PV.d true (.int .i64 x86)), (PV.d true (.int .i64 (x57 : Int))), (PV.ptr id1 w1 0)]) (r := fun u100 => (PV.d true (.bool x98.1))) (h' := fun u100 => (upd (upd (hpL N hpx91 _) id1 (w1, some (.cells 22 [(PV.own id2 u100 0 x98.2.1)]))) id2 (u100, some (.cells 3 ((x98.2.2).map (PV.d true)))))) rfl rfl ⟨Wk.refl, ⟨Wk.refl, ⟨Wk.refl, ⟨Wk.refl, trivial⟩⟩⟩⟩ enter_53 rfl (f53_calls c99 (N + 88) _ (Nat.lt_of_lt_of_le hid1 (Nat.le_add_right _ _)) (hpL_low' hid1 hc94) (Nat.lt_of_lt_of_le hid2 (Nat.le_add_right _ _)) (hpL_low' hid2 hc95) hn1_2) fun u100 => ?_
                    refine goL_hp (by rw [hpL_updlow _ hid1, hpL_updlow _ hid2]) ?_
                    obtain ⟨hpx101, qhpx101⟩ : ∃ h, h = (upd (upd hpx91 id1 (w1, some (.cells 22 [(PV.own id2 u100 0 x98.2.1)]))) id2 (u100, some (.cells 3 ((x98.2.2).map (PV.d true))))) := ⟨_, rfl⟩
                    rw [← qhpx101]
                    have hc102 : hpx101 id1 = (w1, some (.cells 22 [(PV.own id2 u100 0 x98.2.1)])) := (congrFun qhpx101 id1).trans ((upd_ne _ _ hn1_2).trans (upd_eq _ _ _))
                    have hc103 : hpx101 id2 = (u100, some (.cells 3 ((x98.2.2).map (PV.d true)))) := (congrFun qhpx101 id2).trans (upd_eq _ _ _)
                    have hlow104 : ∀ id, id < N → id ≠ id1 → id ≠ id2 → hpx101 id = hp id := fun id hid nid1 nid2 => (congrFun qhpx101 id).trans ((upd_ne _ _ nid2).trans ((upd_ne _ _ nid1).trans (hlow92 id hid nid1 nid2)))
                    clear qhpx101
                    refine goL_s (st_not rfl) rfl ?_
                    subst hy97
                    refine awp_ifL (b := (!x98.1)) rfl (fun y106 hy106 hb105 => ?_) (fun y106 hy106 hb105 => ?_)
                    · replace H := cond_t H hb105
                      subst hy106
                      refine awp_regionL fun y107 hy107 => ?_
                      refine goL_s (st_as (v := (PV.d true (.bool false))) rfl) rfl ?_
                      subst hy107
                      refine awp_ret ?_
                      refine thenA_r ?_
                      refine blockA_r ?_
                      refine thenA_r ?_
                      refine thenA_r ?_
                      refine blockA_r ?_
                      refine thenA_r ?_
                      obtain rfl := Option.some.inj H
                      refine ret1 (res_t (x := (PV.d true (.bool false))) (d := (.bool false)) rfl rfl) (hp2 := (upd (upd hp id1 (w1, some (.cells 22 [(PV.own id2 u100 0 x98.2.1)]))) id2 (u100, some (.cells 3 ((x98.2.2).map (PV.d true)))))) ?_ ?_ (lowOK_also (lowOK_also lowOK_same ⟨hid2, trivial⟩) (locs_R _)) ⟨u100, rfl, rfl⟩ (.inr rfl)
                      · intro id hid
                        by_cases nid1 : id = id1
                        · rw [nid1]; exact (hpL_low hid1).trans (hc102.trans (Eq.symm ((upd_ne _ _ hn1_2).trans (upd_eq _ _ _))))
                        by_cases nid2 : id = id2
                        · rw [nid2]; exact (hpL_low hid2).trans (hc103.trans (Eq.symm (upd_eq _ _ _)))
                        exact (hpL_low hid).trans ((hlow104 id hid nid1 nid2).trans (Eq.symm ((upd_ne _ _ nid2).trans ((upd_ne _ _ nid1).trans (rfl)))))
                      · intro id hid; exact (upd_ne _ _ (fun e => absurd hid2 (by omega))).trans ((upd_ne _ _ (fun e => absurd hid1 (by omega))).trans (rfl))
                    · replace H := cond_f H hb105
                      subst hy106
                      refine awp_skip ?_
                      refine thenA_n ?_
                      subst hy96
                      refine awp_regionL fun y108 hy108 => ?_
                      refine goL_s (st_fa_p (o' := 2) fi_61_2 (by decide) rfl (hpL_miss rfl hpL_hit) rfl) rfl ?_
                      refine goL_s (st_ld_p (c := (PV.d true (.int .i64 (intD ((((cellsD x1).drop ((x11).toNat * 4))).getD 2 .nil))))) ty_3 rfl (hpL_miss rfl hpL_hit) rfl) rfl ?_
                      refine goL_s (st_bin rfl rfl rfl rfl trivial) rfl ?_
                      subst hy108
                      refine awp_ifL (b := ((intD ((((cellsD x1).drop ((x11).toNat * 4))).getD 2 .nil)) == (0 : Int))) rfl (fun y110 hy110 hb109 => ?_) (fun y110 hy110 hb109 => ?_)
                      · replace H := cond_t H hb109
                        subst hy110
                        refine awp_regionL1 ?_
                        refine goL_s (st_mv (v := (PV.own (N + 72) v87 0 x57)) rfl) rfl ?_
                        refine goL_s (st_mv (v := (PV.d true (.int .i64 x11))) rfl) rfl ?_
                        refine goL_s (st_fa_p (o' := 3) fi_61_3 (by decide) rfl (hpL_miss rfl hpL_hit) rfl) rfl ?_
                        refine goL_s (st_ld_p (c := (PV.d true (.int .i64 (intD ((((cellsD x1).drop ((x11).toNat * 4))).getD 3 .nil))))) ty_3 rfl (hpL_miss rfl hpL_hit) rfl) rfl ?_
                        refine goL_s (st_buildR (parts := [(0, (PV.d true (.int .i64 x11))), (1, (PV.d true (.int .i64 (intD ((((cellsD x1).drop ((x11).toNat * 4))).getD 3 .nil)))))]) (cells := [(PV.d true (.int .i64 x11)), (PV.d true (.int .i64 (intD ((((cellsD x1).drop ((x11).toNat * 4))).getD 3 .nil))))]) ze_126 sr_126 rfl (FillR.cons (cells' := [(PV.d true (.int .i64 x11)), (PV.d true (.int .i64 (0 : Int)))]) rfl rfl rfl (Nat.le_of_ble_eq_true rfl) ⟨rfl, trivial⟩ rfl (FillR.cons (cells' := [(PV.d true (.int .i64 x11)), (PV.d true (.int .i64 (intD ((((cellsD x1).drop ((x11).toNat * 4))).getD 3 .nil))))]) rfl rfl rfl (Nat.le_of_ble_eq_true rfl) ⟨rfl, trivial⟩ rfl FillR.nil))) rfl ?_
                        refine goL_n (d' := 71) (st_bs1 (x := (PV.agg [(PV.d true (.int .i64 x11)), (PV.d true (.int .i64 (intD ((((cellsD x1).drop ((x11).toNat * 4))).getD 3 .nil))))])) (cs := [(PV.d true (.int .i64 x11)), (PV.d true (.int .i64 (intD ((((cellsD x1).drop ((x11).toNat * 4))).getD 3 .nil))))]) el_124 ze_126 sz_126 (by decide) rfl (by decide) rfl rfl rfl ⟨rfl, rfl, trivial⟩) rfl fun v111 => ?_
                        obtain ⟨⟨g112, g113⟩, H⟩ := gd_out H
                        refine goL_n (d' := 72) (st_ap_o (row := (x88).map (PV.d true)) (news := (([(.int .i64 x11), (.int .i64 (intD ((((cellsD x1).drop ((x11).toNat * 4))).getD 3 .nil)))] : List PD)).map (PV.d true)) (m := 1) (vy := (PV.own (N + 71) v111 0 1)) el_124 ze_126 sz_126 by_126 (by decide) rfl rfl (hpL_miss rfl hpL_hit) rfl (src_own sz_126 hpL_hit rfl) g112 (by rw [List.length_map]; exact g113) (app_D _ _)) rfl fun v114 => ?_
                        refine goL_s (st_as (v := (PV.own (N + 72) v114 0 (x57 + 1))) rfl) rfl ?_
                        refine blockA_n ?_
                        refine thenA_n ?_
                        unfold J52_2
                        exact ⟨_, v114, u100, (x57 + 1), x98.2.1, (x88 ++ ([(.int .i64 x11), (.int .i64 (intD ((((cellsD x1).drop ((x11).toNat * 4))).getD 3 .nil)))] : List PD)), x98.2.2, Gh.join ⟨rfl, rfl, rfl, rfl, rfl, rfl, trivial⟩ ⟨hpL_hit, trivial⟩, fun id hid nid1 nid2 => (hpL_low hid).trans (hlow104 id hid nid1 nid2), (hpL_low hid1).trans hc102, (hpL_low hid2).trans hc103, H⟩
                      · replace H := cond_f H hb109
                        subst hy110
                        refine awp_skip ?_
                        refine blockA_n ?_
                        refine thenA_n ?_
                        unfold J52_2
                        exact ⟨_, v87, u100, x57, x98.2.1, x88, x98.2.2, Gh.join ⟨rfl, rfl, rfl, rfl, rfl, rfl, trivial⟩ ⟨hpL_hit, trivial⟩, fun id hid nid1 nid2 => (hpL_low hid).trans (hlow104 id hid nid1 nid2), (hpL_low hid1).trans hc102, (hpL_low hid2).trans hc103, H⟩
        · intro s hJ
          unfold J52_2 at hJ
          obtain ⟨hpx39, v35, v37, x33, x34, x36, x38, hG41, hlow40, hc42, hc43, H⟩ := hJ
          unfold F52_K2 at H
          refine awp_gh hG41 ?_
          clear hG41
          refine awp_regionL1 ?_
          refine goL_s (st_bin rfl rfl rfl rfl trivial) rfl ?_
          refine goL_s (st_mv (v := (PV.d true (.int .i64 (IntKind.wrap .i64 (x11 + (1 : Int)))))) rfl) rfl ?_
          refine thenA_n ?_
          refine ⟨m1, Nat.lt_succ_self _, ?_⟩
          unfold J52_1
          exact ⟨_, v35, v37, x33, (IntKind.wrap .i64 (x11 + (1 : Int))), x34, x36, x38, Gh.join ⟨rfl, rfl, rfl, rfl, rfl, rfl, trivial⟩ ⟨hpL_hit, trivial⟩, fun id hid nid1 nid2 => (hpL_low hid).trans (hlow40 id hid nid1 nid2), (hpL_low hid1).trans hc42, (hpL_low hid2).trans hc43, H⟩
      · replace H := cond_f H hb31
        subst hy32
        refine awp_exit ?_
        refine thenA_e ?_
        refine thenA_e ?_
        refine blockA_h ?_
        refine thenA_n ?_
        subst hy6
        refine awp_hide fun y132 hy132 => ?_
        refine awp_regionL fun y133 hy133 => ?_
        refine goL_s (st_mv (v := (PV.own (N + 72) v13 0 x10)) rfl) rfl ?_
        refine goL_s (st_len_o sl_124 rfl hpL_hit) rfl ?_
        refine goL_s (st_mv (v := (PV.d true (.int .i64 (0 : Int)))) rfl) rfl ?_
        subst hy133
        refine awp_block ?_
        refine awp_loop (J52_6 (mkC 88 N Try.prog hp X) N hp id1 w1 id2 w2 x10 x14 x12 x16 r) n ?_ ?_
        · unfold J52_6
          exact ⟨_, v13, v15, false, (0 : Int), Gh.join ⟨rfl, rfl, rfl, rfl, trivial⟩ ⟨hpL_hit, trivial⟩, fun id hid nid1 nid2 => (hpL_low hid).trans (hlow25 id hid nid1 nid2), (hpL_low hid1).trans hc27, (hpL_low hid2).trans hc28, H⟩
        · intro m6 s hJ
          unfold J52_6 at hJ
          obtain ⟨hpx144, v138, v139, x136, x137, hG146, hlow145, hc147, hc148, H⟩ := hJ
          cases m6 with
          | zero => cases H
          | succ m6 =>
            rw [F52_L6] at H
            refine awp_gh hG146 ?_
            clear hG146
            refine awp_regionL fun y149 hy149 => ?_
            refine goL_s (st_bin rfl rfl rfl rfl trivial) rfl ?_
            subst hy149
            refine awp_hide fun y150 hy150 => ?_
            refine awp_ifL (b := (decide (x137 < (x10 : Int)))) rfl (fun y152 hy152 hb151 => ?_) (fun y152 hy152 hb151 => ?_)
            · replace H := cond_t H hb151
              subst hy152
              refine awp_skip ?_
              refine thenA_n ?_
              subst hy150
              refine awp_cut (J52_7 (mkC 88 N Try.prog hp X) N hp id1 w1 id2 w2 (F52_L6 x10 x14 x12 x16 m6) x137 x10 x14 x12 x16 r) ?_ ?_
              · refine awp_block ?_
                refine awp_regionL fun y161 hy161 => ?_
                obtain ⟨g162, H⟩ := gd_out H
                refine goL_s (st_ia_o el_124 sz_126 (by decide) rfl hpL_hit rfl g162) rfl ?_
                obtain ⟨g163, H⟩ := gd_out H
                refine goL_s (st_ldA_p (row := (x14).map (PV.d true)) ty_126 rfl hpL_hit (by rw [List.length_map]; exact g163) row_seg) rfl ?_
                refine goL_n (d' := 11) (st_alloc ze_126) rfl fun v164 => ?_
                obtain ⟨⟨g165, g166, g167⟩, H⟩ := gd_out H
                refine goL_o0 (st_sto (x := (PV.agg (((((x14).drop ((x137).toNat * 2))).take 2).map (PV.d true)))) (cs := [(PV.d true (.int .i64 (intD ((((x14).drop ((x137).toNat * 2))).getD 0 .nil)))), (PV.d true (.int .i64 (intD ((((x14).drop ((x137).toNat * 2))).getD 1 .nil))))]) (row' := [(PV.d true (.int .i64 (intD ((((x14).drop ((x137).toNat * 2))).getD 0 .nil)))), (PV.d true (.int .i64 (intD ((((x14).drop ((x137).toNat * 2))).getD 1 .nil))))]) ty_126 rfl hpL_hit rfl (cells_ar (by rw [exR2 g165, cI' g166, cI' g167])) rfl (Nat.le_of_ble_eq_true rfl) ⟨rfl, rfl, trivial⟩ rfl) rfl ?_
                subst hy161
                refine awp_regionL1 ?_
                refine goL_s (st_mv (v := (PV.d true (.bool x136))) rfl) rfl ?_
                refine goL_s (st_mv (v := (PV.d true (.bool x136))) rfl) rfl ?_
                refine goL_fork x136 (fun hb168 => ?_) (fun hb168 => ?_)
                · replace H := cond_t H hb168
                  refine goL_gF rfl rfl hb168 rfl ?_
                  refine goL_gF rfl rfl hb168 rfl ?_
                  refine goL_gF rfl rfl hb168 rfl ?_
                  refine goL_s (st_pickT (v := (PV.d true (.bool true))) rfl hb168 rfl) rfl ?_
                  refine goL_s (st_as (v := (PV.d true (.bool true))) rfl) rfl ?_
                  refine blockA_n ?_
                  refine thenA_n ?_
                  unfold J52_7
                  exact ⟨_, v138, v139, true, Gh.join ⟨rfl, rfl, rfl, rfl, trivial⟩ ⟨(hpL_miss rfl (hpL_miss rfl hpL_hit)), trivial⟩, fun id hid nid1 nid2 => (hpL_low hid).trans (hlow145 id hid nid1 nid2), (hpL_low hid1).trans hc147, (hpL_low hid2).trans hc148, H⟩
                · replace H := cond_f H hb168
                  refine goL_gT rfl rfl hb168 ?_
                  refine goL_s (st_fa_p (o' := 1) fi_126_1 (by decide) rfl hpL_hit rfl) rfl ?_
                  refine goL_gT rfl rfl hb168 ?_
                  refine goL_s (st_ld_p (c := (PV.d true (.int .i64 (intD ((((x14).drop ((x137).toNat * 2))).getD 1 .nil))))) ty_3 rfl hpL_hit rfl) rfl ?_
                  refine goL_gT rfl rfl hb168 ?_
                  refine goL_s (st_bin rfl rfl rfl rfl trivial) rfl ?_
                  refine goL_s (st_pickF (v := (PV.d true (.bool (decide ((0 : Int) < (intD ((((x14).drop ((x137).toNat * 2))).getD 1 .nil))))))) rfl hb168 rfl) rfl ?_
                  refine goL_s (st_as (v := (PV.d true (.bool (decide ((0 : Int) < (intD ((((x14).drop ((x137).toNat * 2))).getD 1 .nil))))))) rfl) rfl ?_
                  refine blockA_n ?_
                  refine thenA_n ?_
                  unfold J52_7
                  exact ⟨_, v138, v139, (decide ((0 : Int) < (intD ((((x14).drop ((x137).toNat * 2))).getD 1 .nil)))), Gh.join ⟨rfl, rfl, rfl, rfl, trivial⟩ ⟨(hpL_miss rfl (hpL_miss rfl hpL_hit)), trivial⟩, fun id hid nid1 nid2 => (hpL_low hid).trans (hlow145 id hid nid1 nid2), (hpL_low hid1).trans hc147, (hpL_low hid2).trans hc148, H⟩
              · intro s hJ
                unfold J52_7 at hJ
                obtain ⟨hpx156, v154, v155, x153, hG158, hlow157, hc159, hc160, H⟩ := hJ
                unfold F52_K7 at H
                refine awp_gh hG158 ?_
                clear hG158
                refine awp_regionL1 ?_
                refine goL_s (st_bin rfl rfl rfl rfl trivial) rfl ?_
                refine goL_s (st_mv (v := (PV.d true (.int .i64 (IntKind.wrap .i64 (x137 + (1 : Int)))))) rfl) rfl ?_
                refine thenA_n ?_
                refine ⟨m6, Nat.lt_succ_self _, ?_⟩
                unfold J52_6
                exact ⟨_, v154, v155, x153, (IntKind.wrap .i64 (x137 + (1 : Int))), Gh.join ⟨rfl, rfl, rfl, rfl, trivial⟩ ⟨hpL_hit, trivial⟩, fun id hid nid1 nid2 => (hpL_low hid).trans (hlow157 id hid nid1 nid2), (hpL_low hid1).trans hc159, (hpL_low hid2).trans hc160, H⟩
            · replace H := cond_f H hb151
              subst hy152
              refine awp_exit ?_
              refine thenA_e ?_
              refine thenA_e ?_
              refine blockA_h ?_
              refine thenA_n ?_
              subst hy132
              refine awp_regionL fun y169 hy169 => ?_
              refine goL_s (st_mv (v := (PV.d true (.bool x136))) rfl) rfl ?_
              refine goL_s (st_as (v := (PV.d true (.bool x136))) rfl) rfl ?_
              subst hy169
              refine awp_ret ?_
              obtain rfl := Option.some.inj H
              refine ret1 (res_t (x := (PV.d true (.bool x136))) (d := (.bool x136)) rfl rfl) (hp2 := (upd (upd hp id1 (w1, some (.cells 22 [(PV.own id2 v139 0 x12)]))) id2 (v139, some (.cells 3 ((x16).map (PV.d true)))))) ?_ ?_ (lowOK_also (lowOK_also lowOK_same ⟨hid2, trivial⟩) (locs_R _)) ⟨v139, rfl, rfl⟩ (.inr rfl)
              · intro id hid
                by_cases nid1 : id = id1
                · rw [nid1]; exact (hpL_low hid1).trans (hc147.trans (Eq.symm ((upd_ne _ _ hn1_2).trans (upd_eq _ _ _))))
                by_cases nid2 : id = id2
                · rw [nid2]; exact (hpL_low hid2).trans (hc148.trans (Eq.symm (upd_eq _ _ _)))
                exact (hpL_low hid).trans ((hlow145 id hid nid1 nid2).trans (Eq.symm ((upd_ne _ _ nid2).trans ((upd_ne _ _ nid1).trans (rfl)))))
              · intro id hid; exact (upd_ne _ _ (fun e => absurd hid2 (by omega))).trans ((upd_ne _ _ (fun e => absurd hid1 (by omega))).trans (rfl))

def F37 (n : Nat) (x1 : PD) : Option (PD) :=
  bd (F52 n x1 0 ([] : List PD)) fun x7 =>
  gd (x7.2.1 * 1 = (x7.2.2).length) <|
  bd (F25 n (.lst x7.2.1 x7.2.2)) fun x12 =>
  some x12

set_option maxHeartbeats 4000000 in
theorem f37_calls {n : Nat} {x1 : PD} {r : PD} (H : F37 n x1 = some r) (N : Nat) (hp : HP) : ACalls Try.prog 37 N [(PV.d true x1)] hp fun r' hp' => r' = (PV.d true r) ∧ hp' = hp := by
  unfold F37 at H
  refine acalls_body Try.func37 rfl rfl Try.ntmps37 (by simp) fun X hX => ?_
  refine awp_start (l := [(0, (PV.d true x1))]) (N := N) ⟨rfl, trivial⟩ ?_
  have hlow0 : ∀ id, id < N → hp id = hp id := fun _ _ => rfl
  refine awp_regionL fun y2 hy2 => ?_
  refine goL_s (st_as (v := (PV.d true .nil)) rfl) rfl ?_
  subst hy2
  refine awp_regionL fun y3 hy3 => ?_
  refine goL_n (d' := 3) (st_alloc ze_22) rfl fun v4 => ?_
  subst hy3
  refine awp_regionL fun y5 hy5 => ?_
  refine goL_s (st_mv (v := (PV.d true x1)) rfl) rfl ?_
  refine goL_s (st_mkf (v := (PV.fn 53 [] [(PV.ptr (N + 3) v4 0)])) rfl) rfl ?_
  refine goL_virtC (i := 0) (dd := 0) 3 (fun v6 => [(PV.own (N + 0) v6 0 0)]) (Nat.add_lt_add_left (show 0 < 9 by decide) N) hpL_hit rfl rfl (fun _ => rfl) fun v6 => ?_
  obtain ⟨x7, c8, H⟩ := bd_out H
  refine goL_cg (U := Nat) (args' := [(PV.d true x1), (PV.fn 53 [] [(PV.ptr (N + 3) v4 0)])]) (r := fun u9 => (PV.d true (.bool x7.1))) (h' := fun u9 => (upd (upd (hpL N hp _) (N + 3) (v4, some (.cells 22 [(PV.own (N + 0) u9 0 x7.2.1)]))) (N + 0) (u9, some (.cells 3 ((x7.2.2).map (PV.d true)))))) rfl rfl ⟨Wk.refl, ⟨Wk.refl, trivial⟩⟩ enter_52 rfl (f52_calls c8 (N + 9) _ (show (N + 3) < N + 9 from Nat.add_lt_add_left (by decide) N) hpL_hit (show (N + 0) < N + 9 from Nat.add_lt_add_left (by decide) N) (hpL_miss rfl hpL_hit) (fun e => absurd (Nat.add_left_cancel e) (by decide))) fun u9 => ?_
  refine goL_hp (h' := hpL N hp ((0, (u9, some (.cells 3 ((x7.2.2).map (PV.d true))))) :: (3, (v4, some (.cells 22 [(PV.own (N + 0) u9 0 x7.2.1)]))) :: _)) rfl ?_
  subst hy5
  refine awp_regionL fun y10 hy10 => ?_
  refine goL_s (st_ld_p (c := (PV.own (N + 0) u9 0 x7.2.1)) ty_22 rfl (hpL_miss rfl hpL_hit) rfl) rfl ?_
  obtain ⟨g11, H⟩ := gd_out H
  refine goL_frzc [7] (R := x7.2.2) hX ⟨rfl, trivial⟩ hpL_hit (toDs_true _) (mul_sz sz_3 g11) ?_
  obtain ⟨x12, c13, H⟩ := bd_out H
  refine goL_cp (args' := [(PV.d true (.lst x7.2.1 x7.2.2))]) (r := (PV.d true x12)) rfl rfl ⟨Wk.refl, trivial⟩ enter_25 rfl (f25_calls c13 (N + 9) _) ?_
  refine goL_s (st_as (v := (PV.d true x12)) rfl) rfl ?_
  subst hy10
  refine awp_ret ?_
  obtain rfl := Option.some.inj H
  exact ret1 (res_t (x := (PV.d true x12)) (d := x12) rfl rfl) (fun id hid => (hpL_low hid).trans (hlow0 id hid)) (fun _ _ => rfl) lowOK_same ⟨rfl, rfl⟩ (.inr rfl)

def F19_K2 (lo1 : Nat → Int → List PD → List PD → Option (PD)) (x16 : Int) (x34 : Nat) (x36 : List PD) (x38 : List PD) : Option (PD) :=
  lo1 x34 (IntKind.wrap .i64 (x16 + (1 : Int))) x36 x38

def J19_2 (C : Ctx) (N : Nat) (hp : HP) (lo1 : Nat → Int → List PD → List PD → Option (PD)) (x16 : Int) (x4 : PD) (x1 : PD) (rr : PD) (s : ASt) : Prop :=
  ∃ (hpx : HP) (v35 v37 : Nat) (x34 : Nat) (x36 : List PD) (x38 : List PD), Gh C s ⟨envL [(3, (PV.d true x4)), (4, (PV.own (N + 14) v35 0 ((lenN x1 : Int)).toNat)), (5, (PV.own (N + 68) v37 0 x34)), (15, (PV.d true x1)), (16, (PV.d true (.int .i64 (lenN x1 : Int)))), (17, (PV.d true (.int .i64 x16)))], hpL N hpx [(14, (v35, some (.cells 78 ((x36).map (PV.d true))))), (68, (v37, some (.cells 78 ((x38).map (PV.d true)))))]⟩ ∧ (∀ id, id < N → hpx id = hp id) ∧ F19_K2 lo1 x16 x34 x36 x38 = some rr

def F19_K5 (x16 : Int) (x1 : PD) (x18 : List PD) (x15 : Nat) (x20 : List PD) (lo1 : Nat → Int → List PD → List PD → Option (PD)) (x66 : Int) (x74 : Int) : Option (PD) :=
  gd (0 ≤ x16 ∧ x16 < (((lenN x1 : Int)).toNat : Nat)) <|
  gd (((x16).toNat * 4) + 4 ≤ (x18).length) <|
  bif ((intD ((((cellsD x1).drop ((x16).toNat * 4))).getD 2 .nil)) != (0 : Int)) then
    gd ((apOK 32 (x15 + 1)) ∧ (x15 * 4 = (x20).length)) <|
    F19_K2 lo1 x16 (x15 + 1) (setD x18 ((x16).toNat * 4) [(.int .i64 x16), (.int .i64 x66), (.int .i64 x74), (.int .i64 (intD ((((cellsD x1).drop ((x16).toNat * 4))).getD 2 .nil)))]) (x20 ++ ([(.int .i64 x16), (.int .i64 x66), (.int .i64 x74), (.int .i64 (intD ((((cellsD x1).drop ((x16).toNat * 4))).getD 2 .nil)))] : List PD))
  else
    F19_K2 lo1 x16 x15 (setD x18 ((x16).toNat * 4) [(.int .i64 x16), (.int .i64 x66), (.int .i64 x74), (.int .i64 (intD ((((cellsD x1).drop ((x16).toNat * 4))).getD 2 .nil)))]) x20

def J19_5 (C : Ctx) (N : Nat) (hp : HP) (x16 : Int) (x1 : PD) (x18 : List PD) (x15 : Nat) (x20 : List PD) (lo1 : Nat → Int → List PD → List PD → Option (PD)) (x66 : Int) (x4 : PD) (rr : PD) (s : ASt) : Prop :=
  ∃ (hpx : HP) (v70 v71 v72 v73 : Nat) (x74 : Int), Gh C s ⟨envL [(3, (PV.d true x4)), (4, (PV.own (N + 14) v70 0 ((lenN x1 : Int)).toNat)), (5, (PV.own (N + 68) v71 0 x15)), (6, (PV.d true (.int .i64 x16))), (7, (PV.ptr (N + 7) v72 0)), (8, (PV.ptr (N + 8) v73 0)), (15, (PV.d true x1)), (16, (PV.d true (.int .i64 (lenN x1 : Int)))), (17, (PV.d true (.int .i64 x16)))], hpL N hpx [(14, (v70, some (.cells 78 ((x18).map (PV.d true))))), (68, (v71, some (.cells 78 ((x20).map (PV.d true))))), (7, (v72, some (.cells 61 [(PV.d true (.str (strD ((((cellsD x1).drop ((x16).toNat * 4))).getD 0 .nil)))), (PV.d true (.int .i64 (intD ((((cellsD x1).drop ((x16).toNat * 4))).getD 1 .nil)))), (PV.d true (.int .i64 (intD ((((cellsD x1).drop ((x16).toNat * 4))).getD 2 .nil)))), (PV.d true (.int .i64 (intD ((((cellsD x1).drop ((x16).toNat * 4))).getD 3 .nil))))]))), (8, (v73, some (.cells 78 [(PV.d true (.int .i64 x16)), (PV.d true (.int .i64 x66)), (PV.d true (.int .i64 x74)), (PV.d true (.int .i64 (intD ((((cellsD x1).drop ((x16).toNat * 4))).getD 2 .nil))))])))]⟩ ∧ (∀ id, id < N → hpx id = hp id) ∧ F19_K5 x16 x1 x18 x15 x20 lo1 x66 x74 = some rr

def F19_K4 (x1 : PD) (x16 : Int) (x18 : List PD) (x15 : Nat) (x20 : List PD) (lo1 : Nat → Int → List PD → List PD → Option (PD)) (x58 : Int) (x66 : Int) : Option (PD) :=
  bif ((intD ((((cellsD x1).drop ((x16).toNat * 4))).getD 1 .nil)) != (0 : Int)) then
    F19_K5 x16 x1 x18 x15 x20 lo1 x66 (IntKind.wrap .i64 (x58 + (1 : Int)))
  else
    F19_K5 x16 x1 x18 x15 x20 lo1 x66 x58

def J19_4 (C : Ctx) (N : Nat) (hp : HP) (x1 : PD) (x16 : Int) (x18 : List PD) (x15 : Nat) (x20 : List PD) (lo1 : Nat → Int → List PD → List PD → Option (PD)) (x58 : Int) (x4 : PD) (rr : PD) (s : ASt) : Prop :=
  ∃ (hpx : HP) (v62 v63 v64 v65 : Nat) (x66 : Int), Gh C s ⟨envL [(3, (PV.d true x4)), (4, (PV.own (N + 14) v62 0 ((lenN x1 : Int)).toNat)), (5, (PV.own (N + 68) v63 0 x15)), (6, (PV.d true (.int .i64 x16))), (7, (PV.ptr (N + 7) v64 0)), (8, (PV.ptr (N + 8) v65 0)), (15, (PV.d true x1)), (16, (PV.d true (.int .i64 (lenN x1 : Int)))), (17, (PV.d true (.int .i64 x16)))], hpL N hpx [(14, (v62, some (.cells 78 ((x18).map (PV.d true))))), (68, (v63, some (.cells 78 ((x20).map (PV.d true))))), (7, (v64, some (.cells 61 [(PV.d true (.str (strD ((((cellsD x1).drop ((x16).toNat * 4))).getD 0 .nil)))), (PV.d true (.int .i64 (intD ((((cellsD x1).drop ((x16).toNat * 4))).getD 1 .nil)))), (PV.d true (.int .i64 (intD ((((cellsD x1).drop ((x16).toNat * 4))).getD 2 .nil)))), (PV.d true (.int .i64 (intD ((((cellsD x1).drop ((x16).toNat * 4))).getD 3 .nil))))]))), (8, (v65, some (.cells 78 [(PV.d true (.int .i64 x16)), (PV.d true (.int .i64 x66)), (PV.d true (.int .i64 x58)), (PV.d true (.int .i64 (intD ((((cellsD x1).drop ((x16).toNat * 4))).getD 2 .nil))))])))]⟩ ∧ (∀ id, id < N → hpx id = hp id) ∧ F19_K4 x1 x16 x18 x15 x20 lo1 x58 x66 = some rr

def F19_K3 (x1 : PD) (x16 : Int) (x18 : List PD) (x15 : Nat) (x20 : List PD) (lo1 : Nat → Int → List PD → List PD → Option (PD)) (x57 : Int) (x58 : Int) : Option (PD) :=
  bif ((intD ((((cellsD x1).drop ((x16).toNat * 4))).getD 1 .nil)) == (2 : Int)) then
    F19_K4 x1 x16 x18 x15 x20 lo1 x58 (IntKind.wrap .i64 (x57 + (1 : Int)))
  else
    F19_K4 x1 x16 x18 x15 x20 lo1 x58 x57

def J19_3 (C : Ctx) (N : Nat) (hp : HP) (x1 : PD) (x16 : Int) (x18 : List PD) (x15 : Nat) (x20 : List PD) (lo1 : Nat → Int → List PD → List PD → Option (PD)) (x4 : PD) (rr : PD) (s : ASt) : Prop :=
  ∃ (hpx : HP) (v53 v54 v55 v56 : Nat) (x57 : Int) (x58 : Int), Gh C s ⟨envL [(3, (PV.d true x4)), (4, (PV.own (N + 14) v53 0 ((lenN x1 : Int)).toNat)), (5, (PV.own (N + 68) v54 0 x15)), (6, (PV.d true (.int .i64 x16))), (7, (PV.ptr (N + 7) v55 0)), (8, (PV.ptr (N + 8) v56 0)), (15, (PV.d true x1)), (16, (PV.d true (.int .i64 (lenN x1 : Int)))), (17, (PV.d true (.int .i64 x16)))], hpL N hpx [(14, (v53, some (.cells 78 ((x18).map (PV.d true))))), (68, (v54, some (.cells 78 ((x20).map (PV.d true))))), (7, (v55, some (.cells 61 [(PV.d true (.str (strD ((((cellsD x1).drop ((x16).toNat * 4))).getD 0 .nil)))), (PV.d true (.int .i64 (intD ((((cellsD x1).drop ((x16).toNat * 4))).getD 1 .nil)))), (PV.d true (.int .i64 (intD ((((cellsD x1).drop ((x16).toNat * 4))).getD 2 .nil)))), (PV.d true (.int .i64 (intD ((((cellsD x1).drop ((x16).toNat * 4))).getD 3 .nil))))]))), (8, (v56, some (.cells 78 [(PV.d true (.int .i64 x16)), (PV.d true (.int .i64 x57)), (PV.d true (.int .i64 x58)), (PV.d true (.int .i64 (intD ((((cellsD x1).drop ((x16).toNat * 4))).getD 2 .nil))))])))]⟩ ∧ (∀ id, id < N → hpx id = hp id) ∧ F19_K3 x1 x16 x18 x15 x20 lo1 x57 x58 = some rr

def F19_L1 (x1 : PD) (x4 : PD) (n : Nat) : Nat → Nat → Int → List PD → List PD → Option (PD)
  | 0, _, _, _, _ => none
  | m1 + 1, x15, x16, x18, x20 =>
    bif (decide (x16 < (lenN x1 : Int))) then
      gd (idxOK 4 x1 x16) <|
      gd (4 ≤ (((cellsD x1).drop ((x16).toNat * 4))).length) <|
      gd ((4 ≤ (((cellsD x1).drop ((x16).toNat * 4))).length) ∧ (isS ((((cellsD x1).drop ((x16).toNat * 4))).getD 0 .nil) = true) ∧ (isI .i64 ((((cellsD x1).drop ((x16).toNat * 4))).getD 1 .nil) = true) ∧ (isI .i64 ((((cellsD x1).drop ((x16).toNat * 4))).getD 2 .nil) = true) ∧ (isI .i64 ((((cellsD x1).drop ((x16).toNat * 4))).getD 3 .nil) = true)) <|
      gd (idxOK 1 x4 x16) <|
      gd ((1 ≤ (((cellsD x4).drop ((x16).toNat * 1))).length) ∧ (isI .i64 ((((cellsD x4).drop ((x16).toNat * 1))).getD 0 .nil) = true)) <|
      bif (decide ((0 : Int) ≤ (intD ((((cellsD x4).drop ((x16).toNat * 1))).getD 0 .nil)))) then
        gd (0 ≤ (intD ((((cellsD x4).drop ((x16).toNat * 1))).getD 0 .nil)) ∧ (intD ((((cellsD x4).drop ((x16).toNat * 1))).getD 0 .nil)) < (((lenN x1 : Int)).toNat : Nat)) <|
        gd ((((((intD ((((cellsD x4).drop ((x16).toNat * 1))).getD 0 .nil))).toNat * 4) + 1) < (x18).length) ∧ (isI .i64 ((x18).getD ((((intD ((((cellsD x4).drop ((x16).toNat * 1))).getD 0 .nil))).toNat * 4) + 1) .nil) = true)) <|
        gd (0 ≤ (intD ((((cellsD x4).drop ((x16).toNat * 1))).getD 0 .nil)) ∧ (intD ((((cellsD x4).drop ((x16).toNat * 1))).getD 0 .nil)) < (((lenN x1 : Int)).toNat : Nat)) <|
        gd ((((((intD ((((cellsD x4).drop ((x16).toNat * 1))).getD 0 .nil))).toNat * 4) + 2) < (x18).length) ∧ (isI .i64 ((x18).getD ((((intD ((((cellsD x4).drop ((x16).toNat * 1))).getD 0 .nil))).toNat * 4) + 2) .nil) = true)) <|
        F19_K3 x1 x16 x18 x15 x20 (F19_L1 x1 x4 n m1) (intD ((x18).getD ((((intD ((((cellsD x4).drop ((x16).toNat * 1))).getD 0 .nil))).toNat * 4) + 1) .nil)) (intD ((x18).getD ((((intD ((((cellsD x4).drop ((x16).toNat * 1))).getD 0 .nil))).toNat * 4) + 2) .nil))
      else
        F19_K3 x1 x16 x18 x15 x20 (F19_L1 x1 x4 n m1) (0 : Int) (0 : Int)
    else
      gd (x15 * 4 = (x20).length) <|
      bd (F38 n (.lst x15 x20)) fun x110 =>
      some x110

def J19_1 (C : Ctx) (N : Nat) (hp : HP) (x1 : PD) (x4 : PD) (n : Nat) (rr : PD) (mm : Nat) (s : ASt) : Prop :=
  ∃ (hpx : HP) (v17 v19 : Nat) (x15 : Nat) (x16 : Int) (x18 : List PD) (x20 : List PD), Gh C s ⟨envL [(3, (PV.d true x4)), (4, (PV.own (N + 14) v17 0 ((lenN x1 : Int)).toNat)), (5, (PV.own (N + 68) v19 0 x15)), (15, (PV.d true x1)), (16, (PV.d true (.int .i64 (lenN x1 : Int)))), (17, (PV.d true (.int .i64 x16)))], hpL N hpx [(14, (v17, some (.cells 78 ((x18).map (PV.d true))))), (68, (v19, some (.cells 78 ((x20).map (PV.d true)))))]⟩ ∧ (∀ id, id < N → hpx id = hp id) ∧ F19_L1 x1 x4 n mm x15 x16 x18 x20 = some rr

def F19 (n : Nat) (x1 : PD) : Option (PD) :=
  bd (F37 n x1) fun x4 =>
  gd (isSlD x1 = true) <|
  gd (mkOK 32 (lenN x1 : Int)) <|
  gd (isSlD x1 = true) <|
  F19_L1 x1 x4 n n 0 (0 : Int) (rowZD ([.int .i64 0, .int .i64 0, .int .i64 0, .int .i64 0] : List PD) ((lenN x1 : Int)).toNat) ([] : List PD)

set_option maxHeartbeats 4000000 in
theorem f19_calls {n : Nat} {x1 : PD} {r : PD} (H : F19 n x1 = some r) (N : Nat) (hp : HP) : ACalls Try.prog 19 N [(PV.d true x1)] hp fun r' hp' => r' = (PV.d true r) ∧ hp' = hp := by
  unfold F19 at H
  refine acalls_body Try.func19 rfl rfl Try.ntmps19 (by simp) fun X hX => ?_
  refine awp_start (l := [(0, (PV.d true x1))]) (N := N) ⟨rfl, trivial⟩ ?_
  have hlow0 : ∀ id, id < N → hp id = hp id := fun _ _ => rfl
  refine awp_regionL fun y2 hy2 => ?_
  refine goL_s (st_as (v := (PV.d true .nil)) rfl) rfl ?_
  subst hy2
  refine awp_regionL fun y3 hy3 => ?_
  refine goL_s (st_mv (v := (PV.d true x1)) rfl) rfl ?_
  obtain ⟨x4, c5, H⟩ := bd_out H
  refine goL_cp (args' := [(PV.d true x1)]) (r := (PV.d true x4)) rfl rfl ⟨Wk.refl, trivial⟩ enter_37 rfl (f37_calls c5 (N + 72) _) ?_
  refine goL_s (st_as (v := (PV.d true x4)) rfl) rfl ?_
  subst hy3
  refine awp_regionL fun y6 hy6 => ?_
  refine goL_s (st_mv (v := (PV.d true x1)) rfl) rfl ?_
  obtain ⟨g7, H⟩ := gd_out H
  refine goL_s (st_len_d (id := 0) sl_26 rfl g7) rfl ?_
  obtain ⟨g8, H⟩ := gd_out H
  refine goL_n (d' := 14) (st_make (zd := ([.int .i64 0, .int .i64 0, .int .i64 0, .int .i64 0] : List PD)) el_73 ze_78 sz_78 by_78 (by decide) rfl rfl rfl g8) rfl fun v9 => ?_
  refine goL_s (st_as (v := (PV.own (N + 14) v9 0 ((lenN x1 : Int)).toNat)) rfl) rfl ?_
  subst hy6
  refine awp_regionL fun y10 hy10 => ?_
  refine goL_s (st_as (v := (PV.d true .nil)) rfl) rfl ?_
  subst hy10
  refine awp_hide fun y11 hy11 => ?_
  refine awp_regionL fun y12 hy12 => ?_
  refine goL_s (st_mv (v := (PV.d true x1)) rfl) rfl ?_
  obtain ⟨g13, H⟩ := gd_out H
  refine goL_s (st_len_d (id := 0) sl_26 rfl g13) rfl ?_
  refine goL_s (st_mv (v := (PV.d true (.int .i64 (0 : Int)))) rfl) rfl ?_
  subst hy12
  refine awp_block ?_
  refine awp_loop (J19_1 (mkC 72 N Try.prog hp X) N hp x1 x4 n r) n ?_ ?_
  · unfold J19_1
    exact ⟨_, v9, _, 0, (0 : Int), (rowZD ([.int .i64 0, .int .i64 0, .int .i64 0, .int .i64 0] : List PD) ((lenN x1 : Int)).toNat), ([] : List PD), ((Gh.virtE (t := 5) (d := 68) 78 (Nat.add_lt_add_left (show 68 < 72 by decide) N) rfl).trans (Gh.join ⟨rfl, rfl, rfl, rfl, rfl, rfl, trivial⟩ ⟨(hpL_miss rfl hpL_hit), hpL_hit, trivial⟩)), fun id hid => (hpL_low hid).trans (hlow0 id hid), H⟩
  · intro m1 s hJ
    unfold J19_1 at hJ
    obtain ⟨hpx27, v17, v19, x15, x16, x18, x20, hG29, hlow28, H⟩ := hJ
    cases m1 with
    | zero => cases H
    | succ m1 =>
      rw [F19_L1] at H
      refine awp_gh hG29 ?_
      clear hG29
      refine awp_regionL fun y30 hy30 => ?_
      refine goL_s (st_bin rfl rfl rfl rfl trivial) rfl ?_
      subst hy30
      refine awp_hide fun y31 hy31 => ?_
      refine awp_ifL (b := (decide (x16 < (lenN x1 : Int)))) rfl (fun y33 hy33 hb32 => ?_) (fun y33 hy33 hb32 => ?_)
      · replace H := cond_t H hb32
        subst hy33
        refine awp_skip ?_
        refine thenA_n ?_
        subst hy31
        refine awp_cut (J19_2 (mkC 72 N Try.prog hp X) N hp (F19_L1 x1 x4 n m1) x16 x4 x1 r) ?_ ?_
        · refine awp_block ?_
          refine awp_regionL fun y42 hy42 => ?_
          refine goL_s (st_mv (v := (PV.d true (.int .i64 x16))) rfl) rfl ?_
          obtain ⟨g43, H⟩ := gd_out H
          refine goL_s (st_ia_d el_26 sz_61 (by decide) (y := x1) rfl rfl g43) rfl ?_
          obtain ⟨g44, H⟩ := gd_out H
          refine goL_s (st_ldA_lp ty_61 rfl g44) rfl ?_
          refine goL_n (d' := 7) (st_alloc ze_61) rfl fun v45 => ?_
          refine goL_s (st_as (v := (PV.d true (.int .i64 x16))) rfl) rfl ?_
          obtain ⟨⟨g46, g47, g48, g49, g50⟩, H⟩ := gd_out H
          refine goL_o0 (st_sto (x := (PV.d true (.agg ((((cellsD x1).drop ((x16).toNat * 4))).take 4)))) (cs := [(PV.d true (.str (strD ((((cellsD x1).drop ((x16).toNat * 4))).getD 0 .nil)))), (PV.d true (.int .i64 (intD ((((cellsD x1).drop ((x16).toNat * 4))).getD 1 .nil)))), (PV.d true (.int .i64 (intD ((((cellsD x1).drop ((x16).toNat * 4))).getD 2 .nil)))), (PV.d true (.int .i64 (intD ((((cellsD x1).drop ((x16).toNat * 4))).getD 3 .nil))))]) (row' := [(PV.d true (.str (strD ((((cellsD x1).drop ((x16).toNat * 4))).getD 0 .nil)))), (PV.d true (.int .i64 (intD ((((cellsD x1).drop ((x16).toNat * 4))).getD 1 .nil)))), (PV.d true (.int .i64 (intD ((((cellsD x1).drop ((x16).toNat * 4))).getD 2 .nil)))), (PV.d true (.int .i64 (intD ((((cellsD x1).drop ((x16).toNat * 4))).getD 3 .nil))))]) ty_61 rfl hpL_hit rfl (cells_ad (by rw [ex4 g46, cS g47, cI g48, cI g49, cI g50])) rfl (Nat.le_of_ble_eq_true rfl) ⟨rfl, rfl, rfl, rfl, trivial⟩ rfl) rfl ?_
          subst hy42
          refine awp_regionL fun y51 hy51 => ?_
          refine goL_s (st_mv (v := (PV.d true (.int .i64 x16))) rfl) rfl ?_
          refine goL_s (st_fa_p (o' := 2) fi_61_2 (by decide) rfl hpL_hit rfl) rfl ?_
          refine goL_s (st_ld_p (c := (PV.d true (.int .i64 (intD ((((cellsD x1).drop ((x16).toNat * 4))).getD 2 .nil))))) ty_3 rfl hpL_hit rfl) rfl ?_
          refine goL_s (st_buildR (parts := [(0, (PV.d true (.int .i64 x16))), (3, (PV.d true (.int .i64 (intD ((((cellsD x1).drop ((x16).toNat * 4))).getD 2 .nil)))))]) (cells := [(PV.d true (.int .i64 x16)), (PV.d true (.int .i64 (0 : Int))), (PV.d true (.int .i64 (0 : Int))), (PV.d true (.int .i64 (intD ((((cellsD x1).drop ((x16).toNat * 4))).getD 2 .nil))))]) ze_78 sr_78 rfl (FillR.cons (cells' := [(PV.d true (.int .i64 x16)), (PV.d true (.int .i64 (0 : Int))), (PV.d true (.int .i64 (0 : Int))), (PV.d true (.int .i64 (0 : Int)))]) rfl rfl rfl (Nat.le_of_ble_eq_true rfl) ⟨rfl, trivial⟩ rfl (FillR.cons (cells' := [(PV.d true (.int .i64 x16)), (PV.d true (.int .i64 (0 : Int))), (PV.d true (.int .i64 (0 : Int))), (PV.d true (.int .i64 (intD ((((cellsD x1).drop ((x16).toNat * 4))).getD 2 .nil))))]) rfl rfl rfl (Nat.le_of_ble_eq_true rfl) ⟨rfl, trivial⟩ rfl FillR.nil))) rfl ?_
          refine goL_n (d' := 8) (st_alloc ze_78) rfl fun v52 => ?_
          refine goL_o0 (st_sto (x := (PV.agg [(PV.d true (.int .i64 x16)), (PV.d true (.int .i64 (0 : Int))), (PV.d true (.int .i64 (0 : Int))), (PV.d true (.int .i64 (intD ((((cellsD x1).drop ((x16).toNat * 4))).getD 2 .nil))))])) (cs := [(PV.d true (.int .i64 x16)), (PV.d true (.int .i64 (0 : Int))), (PV.d true (.int .i64 (0 : Int))), (PV.d true (.int .i64 (intD ((((cellsD x1).drop ((x16).toNat * 4))).getD 2 .nil))))]) (row' := [(PV.d true (.int .i64 x16)), (PV.d true (.int .i64 (0 : Int))), (PV.d true (.int .i64 (0 : Int))), (PV.d true (.int .i64 (intD ((((cellsD x1).drop ((x16).toNat * 4))).getD 2 .nil))))]) ty_78 rfl hpL_hit rfl rfl rfl (Nat.le_of_ble_eq_true rfl) ⟨rfl, rfl, rfl, rfl, trivial⟩ rfl) rfl ?_
          subst hy51
          refine awp_cut (J19_3 (mkC 72 N Try.prog hp X) N hp x1 x16 x18 x15 x20 (F19_L1 x1 x4 n m1) x4 r) ?_ ?_
          · refine awp_regionL fun y94 hy94 => ?_
            refine goL_s (st_mv (v := (PV.d true x4)) rfl) rfl ?_
            refine goL_s (st_mv (v := (PV.d true (.int .i64 x16))) rfl) rfl ?_
            obtain ⟨g95, H⟩ := gd_out H
            refine goL_s (st_ia_d el_22 sz_3 (by decide) (y := x4) rfl rfl g95) rfl ?_
            obtain ⟨⟨g96, g97⟩, H⟩ := gd_out H
            refine goL_s (st_ld_lp ty_3 rfl g96 (cI g97)) rfl ?_
            refine goL_s (st_as (v := (PV.d true (.int .i64 (intD ((((cellsD x4).drop ((x16).toNat * 1))).getD 0 .nil))))) rfl) rfl ?_
            subst hy94
            refine awp_regionL fun y98 hy98 => ?_
            refine goL_s (st_mv (v := (PV.d true (.int .i64 (intD ((((cellsD x4).drop ((x16).toNat * 1))).getD 0 .nil))))) rfl) rfl ?_
            refine goL_s (st_bin rfl rfl rfl rfl trivial) rfl ?_
            subst hy98
            refine awp_ifL (b := (decide ((0 : Int) ≤ (intD ((((cellsD x4).drop ((x16).toNat * 1))).getD 0 .nil))))) rfl (fun y100 hy100 hb99 => ?_) (fun y100 hy100 hb99 => ?_)
            · replace H := cond_t H hb99
              subst hy100
              refine awp_drawL1 15 12 [(0, 11), (1, 11), (2, 11), (3, 11), (4, 11), (10, 11)] follows_any (by kernel_rfl) (by kernel_rfl) (by kernel_rfl) (by kernel_rfl) fun opsd101 Kd101 hod101 hKd101 => ?_
              refine goA_r (rd := []) trivial (st_mv (v := (PV.own (N + 14) v17 0 ((lenN x1 : Int)).toNat)) rfl) rfl rfl ?_
              refine goA_r (rd := []) trivial (st_mv (v := (PV.d true (.int .i64 (intD ((((cellsD x4).drop ((x16).toNat * 1))).getD 0 .nil))))) rfl) rfl rfl ?_
              obtain ⟨g102, H⟩ := gd_out H
              refine goA_r (rd := [(N + 14)]) trivial (st_ia_o el_73 sz_78 (by decide) rfl (hpL_miss rfl (hpL_miss rfl (hpL_miss rfl (hpL_miss rfl hpL_hit)))) rfl g102) rfl rfl ?_
              refine goA_r (rd := [(N + 14)]) trivial (st_fa_p (o' := ((((intD ((((cellsD x4).drop ((x16).toNat * 1))).getD 0 .nil))).toNat * 4) + 1)) fi_78_1 (by decide) rfl (hpL_miss rfl (hpL_miss rfl (hpL_miss rfl (hpL_miss rfl hpL_hit)))) rfl) rfl rfl ?_
              obtain ⟨⟨g103, g104⟩, H⟩ := gd_out H
              refine goA_r (rd := [(N + 14)]) trivial (st_ld_p (row := (x18).map (PV.d true)) ty_3 rfl (hpL_miss rfl (hpL_miss rfl (hpL_miss rfl (hpL_miss rfl hpL_hit)))) (row_at g103 (cI' g104))) rfl rfl ?_
              refine goA_r (rd := []) trivial (st_mv (v := (PV.own (N + 14) v17 0 ((lenN x1 : Int)).toNat)) rfl) rfl rfl ?_
              refine goA_r (rd := []) trivial (st_mv (v := (PV.d true (.int .i64 (intD ((((cellsD x4).drop ((x16).toNat * 1))).getD 0 .nil))))) rfl) rfl rfl ?_
              obtain ⟨g105, H⟩ := gd_out H
              refine goA_r (rd := [(N + 14)]) trivial (st_ia_o el_73 sz_78 (by decide) rfl (hpL_miss rfl (hpL_miss rfl (hpL_miss rfl (hpL_miss rfl hpL_hit)))) rfl g105) rfl rfl ?_
              refine goA_r (rd := [(N + 14)]) trivial (st_fa_p (o' := ((((intD ((((cellsD x4).drop ((x16).toNat * 1))).getD 0 .nil))).toNat * 4) + 2)) fi_78_2 (by decide) rfl (hpL_miss rfl (hpL_miss rfl (hpL_miss rfl (hpL_miss rfl hpL_hit)))) rfl) rfl rfl ?_
              obtain ⟨⟨g106, g107⟩, H⟩ := gd_out H
              refine goA_r (rd := [(N + 14)]) trivial (st_ld_p (row := (x18).map (PV.d true)) ty_3 rfl (hpL_miss rfl (hpL_miss rfl (hpL_miss rfl (hpL_miss rfl hpL_hit)))) (row_at g106 (cI' g107))) rfl rfl ?_
              refine goA_r (rd := [(N + 8)]) trivial (st_fa_p (o' := 1) fi_78_1 (by decide) rfl hpL_hit rfl) rfl rfl ?_
              refine goA_o0 (rd := [(N + 8)]) trivial (st_sto (x := (PV.d true (.int .i64 (intD ((x18).getD ((((intD ((((cellsD x4).drop ((x16).toNat * 1))).getD 0 .nil))).toNat * 4) + 1) .nil))))) (cs := [(PV.d true (.int .i64 (intD ((x18).getD ((((intD ((((cellsD x4).drop ((x16).toNat * 1))).getD 0 .nil))).toNat * 4) + 1) .nil))))]) (row' := [(PV.d true (.int .i64 x16)), (PV.d true (.int .i64 (intD ((x18).getD ((((intD ((((cellsD x4).drop ((x16).toNat * 1))).getD 0 .nil))).toNat * 4) + 1) .nil)))), (PV.d true (.int .i64 (0 : Int))), (PV.d true (.int .i64 (intD ((((cellsD x1).drop ((x16).toNat * 4))).getD 2 .nil))))]) ty_3 rfl hpL_hit rfl rfl rfl (Nat.le_of_ble_eq_true rfl) ⟨rfl, trivial⟩ rfl) rfl rfl ?_
              refine goA_nil ?_
              rw [hKd101]
              refine ⟨?_, goOps_goL ?_⟩
              · simp [objsW, objsY]
              refine goL_s (st_fa_p (o' := 2) fi_78_2 (by decide) rfl hpL_hit rfl) rfl ?_
              refine goL_o0 (st_sto (x := (PV.d true (.int .i64 (intD ((x18).getD ((((intD ((((cellsD x4).drop ((x16).toNat * 1))).getD 0 .nil))).toNat * 4) + 2) .nil))))) (cs := [(PV.d true (.int .i64 (intD ((x18).getD ((((intD ((((cellsD x4).drop ((x16).toNat * 1))).getD 0 .nil))).toNat * 4) + 2) .nil))))]) (row' := [(PV.d true (.int .i64 x16)), (PV.d true (.int .i64 (intD ((x18).getD ((((intD ((((cellsD x4).drop ((x16).toNat * 1))).getD 0 .nil))).toNat * 4) + 1) .nil)))), (PV.d true (.int .i64 (intD ((x18).getD ((((intD ((((cellsD x4).drop ((x16).toNat * 1))).getD 0 .nil))).toNat * 4) + 2) .nil)))), (PV.d true (.int .i64 (intD ((((cellsD x1).drop ((x16).toNat * 4))).getD 2 .nil))))]) ty_3 rfl hpL_hit rfl rfl rfl (Nat.le_of_ble_eq_true rfl) ⟨rfl, trivial⟩ rfl) rfl ?_
              refine thenA_n ?_
              unfold J19_3
              exact ⟨_, v17, v19, v45, v52, (intD ((x18).getD ((((intD ((((cellsD x4).drop ((x16).toNat * 1))).getD 0 .nil))).toNat * 4) + 1) .nil)), (intD ((x18).getD ((((intD ((((cellsD x4).drop ((x16).toNat * 1))).getD 0 .nil))).toNat * 4) + 2) .nil)), Gh.join ⟨rfl, rfl, rfl, rfl, rfl, rfl, rfl, rfl, rfl, trivial⟩ ⟨(hpL_miss rfl (hpL_miss rfl (hpL_miss rfl (hpL_miss rfl (hpL_miss rfl (hpL_miss rfl hpL_hit)))))), (hpL_miss rfl (hpL_miss rfl (hpL_miss rfl (hpL_miss rfl (hpL_miss rfl (hpL_miss rfl (hpL_miss rfl hpL_hit))))))), (hpL_miss rfl (hpL_miss rfl (hpL_miss rfl (hpL_miss rfl hpL_hit)))), hpL_hit, trivial⟩, fun id hid => (hpL_low hid).trans (hlow28 id hid), H⟩
            · replace H := cond_f H hb99
              subst hy100
              refine awp_skip ?_
              refine thenA_n ?_
              unfold J19_3
              exact ⟨_, v17, v19, v45, v52, (0 : Int), (0 : Int), Gh.join ⟨rfl, rfl, rfl, rfl, rfl, rfl, rfl, rfl, rfl, trivial⟩ ⟨(hpL_miss rfl (hpL_miss rfl (hpL_miss rfl (hpL_miss rfl hpL_hit)))), (hpL_miss rfl (hpL_miss rfl (hpL_miss rfl (hpL_miss rfl (hpL_miss rfl hpL_hit))))), (hpL_miss rfl (hpL_miss rfl hpL_hit)), hpL_hit, trivial⟩, fun id hid => (hpL_low hid).trans (hlow28 id hid), H⟩
          · intro s hJ
            unfold J19_3 at hJ
            obtain ⟨hpx59, v53, v54, v55, v56, x57, x58, hG61, hlow60, H⟩ := hJ
            unfold F19_K3 at H
            refine awp_gh hG61 ?_
            clear hG61
            refine awp_cut (J19_4 (mkC 72 N Try.prog hp X) N hp x1 x16 x18 x15 x20 (F19_L1 x1 x4 n m1) x58 x4 r) ?_ ?_
            · refine awp_regionL fun y91 hy91 => ?_
              refine goL_s (st_fa_p (o' := 1) fi_61_1 (by decide) rfl (hpL_miss rfl (hpL_miss rfl hpL_hit)) rfl) rfl ?_
              refine goL_s (st_ld_p (c := (PV.d true (.int .i64 (intD ((((cellsD x1).drop ((x16).toNat * 4))).getD 1 .nil))))) ty_3 rfl (hpL_miss rfl (hpL_miss rfl hpL_hit)) rfl) rfl ?_
              refine goL_s (st_bin rfl rfl rfl rfl trivial) rfl ?_
              subst hy91
              refine awp_ifL (b := ((intD ((((cellsD x1).drop ((x16).toNat * 4))).getD 1 .nil)) == (2 : Int))) rfl (fun y93 hy93 hb92 => ?_) (fun y93 hy93 hb92 => ?_)
              · replace H := cond_t H hb92
                subst hy93
                refine awp_regionL1 ?_
                refine goL_s (st_fa_p (o' := 1) fi_78_1 (by decide) rfl (hpL_miss rfl (hpL_miss rfl (hpL_miss rfl hpL_hit))) rfl) rfl ?_
                refine goL_s (st_ld_p (c := (PV.d true (.int .i64 x57))) ty_3 rfl (hpL_miss rfl (hpL_miss rfl (hpL_miss rfl hpL_hit))) rfl) rfl ?_
                refine goL_s (st_bin rfl rfl rfl rfl trivial) rfl ?_
                refine goL_s (st_fa_p (o' := 1) fi_78_1 (by decide) rfl (hpL_miss rfl (hpL_miss rfl (hpL_miss rfl hpL_hit))) rfl) rfl ?_
                refine goL_o0 (st_sto (x := (PV.d true (.int .i64 (IntKind.wrap .i64 (x57 + (1 : Int)))))) (cs := [(PV.d true (.int .i64 (IntKind.wrap .i64 (x57 + (1 : Int)))))]) (row' := [(PV.d true (.int .i64 x16)), (PV.d true (.int .i64 (IntKind.wrap .i64 (x57 + (1 : Int))))), (PV.d true (.int .i64 x58)), (PV.d true (.int .i64 (intD ((((cellsD x1).drop ((x16).toNat * 4))).getD 2 .nil))))]) ty_3 rfl (hpL_miss rfl (hpL_miss rfl (hpL_miss rfl hpL_hit))) rfl rfl rfl (Nat.le_of_ble_eq_true rfl) ⟨rfl, trivial⟩ rfl) rfl ?_
                refine thenA_n ?_
                unfold J19_4
                exact ⟨_, v53, v54, v55, v56, (IntKind.wrap .i64 (x57 + (1 : Int))), Gh.join ⟨rfl, rfl, rfl, rfl, rfl, rfl, rfl, rfl, rfl, trivial⟩ ⟨(hpL_miss rfl hpL_hit), (hpL_miss rfl (hpL_miss rfl hpL_hit)), (hpL_miss rfl (hpL_miss rfl (hpL_miss rfl hpL_hit))), hpL_hit, trivial⟩, fun id hid => (hpL_low hid).trans (hlow60 id hid), H⟩
              · replace H := cond_f H hb92
                subst hy93
                refine awp_skip ?_
                refine thenA_n ?_
                unfold J19_4
                exact ⟨_, v53, v54, v55, v56, x57, Gh.join ⟨rfl, rfl, rfl, rfl, rfl, rfl, rfl, rfl, rfl, trivial⟩ ⟨hpL_hit, (hpL_miss rfl hpL_hit), (hpL_miss rfl (hpL_miss rfl hpL_hit)), (hpL_miss rfl (hpL_miss rfl (hpL_miss rfl hpL_hit))), trivial⟩, fun id hid => (hpL_low hid).trans (hlow60 id hid), H⟩
            · intro s hJ
              unfold J19_4 at hJ
              obtain ⟨hpx67, v62, v63, v64, v65, x66, hG69, hlow68, H⟩ := hJ
              unfold F19_K4 at H
              refine awp_gh hG69 ?_
              clear hG69
              refine awp_cut (J19_5 (mkC 72 N Try.prog hp X) N hp x16 x1 x18 x15 x20 (F19_L1 x1 x4 n m1) x66 x4 r) ?_ ?_
              · refine awp_regionL fun y88 hy88 => ?_
                refine goL_s (st_fa_p (o' := 1) fi_61_1 (by decide) rfl (hpL_miss rfl (hpL_miss rfl hpL_hit)) rfl) rfl ?_
                refine goL_s (st_ld_p (c := (PV.d true (.int .i64 (intD ((((cellsD x1).drop ((x16).toNat * 4))).getD 1 .nil))))) ty_3 rfl (hpL_miss rfl (hpL_miss rfl hpL_hit)) rfl) rfl ?_
                refine goL_s (st_bin rfl rfl rfl rfl trivial) rfl ?_
                subst hy88
                refine awp_ifL (b := ((intD ((((cellsD x1).drop ((x16).toNat * 4))).getD 1 .nil)) != (0 : Int))) rfl (fun y90 hy90 hb89 => ?_) (fun y90 hy90 hb89 => ?_)
                · replace H := cond_t H hb89
                  subst hy90
                  refine awp_regionL1 ?_
                  refine goL_s (st_fa_p (o' := 2) fi_78_2 (by decide) rfl (hpL_miss rfl (hpL_miss rfl (hpL_miss rfl hpL_hit))) rfl) rfl ?_
                  refine goL_s (st_ld_p (c := (PV.d true (.int .i64 x58))) ty_3 rfl (hpL_miss rfl (hpL_miss rfl (hpL_miss rfl hpL_hit))) rfl) rfl ?_
                  refine goL_s (st_bin rfl rfl rfl rfl trivial) rfl ?_
                  refine goL_s (st_fa_p (o' := 2) fi_78_2 (by decide) rfl (hpL_miss rfl (hpL_miss rfl (hpL_miss rfl hpL_hit))) rfl) rfl ?_
                  refine goL_o0 (st_sto (x := (PV.d true (.int .i64 (IntKind.wrap .i64 (x58 + (1 : Int)))))) (cs := [(PV.d true (.int .i64 (IntKind.wrap .i64 (x58 + (1 : Int)))))]) (row' := [(PV.d true (.int .i64 x16)), (PV.d true (.int .i64 x66)), (PV.d true (.int .i64 (IntKind.wrap .i64 (x58 + (1 : Int))))), (PV.d true (.int .i64 (intD ((((cellsD x1).drop ((x16).toNat * 4))).getD 2 .nil))))]) ty_3 rfl (hpL_miss rfl (hpL_miss rfl (hpL_miss rfl hpL_hit))) rfl rfl rfl (Nat.le_of_ble_eq_true rfl) ⟨rfl, trivial⟩ rfl) rfl ?_
                  refine thenA_n ?_
                  unfold J19_5
                  exact ⟨_, v62, v63, v64, v65, (IntKind.wrap .i64 (x58 + (1 : Int))), Gh.join ⟨rfl, rfl, rfl, rfl, rfl, rfl, rfl, rfl, rfl, trivial⟩ ⟨(hpL_miss rfl hpL_hit), (hpL_miss rfl (hpL_miss rfl hpL_hit)), (hpL_miss rfl (hpL_miss rfl (hpL_miss rfl hpL_hit))), hpL_hit, trivial⟩, fun id hid => (hpL_low hid).trans (hlow68 id hid), H⟩
                · replace H := cond_f H hb89
                  subst hy90
                  refine awp_skip ?_
                  refine thenA_n ?_
                  unfold J19_5
                  exact ⟨_, v62, v63, v64, v65, x58, Gh.join ⟨rfl, rfl, rfl, rfl, rfl, rfl, rfl, rfl, rfl, trivial⟩ ⟨hpL_hit, (hpL_miss rfl hpL_hit), (hpL_miss rfl (hpL_miss rfl hpL_hit)), (hpL_miss rfl (hpL_miss rfl (hpL_miss rfl hpL_hit))), trivial⟩, fun id hid => (hpL_low hid).trans (hlow68 id hid), H⟩
              · intro s hJ
                unfold J19_5 at hJ
                obtain ⟨hpx75, v70, v71, v72, v73, x74, hG77, hlow76, H⟩ := hJ
                unfold F19_K5 at H
                refine awp_gh hG77 ?_
                clear hG77
                refine awp_regionL fun y78 hy78 => ?_
                refine goL_s (st_mv (v := (PV.own (N + 14) v70 0 ((lenN x1 : Int)).toNat)) rfl) rfl ?_
                refine goL_s (st_mv (v := (PV.d true (.int .i64 x16))) rfl) rfl ?_
                refine goL_s (st_ldA_p (cs := [(PV.d true (.int .i64 x16)), (PV.d true (.int .i64 x66)), (PV.d true (.int .i64 x74)), (PV.d true (.int .i64 (intD ((((cellsD x1).drop ((x16).toNat * 4))).getD 2 .nil))))]) ty_78 rfl (hpL_miss rfl (hpL_miss rfl (hpL_miss rfl hpL_hit))) (Nat.le_of_ble_eq_true rfl) rfl) rfl ?_
                obtain ⟨g79, H⟩ := gd_out H
                refine goL_s (st_ia_o el_73 sz_78 (by decide) rfl hpL_hit rfl g79) rfl ?_
                obtain ⟨g80, H⟩ := gd_out H
                refine goL_o0 (st_sto (x := (PV.agg [(PV.d true (.int .i64 x16)), (PV.d true (.int .i64 x66)), (PV.d true (.int .i64 x74)), (PV.d true (.int .i64 (intD ((((cellsD x1).drop ((x16).toNat * 4))).getD 2 .nil))))])) (cs := ([(.int .i64 x16), (.int .i64 x66), (.int .i64 x74), (.int .i64 (intD ((((cellsD x1).drop ((x16).toNat * 4))).getD 2 .nil)))] : List PD).map (PV.d true)) (row := (x18).map (PV.d true)) ty_78 rfl hpL_hit rfl rfl rfl (by rw [List.length_map]; exact g80) ⟨rfl, rfl, rfl, rfl, trivial⟩ row_setD) rfl ?_
                subst hy78
                refine awp_regionL fun y81 hy81 => ?_
                refine goL_s (st_fa_p (o' := 2) fi_61_2 (by decide) rfl (hpL_miss rfl (hpL_miss rfl (hpL_miss rfl hpL_hit))) rfl) rfl ?_
                refine goL_s (st_ld_p (c := (PV.d true (.int .i64 (intD ((((cellsD x1).drop ((x16).toNat * 4))).getD 2 .nil))))) ty_3 rfl (hpL_miss rfl (hpL_miss rfl (hpL_miss rfl hpL_hit))) rfl) rfl ?_
                refine goL_s (st_bin rfl rfl rfl rfl trivial) rfl ?_
                subst hy81
                refine awp_ifL (b := ((intD ((((cellsD x1).drop ((x16).toNat * 4))).getD 2 .nil)) != (0 : Int))) rfl (fun y83 hy83 hb82 => ?_) (fun y83 hy83 hb82 => ?_)
                · replace H := cond_t H hb82
                  subst hy83
                  refine awp_regionL1 ?_
                  refine goL_s (st_mv (v := (PV.own (N + 68) v71 0 x15)) rfl) rfl ?_
                  refine goL_s (st_ldA_p (cs := [(PV.d true (.int .i64 x16)), (PV.d true (.int .i64 x66)), (PV.d true (.int .i64 x74)), (PV.d true (.int .i64 (intD ((((cellsD x1).drop ((x16).toNat * 4))).getD 2 .nil))))]) ty_78 rfl (hpL_miss rfl (hpL_miss rfl (hpL_miss rfl (hpL_miss rfl hpL_hit)))) (Nat.le_of_ble_eq_true rfl) rfl) rfl ?_
                  refine goL_n (d' := 67) (st_bs1 (x := (PV.agg [(PV.d true (.int .i64 x16)), (PV.d true (.int .i64 x66)), (PV.d true (.int .i64 x74)), (PV.d true (.int .i64 (intD ((((cellsD x1).drop ((x16).toNat * 4))).getD 2 .nil))))])) (cs := [(PV.d true (.int .i64 x16)), (PV.d true (.int .i64 x66)), (PV.d true (.int .i64 x74)), (PV.d true (.int .i64 (intD ((((cellsD x1).drop ((x16).toNat * 4))).getD 2 .nil))))]) el_73 ze_78 sz_78 (by decide) rfl (by decide) rfl rfl rfl ⟨rfl, rfl, rfl, rfl, trivial⟩) rfl fun v84 => ?_
                  obtain ⟨⟨g85, g86⟩, H⟩ := gd_out H
                  refine goL_n (d' := 68) (st_ap_o (row := (x20).map (PV.d true)) (news := (([(.int .i64 x16), (.int .i64 x66), (.int .i64 x74), (.int .i64 (intD ((((cellsD x1).drop ((x16).toNat * 4))).getD 2 .nil)))] : List PD)).map (PV.d true)) (m := 1) (vy := (PV.own (N + 67) v84 0 1)) el_73 ze_78 sz_78 by_78 (by decide) rfl rfl (hpL_miss rfl (hpL_miss rfl (hpL_miss rfl hpL_hit))) rfl (src_own sz_78 hpL_hit rfl) g85 (by rw [List.length_map]; exact g86) (app_D _ _)) rfl fun v87 => ?_
                  refine goL_s (st_as (v := (PV.own (N + 68) v87 0 (x15 + 1))) rfl) rfl ?_
                  refine blockA_n ?_
                  refine thenA_n ?_
                  unfold J19_2
                  exact ⟨_, v70, v87, (x15 + 1), (setD x18 ((x16).toNat * 4) [(.int .i64 x16), (.int .i64 x66), (.int .i64 x74), (.int .i64 (intD ((((cellsD x1).drop ((x16).toNat * 4))).getD 2 .nil)))]), (x20 ++ ([(.int .i64 x16), (.int .i64 x66), (.int .i64 x74), (.int .i64 (intD ((((cellsD x1).drop ((x16).toNat * 4))).getD 2 .nil)))] : List PD)), Gh.join ⟨rfl, rfl, rfl, rfl, rfl, rfl, trivial⟩ ⟨(hpL_miss rfl (hpL_miss rfl hpL_hit)), hpL_hit, trivial⟩, fun id hid => (hpL_low hid).trans (hlow76 id hid), H⟩
                · replace H := cond_f H hb82
                  subst hy83
                  refine awp_skip ?_
                  refine blockA_n ?_
                  refine thenA_n ?_
                  unfold J19_2
                  exact ⟨_, v70, v71, x15, (setD x18 ((x16).toNat * 4) [(.int .i64 x16), (.int .i64 x66), (.int .i64 x74), (.int .i64 (intD ((((cellsD x1).drop ((x16).toNat * 4))).getD 2 .nil)))]), x20, Gh.join ⟨rfl, rfl, rfl, rfl, rfl, rfl, trivial⟩ ⟨hpL_hit, (hpL_miss rfl (hpL_miss rfl hpL_hit)), trivial⟩, fun id hid => (hpL_low hid).trans (hlow76 id hid), H⟩
        · intro s hJ
          unfold J19_2 at hJ
          obtain ⟨hpx39, v35, v37, x34, x36, x38, hG41, hlow40, H⟩ := hJ
          unfold F19_K2 at H
          refine awp_gh hG41 ?_
          clear hG41
          refine awp_regionL1 ?_
          refine goL_s (st_bin rfl rfl rfl rfl trivial) rfl ?_
          refine goL_s (st_mv (v := (PV.d true (.int .i64 (IntKind.wrap .i64 (x16 + (1 : Int)))))) rfl) rfl ?_
          refine thenA_n ?_
          refine ⟨m1, Nat.lt_succ_self _, ?_⟩
          unfold J19_1
          exact ⟨_, v35, v37, x34, (IntKind.wrap .i64 (x16 + (1 : Int))), x36, x38, Gh.join ⟨rfl, rfl, rfl, rfl, rfl, rfl, trivial⟩ ⟨hpL_hit, (hpL_miss rfl hpL_hit), trivial⟩, fun id hid => (hpL_low hid).trans (hlow40 id hid), H⟩
      · replace H := cond_f H hb32
        subst hy33
        refine awp_exit ?_
        refine thenA_e ?_
        refine thenA_e ?_
        refine blockA_h ?_
        refine thenA_n ?_
        subst hy11
        refine awp_regionL fun y108 hy108 => ?_
        refine goL_s (st_mv (v := (PV.own (N + 68) v19 0 x15)) rfl) rfl ?_
        obtain ⟨g109, H⟩ := gd_out H
        refine goL_frzc [5, 70] (R := x20) hX ⟨rfl, rfl, trivial⟩ (hpL_miss rfl hpL_hit) (toDs_true _) (mul_sz sz_78 g109) ?_
        obtain ⟨x110, c111, H⟩ := bd_out H
        refine goL_cp (args' := [(PV.d true (.lst x15 x20))]) (r := (PV.d true x110)) rfl rfl ⟨Wk.refl, trivial⟩ enter_38 rfl (f38_calls c111 (N + 72) _) ?_
        refine goL_s (st_as (v := (PV.d true x110)) rfl) rfl ?_
        subst hy108
        refine awp_ret ?_
        obtain rfl := Option.some.inj H
        exact ret1 (res_t (x := (PV.d true x110)) (d := x110) rfl rfl) (fun id hid => (hpL_low hid).trans (hlow28 id hid)) (fun _ _ => rfl) lowOK_same ⟨rfl, rfl⟩ (.inr rfl)

end Go.Proofs.Ytfhpoffgnpgagaa
