/- Functions of the program: what each does, in plain Lean, and that it does. Laid by program. Condition of each: its model answers. -/
import Derived.Test.YtfhpoffgnpgagaaFn1
set_option linter.unusedSimpArgs false
set_option linter.unusedVariables false
namespace Go.Proofs.Ytfhpoffgnpgagaa
open Go Go.Proofs Go.Abs
set_option linter.unusedVariables false
set_option maxRecDepth 100000
def F21_K2 (x34 : Int) : Option (Int) :=
  some x34

def J21_2 (C : Ctx) (N : Nat) (hp : HP) (rr : Int) (s : ASt) : Prop :=
  ∃ (hpx : HP) (x34 : Int), Gh C s ⟨envL [(11, (PV.d true (.int .i64 x34)))], hpL N hpx []⟩ ∧ (∀ id, id < N → hpx id = hp id) ∧ F21_K2 x34 = some rr

def F21_K4 (lo3 : Int → Int → Option (Int)) (x43 : Int) (x53 : Int) : Option (Int) :=
  lo3 x53 (IntKind.wrap .i64 (x43 + (1 : Int)))

def J21_4 (C : Ctx) (N : Nat) (hp : HP) (lo3 : Int → Int → Option (Int)) (x43 : Int) (x1 : PD) (x25 : PD) (x31 : PD) (rr : Int) (s : ASt) : Prop :=
  ∃ (hpx : HP) (x53 : Int), Gh C s ⟨envL [(0, (PV.d true x1)), (9, (PV.d true x25)), (10, (PV.d true x31)), (11, (PV.d true (.int .i64 x53))), (53, (PV.d true (.int .i64 (if (lenN x31 : Int) < (lenN x25 : Int) then (lenN x31 : Int) else (lenN x25 : Int))))), (54, (PV.d true (.int .i64 x43)))], hpL N hpx []⟩ ∧ (∀ id, id < N → hpx id = hp id) ∧ F21_K4 lo3 x43 x53 = some rr

def F21_L3 (x31 : PD) (x25 : PD) (x1 : PD) (n : Nat) : Nat → Int → Int → Option (Int)
  | 0, _, _ => none
  | m3 + 1, x42, x43 =>
    bif (decide (x43 < (if (lenN x31 : Int) < (lenN x25 : Int) then (lenN x31 : Int) else (lenN x25 : Int)))) then
      gd (idxOK 1 x25 x43) <|
      gd ((1 ≤ (((cellsD x25).drop ((x43).toNat * 1))).length) ∧ (isI .i64 ((((cellsD x25).drop ((x43).toNat * 1))).getD 0 .nil) = true)) <|
      gd (idxOK 1 x31 x43) <|
      gd ((1 ≤ (((cellsD x31).drop ((x43).toNat * 1))).length) ∧ (isI .i64 ((((cellsD x31).drop ((x43).toNat * 1))).getD 0 .nil) = true)) <|
      bif ((intD ((((cellsD x25).drop ((x43).toNat * 1))).getD 0 .nil)) != (intD ((((cellsD x31).drop ((x43).toNat * 1))).getD 0 .nil))) then
        F21_K2 x42
      else
        gd (idxOK 1 x25 x43) <|
        gd ((1 ≤ (((cellsD x25).drop ((x43).toNat * 1))).length) ∧ (isI .i64 ((((cellsD x25).drop ((x43).toNat * 1))).getD 0 .nil) = true)) <|
        gd (idxOK 4 x1 (intD ((((cellsD x25).drop ((x43).toNat * 1))).getD 0 .nil))) <|
        gd (4 ≤ (((cellsD x1).drop (((intD ((((cellsD x25).drop ((x43).toNat * 1))).getD 0 .nil))).toNat * 4))).length) <|
        gd ((4 ≤ (((cellsD x1).drop (((intD ((((cellsD x25).drop ((x43).toNat * 1))).getD 0 .nil))).toNat * 4))).length) ∧ (isS ((((cellsD x1).drop (((intD ((((cellsD x25).drop ((x43).toNat * 1))).getD 0 .nil))).toNat * 4))).getD 0 .nil) = true) ∧ (isI .i64 ((((cellsD x1).drop (((intD ((((cellsD x25).drop ((x43).toNat * 1))).getD 0 .nil))).toNat * 4))).getD 1 .nil) = true) ∧ (isI .i64 ((((cellsD x1).drop (((intD ((((cellsD x25).drop ((x43).toNat * 1))).getD 0 .nil))).toNat * 4))).getD 2 .nil) = true) ∧ (isI .i64 ((((cellsD x1).drop (((intD ((((cellsD x25).drop ((x43).toNat * 1))).getD 0 .nil))).toNat * 4))).getD 3 .nil) = true)) <|
        bd (F40 n (strD ((((cellsD x1).drop (((intD ((((cellsD x25).drop ((x43).toNat * 1))).getD 0 .nil))).toNat * 4))).getD 0 .nil)) (intD ((((cellsD x1).drop (((intD ((((cellsD x25).drop ((x43).toNat * 1))).getD 0 .nil))).toNat * 4))).getD 1 .nil)) (intD ((((cellsD x1).drop (((intD ((((cellsD x25).drop ((x43).toNat * 1))).getD 0 .nil))).toNat * 4))).getD 2 .nil)) (intD ((((cellsD x1).drop (((intD ((((cellsD x25).drop ((x43).toNat * 1))).getD 0 .nil))).toNat * 4))).getD 3 .nil))) fun x80 =>
        bif (x80 == (42 : Int)) then
          F21_K4 (F21_L3 x31 x25 x1 n m3) x43 (IntKind.wrap .i64 (x42 + (1 : Int)))
        else
          F21_K4 (F21_L3 x31 x25 x1 n m3) x43 x42
    else
      F21_K2 x42

def J21_3 (C : Ctx) (N : Nat) (hp : HP) (x31 : PD) (x25 : PD) (x1 : PD) (n : Nat) (rr : Int) (mm : Nat) (s : ASt) : Prop :=
  ∃ (hpx : HP) (x42 : Int) (x43 : Int), Gh C s ⟨envL [(0, (PV.d true x1)), (9, (PV.d true x25)), (10, (PV.d true x31)), (11, (PV.d true (.int .i64 x42))), (53, (PV.d true (.int .i64 (if (lenN x31 : Int) < (lenN x25 : Int) then (lenN x31 : Int) else (lenN x25 : Int))))), (54, (PV.d true (.int .i64 x43)))], hpL N hpx []⟩ ∧ (∀ id, id < N → hpx id = hp id) ∧ F21_L3 x31 x25 x1 n mm x42 x43 = some rr

def F21_K1 (n : Nat) (x1 : PD) (x6 : PD) (x2 : Int) (x3 : Int) (x9 : Bool) : Option (Int) :=
  bif x9 then
    some (0 : Int)
  else
    bd (F37 n x1) fun x17 =>
    gd (idxOK 4 x6 x2) <|
    gd (0 ≤ (((cellsD x6).drop ((x2).toNat * 4))).length) <|
    gd ((1 ≤ (((((cellsD x6).drop ((x2).toNat * 4))).drop 0)).length) ∧ (isI .i64 ((((((cellsD x6).drop ((x2).toNat * 4))).drop 0)).getD 0 .nil) = true)) <|
    bd (F39 n x17 (intD ((((((cellsD x6).drop ((x2).toNat * 4))).drop 0)).getD 0 .nil))) fun x25 =>
    gd (idxOK 4 x6 x3) <|
    gd (0 ≤ (((cellsD x6).drop ((x3).toNat * 4))).length) <|
    gd ((1 ≤ (((((cellsD x6).drop ((x3).toNat * 4))).drop 0)).length) ∧ (isI .i64 ((((((cellsD x6).drop ((x3).toNat * 4))).drop 0)).getD 0 .nil) = true)) <|
    bd (F39 n x17 (intD ((((((cellsD x6).drop ((x3).toNat * 4))).drop 0)).getD 0 .nil))) fun x31 =>
    gd (isSlD x25 = true) <|
    gd (isSlD x31 = true) <|
    F21_L3 x31 x25 x1 n n (0 : Int) (0 : Int)

def J21_1 (C : Ctx) (N : Nat) (hp : HP) (n : Nat) (x1 : PD) (x6 : PD) (x2 : Int) (x3 : Int) (rr : Int) (s : ASt) : Prop :=
  ∃ (hpx : HP) (x9 : Bool), Gh C s ⟨envL [(0, (PV.d true x1)), (1, (PV.d true (.int .i64 x2))), (2, (PV.d true (.int .i64 x3))), (7, (PV.d true x6)), (32, (PV.d true (.bool x9)))], hpL N hpx []⟩ ∧ (∀ id, id < N → hpx id = hp id) ∧ F21_K1 n x1 x6 x2 x3 x9 = some rr

def F21 (n : Nat) (x1 : PD) (x2 : Int) (x3 : Int) : Option (Int) :=
  bd (F19 n x1) fun x6 =>
  bif (decide (x2 < (0 : Int))) then
    F21_K1 n x1 x6 x2 x3 true
  else
    gd (isSlD x6 = true) <|
    bif (decide ((lenN x6 : Int) ≤ x2)) then
      F21_K1 n x1 x6 x2 x3 true
    else
      bif (decide (x3 < (0 : Int))) then
        F21_K1 n x1 x6 x2 x3 true
      else
        gd (isSlD x6 = true) <|
        F21_K1 n x1 x6 x2 x3 (decide ((lenN x6 : Int) ≤ x3))

set_option maxHeartbeats 4000000 in
theorem f21_calls {n : Nat} {x1 : PD} {x2 : Int} {x3 : Int} {r : Int} (H : F21 n x1 x2 x3 = some r) (N : Nat) (hp : HP) : ACalls Try.prog 21 N [(PV.d true x1), (PV.d true (.int .i64 x2)), (PV.d true (.int .i64 x3))] hp fun r' hp' => r' = (PV.d true (.int .i64 r)) ∧ hp' = hp := by
  unfold F21 at H
  refine acalls_body Try.func21 rfl rfl Try.ntmps21 (by simp) fun X hX => ?_
  refine awp_start (l := [(0, (PV.d true x1)), (1, (PV.d true (.int .i64 x2))), (2, (PV.d true (.int .i64 x3)))]) (N := N) ⟨rfl, rfl, rfl, trivial⟩ ?_
  have hlow0 : ∀ id, id < N → hp id = hp id := fun _ _ => rfl
  refine awp_regionL fun y4 hy4 => ?_
  refine goL_s (st_as (v := (PV.d true (.int .i64 (0 : Int)))) rfl) rfl ?_
  subst hy4
  refine awp_regionL fun y5 hy5 => ?_
  refine goL_s (st_mv (v := (PV.d true x1)) rfl) rfl ?_
  obtain ⟨x6, c7, H⟩ := bd_out H
  refine goL_cp (args' := [(PV.d true x1)]) (r := (PV.d true x6)) rfl rfl ⟨Wk.refl, trivial⟩ enter_19 rfl (f19_calls c7 (N + 79) _) ?_
  refine goL_s (st_as (v := (PV.d true x6)) rfl) rfl ?_
  subst hy5
  refine awp_hide fun y8 hy8 => ?_
  refine awp_cut (J21_1 (mkC 79 N Try.prog hp X) N hp n x1 x6 x2 x3 r) ?_ ?_
  · refine awp_regionL1 ?_
    refine goL_s (st_mv (v := (PV.d true (.int .i64 x2))) rfl) rfl ?_
    refine goL_s (st_bin rfl rfl rfl rfl trivial) rfl ?_
    refine goL_s (st_mv (v := (PV.d true (.bool (decide (x2 < (0 : Int)))))) rfl) rfl ?_
    refine goL_fork (decide (x2 < (0 : Int))) (fun hb84 => ?_) (fun hb84 => ?_)
    · replace H := cond_t H hb84
      refine goL_gF rfl rfl hb84 rfl ?_
      refine goL_gF rfl rfl hb84 rfl ?_
      refine goL_gF rfl rfl hb84 rfl ?_
      refine goL_gF rfl rfl hb84 rfl ?_
      refine goL_s (st_pickT (v := (PV.d true (.bool true))) rfl hb84 rfl) rfl ?_
      refine goL_s (st_mv (v := (PV.d true (.bool true))) rfl) rfl ?_
      refine goL_gF rfl rfl rfl rfl ?_
      refine goL_gF rfl rfl rfl rfl ?_
      refine goL_s (st_pickT (v := (PV.d true (.bool true))) rfl rfl rfl) rfl ?_
      refine goL_s (st_mv (v := (PV.d true (.bool true))) rfl) rfl ?_
      refine goL_gF rfl rfl rfl rfl ?_
      refine goL_gF rfl rfl rfl rfl ?_
      refine goL_gF rfl rfl rfl rfl ?_
      refine goL_gF rfl rfl rfl rfl ?_
      refine goL_s (st_pickT (v := (PV.d true (.bool true))) rfl rfl rfl) rfl ?_
      refine thenA_n ?_
      unfold J21_1
      exact ⟨_, true, Gh.join ⟨rfl, rfl, rfl, rfl, rfl, trivial⟩ trivial, fun id hid => (hpL_low hid).trans (hlow0 id hid), H⟩
    · replace H := cond_f H hb84
      refine goL_gT rfl rfl hb84 ?_
      refine goL_s (st_mv (v := (PV.d true (.int .i64 x2))) rfl) rfl ?_
      refine goL_gT rfl rfl hb84 ?_
      refine goL_s (st_mv (v := (PV.d true x6)) rfl) rfl ?_
      obtain ⟨g85, H⟩ := gd_out H
      refine goL_gT rfl rfl hb84 ?_
      refine goL_s (st_len_d (id := 0) sl_73 rfl g85) rfl ?_
      refine goL_gT rfl rfl hb84 ?_
      refine goL_s (st_bin rfl rfl rfl rfl trivial) rfl ?_
      refine goL_s (st_pickF (v := (PV.d true (.bool (decide ((lenN x6 : Int) ≤ x2))))) rfl hb84 rfl) rfl ?_
      refine goL_s (st_mv (v := (PV.d true (.bool (decide ((lenN x6 : Int) ≤ x2))))) rfl) rfl ?_
      refine goL_fork (decide ((lenN x6 : Int) ≤ x2)) (fun hb86 => ?_) (fun hb86 => ?_)
      · replace H := cond_t H hb86
        refine goL_gF rfl rfl hb86 rfl ?_
        refine goL_gF rfl rfl hb86 rfl ?_
        refine goL_s (st_pickT (v := (PV.d true (.bool true))) rfl hb86 rfl) rfl ?_
        refine goL_s (st_mv (v := (PV.d true (.bool true))) rfl) rfl ?_
        refine goL_gF rfl rfl rfl rfl ?_
        refine goL_gF rfl rfl rfl rfl ?_
        refine goL_gF rfl rfl rfl rfl ?_
        refine goL_gF rfl rfl rfl rfl ?_
        refine goL_s (st_pickT (v := (PV.d true (.bool true))) rfl rfl rfl) rfl ?_
        refine thenA_n ?_
        unfold J21_1
        exact ⟨_, true, Gh.join ⟨rfl, rfl, rfl, rfl, rfl, trivial⟩ trivial, fun id hid => (hpL_low hid).trans (hlow0 id hid), H⟩
      · replace H := cond_f H hb86
        refine goL_gT rfl rfl hb86 ?_
        refine goL_s (st_mv (v := (PV.d true (.int .i64 x3))) rfl) rfl ?_
        refine goL_gT rfl rfl hb86 ?_
        refine goL_s (st_bin rfl rfl rfl rfl trivial) rfl ?_
        refine goL_s (st_pickF (v := (PV.d true (.bool (decide (x3 < (0 : Int)))))) rfl hb86 rfl) rfl ?_
        refine goL_s (st_mv (v := (PV.d true (.bool (decide (x3 < (0 : Int)))))) rfl) rfl ?_
        refine goL_fork (decide (x3 < (0 : Int))) (fun hb87 => ?_) (fun hb87 => ?_)
        · replace H := cond_t H hb87
          refine goL_gF rfl rfl hb87 rfl ?_
          refine goL_gF rfl rfl hb87 rfl ?_
          refine goL_gF rfl rfl hb87 rfl ?_
          refine goL_gF rfl rfl hb87 rfl ?_
          refine goL_s (st_pickT (v := (PV.d true (.bool true))) rfl hb87 rfl) rfl ?_
          refine thenA_n ?_
          unfold J21_1
          exact ⟨_, true, Gh.join ⟨rfl, rfl, rfl, rfl, rfl, trivial⟩ trivial, fun id hid => (hpL_low hid).trans (hlow0 id hid), H⟩
        · replace H := cond_f H hb87
          refine goL_gT rfl rfl hb87 ?_
          refine goL_s (st_mv (v := (PV.d true (.int .i64 x3))) rfl) rfl ?_
          refine goL_gT rfl rfl hb87 ?_
          refine goL_s (st_mv (v := (PV.d true x6)) rfl) rfl ?_
          obtain ⟨g88, H⟩ := gd_out H
          refine goL_gT rfl rfl hb87 ?_
          refine goL_s (st_len_d (id := 0) sl_73 rfl g88) rfl ?_
          refine goL_gT rfl rfl hb87 ?_
          refine goL_s (st_bin rfl rfl rfl rfl trivial) rfl ?_
          refine goL_s (st_pickF (v := (PV.d true (.bool (decide ((lenN x6 : Int) ≤ x3))))) rfl hb87 rfl) rfl ?_
          refine thenA_n ?_
          unfold J21_1
          exact ⟨_, (decide ((lenN x6 : Int) ≤ x3)), Gh.join ⟨rfl, rfl, rfl, rfl, rfl, trivial⟩ trivial, fun id hid => (hpL_low hid).trans (hlow0 id hid), H⟩
  · intro s hJ
    unfold J21_1 at hJ
    obtain ⟨hpx10, x9, hG12, hlow11, H⟩ := hJ
    unfold F21_K1 at H
    refine awp_gh hG12 ?_
    clear hG12
    refine awp_ifL (b := x9) rfl (fun y14 hy14 hb13 => ?_) (fun y14 hy14 hb13 => ?_)
    · replace H := cond_t H hb13
      subst hy14
      refine awp_regionL fun y15 hy15 => ?_
      refine goL_s (st_as (v := (PV.d true (.int .i64 (0 : Int)))) rfl) rfl ?_
      subst hy15
      refine awp_ret ?_
      refine thenA_r ?_
      obtain rfl := Option.some.inj H
      exact ret1 (res_t (x := (PV.d true (.int .i64 (0 : Int)))) (d := (.int .i64 (0 : Int))) rfl rfl) (fun id hid => (hpL_low hid).trans (hlow11 id hid)) (fun _ _ => rfl) lowOK_same ⟨rfl, rfl⟩ (.inr rfl)
    · replace H := cond_f H hb13
      subst hy14
      refine awp_skip ?_
      refine thenA_n ?_
      subst hy8
      refine awp_regionL fun y16 hy16 => ?_
      refine goL_s (st_mv (v := (PV.d true x1)) rfl) rfl ?_
      obtain ⟨x17, c18, H⟩ := bd_out H
      refine goL_cp (args' := [(PV.d true x1)]) (r := (PV.d true x17)) rfl rfl ⟨Wk.refl, trivial⟩ enter_37 rfl (f37_calls c18 (N + 79) _) ?_
      refine goL_s (st_as (v := (PV.d true x17)) rfl) rfl ?_
      subst hy16
      refine awp_drawL 17 13 [(0, 6), (1, 6), (2, 6), (3, 6), (4, 6), (5, 6)] follows_any (by kernel_rfl) (by kernel_rfl) (by kernel_rfl) (by kernel_rfl) fun opsd20 Kd20 hod20 hKd20 => ?_
      refine goA_r (rd := []) trivial (st_mv (v := (PV.d true x17)) rfl) rfl rfl ?_
      refine goA_r (rd := []) trivial (st_mv (v := (PV.d true x6)) rfl) rfl rfl ?_
      refine goA_r (rd := []) trivial (st_mv (v := (PV.d true (.int .i64 x2))) rfl) rfl rfl ?_
      obtain ⟨g21, H⟩ := gd_out H
      refine goA_r (rd := []) trivial (st_ia_d el_73 sz_78 (by decide) (y := x6) rfl rfl g21) rfl rfl ?_
      obtain ⟨g22, H⟩ := gd_out H
      refine goA_r (rd := []) trivial (st_fa_lp fi_78_0 (by decide) rfl g22) rfl rfl ?_
      obtain ⟨⟨g23, g24⟩, H⟩ := gd_out H
      refine goA_r (rd := []) trivial (st_ld_lp ty_3 rfl g23 (cI g24)) rfl rfl ?_
      obtain ⟨x25, c26, H⟩ := bd_out H
      refine goA_callp (args' := [(PV.d true x17), (PV.d true (.int .i64 (intD ((((((cellsD x6).drop ((x2).toNat * 4))).drop 0)).getD 0 .nil))))]) (r := (PV.d true x25)) rfl rfl ⟨Wk.refl, ⟨Wk.refl, trivial⟩⟩ enter_39 rfl (fun hq => (f39_calls c26 (N + 79) hq)) ?_
      refine goA_r (rd := []) trivial (st_mv (v := (PV.d true x17)) rfl) rfl rfl ?_
      refine goA_r (rd := []) trivial (st_mv (v := (PV.d true x6)) rfl) rfl rfl ?_
      refine goA_r (rd := []) trivial (st_mv (v := (PV.d true (.int .i64 x3))) rfl) rfl rfl ?_
      obtain ⟨g27, H⟩ := gd_out H
      refine goA_r (rd := []) trivial (st_ia_d el_73 sz_78 (by decide) (y := x6) rfl rfl g27) rfl rfl ?_
      obtain ⟨g28, H⟩ := gd_out H
      refine goA_r (rd := []) trivial (st_fa_lp fi_78_0 (by decide) rfl g28) rfl rfl ?_
      obtain ⟨⟨g29, g30⟩, H⟩ := gd_out H
      refine goA_r (rd := []) trivial (st_ld_lp ty_3 rfl g29 (cI g30)) rfl rfl ?_
      refine goA_nil ?_
      rw [hKd20]
      refine ⟨?_, goOps_goL ?_⟩
      · simp [objsW, objsY]
      obtain ⟨x31, c32, H⟩ := bd_out H
      refine goL_cp (args' := [(PV.d true x17), (PV.d true (.int .i64 (intD ((((((cellsD x6).drop ((x3).toNat * 4))).drop 0)).getD 0 .nil))))]) (r := (PV.d true x31)) rfl rfl ⟨Wk.refl, ⟨Wk.refl, trivial⟩⟩ enter_39 rfl (f39_calls c32 (N + 79) _) ?_
      refine goL_s (st_as (v := (PV.d true x25)) rfl) rfl ?_
      refine goL_s (st_as (v := (PV.d true x31)) rfl) rfl ?_
      refine awp_regionL fun y33 hy33 => ?_
      refine goL_s (st_as (v := (PV.d true (.int .i64 (0 : Int)))) rfl) rfl ?_
      subst hy33
      refine awp_cut (J21_2 (mkC 79 N Try.prog hp X) N hp r) ?_ ?_
      · refine awp_regionL fun y39 hy39 => ?_
        refine goL_s (st_mv (v := (PV.d true x25)) rfl) rfl ?_
        obtain ⟨g40, H⟩ := gd_out H
        refine goL_s (st_len_d (id := 0) sl_22 rfl g40) rfl ?_
        refine goL_s (st_mv (v := (PV.d true x31)) rfl) rfl ?_
        obtain ⟨g41, H⟩ := gd_out H
        refine goL_s (st_len_d (id := 0) sl_22 rfl g41) rfl ?_
        refine goL_s (st_min rfl rfl) rfl ?_
        refine goL_s (st_mv (v := (PV.d true (.int .i64 (0 : Int)))) rfl) rfl ?_
        subst hy39
        refine awp_block ?_
        refine awp_loop (J21_3 (mkC 79 N Try.prog hp X) N hp x31 x25 x1 n r) n ?_ ?_
        · unfold J21_3
          exact ⟨_, (0 : Int), (0 : Int), Gh.join ⟨rfl, rfl, rfl, rfl, rfl, rfl, trivial⟩ trivial, fun id hid => (hpL_low hid).trans (hlow11 id hid), H⟩
        · intro m3 s hJ
          unfold J21_3 at hJ
          obtain ⟨hpx46, x42, x43, hG48, hlow47, H⟩ := hJ
          cases m3 with
          | zero => cases H
          | succ m3 =>
            rw [F21_L3] at H
            refine awp_gh hG48 ?_
            clear hG48
            refine awp_regionL fun y49 hy49 => ?_
            refine goL_s (st_bin rfl rfl rfl rfl trivial) rfl ?_
            subst hy49
            refine awp_hide fun y50 hy50 => ?_
            refine awp_ifL (b := (decide (x43 < (if (lenN x31 : Int) < (lenN x25 : Int) then (lenN x31 : Int) else (lenN x25 : Int))))) rfl (fun y52 hy52 hb51 => ?_) (fun y52 hy52 hb51 => ?_)
            · replace H := cond_t H hb51
              subst hy52
              refine awp_skip ?_
              refine thenA_n ?_
              subst hy50
              refine awp_cut (J21_4 (mkC 79 N Try.prog hp X) N hp (F21_L3 x31 x25 x1 n m3) x43 x1 x25 x31 r) ?_ ?_
              · refine awp_block ?_
                refine awp_regionL fun y57 hy57 => ?_
                refine goL_s (st_mv (v := (PV.d true (.int .i64 x43))) rfl) rfl ?_
                refine goL_s (st_as (v := (PV.d true (.int .i64 x43))) rfl) rfl ?_
                subst hy57
                refine awp_hide fun y58 hy58 => ?_
                refine awp_drawL 10 8 [] follows_any (by kernel_rfl) (by kernel_rfl) (by kernel_rfl) (by kernel_rfl) fun opsd60 Kd60 hod60 hKd60 => ?_
                refine goA_s trivial (st_mv (v := (PV.d true x25)) rfl) rfl fun rd0 => ?_
                refine goA_s trivial (st_mv (v := (PV.d true (.int .i64 x43))) rfl) rfl fun rd1 => ?_
                obtain ⟨g61, H⟩ := gd_out H
                refine goA_s trivial (st_ia_d el_22 sz_3 (by decide) (y := x25) rfl rfl g61) rfl fun rd2 => ?_
                obtain ⟨⟨g62, g63⟩, H⟩ := gd_out H
                refine goA_s trivial (st_ld_lp ty_3 rfl g62 (cI g63)) rfl fun rd3 => ?_
                refine goA_s trivial (st_mv (v := (PV.d true x31)) rfl) rfl fun rd4 => ?_
                refine goA_s trivial (st_mv (v := (PV.d true (.int .i64 x43))) rfl) rfl fun rd5 => ?_
                obtain ⟨g64, H⟩ := gd_out H
                refine goA_s trivial (st_ia_d el_22 sz_3 (by decide) (y := x31) rfl rfl g64) rfl fun rd6 => ?_
                obtain ⟨⟨g65, g66⟩, H⟩ := gd_out H
                refine goA_s trivial (st_ld_lp ty_3 rfl g65 (cI g66)) rfl fun rd7 => ?_
                refine goA_nil ?_
                rw [hKd60]
                refine ⟨?_, goOps_goL ?_⟩
                · trivial
                refine goL_s (st_bin rfl rfl rfl rfl trivial) rfl ?_
                refine awp_ifL (b := ((intD ((((cellsD x25).drop ((x43).toNat * 1))).getD 0 .nil)) != (intD ((((cellsD x31).drop ((x43).toNat * 1))).getD 0 .nil)))) rfl (fun y68 hy68 hb67 => ?_) (fun y68 hy68 hb67 => ?_)
                · replace H := cond_t H hb67
                  subst hy68
                  refine awp_exit ?_
                  refine thenA_e ?_
                  refine blockA_m rfl ?_
                  refine thenA_e ?_
                  refine thenA_e ?_
                  refine blockA_h ?_
                  refine thenA_n ?_
                  unfold J21_2
                  exact ⟨_, x42, Gh.join ⟨rfl, trivial⟩ trivial, fun id hid => (hpL_low hid).trans (hlow47 id hid), H⟩
                · replace H := cond_f H hb67
                  subst hy68
                  refine awp_skip ?_
                  refine thenA_n ?_
                  subst hy58
                  refine awp_regionL fun y69 hy69 => ?_
                  refine goL_s (st_mv (v := (PV.d true x1)) rfl) rfl ?_
                  refine goL_s (st_mv (v := (PV.d true x25)) rfl) rfl ?_
                  refine goL_s (st_mv (v := (PV.d true (.int .i64 x43))) rfl) rfl ?_
                  obtain ⟨g70, H⟩ := gd_out H
                  refine goL_s (st_ia_d el_22 sz_3 (by decide) (y := x25) rfl rfl g70) rfl ?_
                  obtain ⟨⟨g71, g72⟩, H⟩ := gd_out H
                  refine goL_s (st_ld_lp ty_3 rfl g71 (cI g72)) rfl ?_
                  obtain ⟨g73, H⟩ := gd_out H
                  refine goL_s (st_ia_d el_26 sz_61 (by decide) (y := x1) rfl rfl g73) rfl ?_
                  obtain ⟨g74, H⟩ := gd_out H
                  refine goL_s (st_ldA_lp ty_61 rfl g74) rfl ?_
                  obtain ⟨⟨g75, g76, g77, g78, g79⟩, H⟩ := gd_out H
                  obtain ⟨x80, c81, H⟩ := bd_out H
                  refine goL_cp (args' := [(PV.agg [(PV.d true (.str (strD ((((cellsD x1).drop (((intD ((((cellsD x25).drop ((x43).toNat * 1))).getD 0 .nil))).toNat * 4))).getD 0 .nil)))), (PV.d true (.int .i64 (intD ((((cellsD x1).drop (((intD ((((cellsD x25).drop ((x43).toNat * 1))).getD 0 .nil))).toNat * 4))).getD 1 .nil)))), (PV.d true (.int .i64 (intD ((((cellsD x1).drop (((intD ((((cellsD x25).drop ((x43).toNat * 1))).getD 0 .nil))).toNat * 4))).getD 2 .nil)))), (PV.d true (.int .i64 (intD ((((cellsD x1).drop (((intD ((((cellsD x25).drop ((x43).toNat * 1))).getD 0 .nil))).toNat * 4))).getD 3 .nil))))])]) (r := (PV.d true (.int .i32 x80))) rfl rfl ⟨(Wk.aggE (by rw [ex4 g75, cS g76, cI g77, cI g78, cI g79])), trivial⟩ enter_40 rfl (f40_calls c81 (N + 79) _) ?_
                  refine goL_s (st_bin rfl rfl rfl rfl trivial) rfl ?_
                  subst hy69
                  refine awp_ifL (b := (x80 == (42 : Int))) rfl (fun y83 hy83 hb82 => ?_) (fun y83 hy83 hb82 => ?_)
                  · replace H := cond_t H hb82
                    subst hy83
                    refine awp_regionL1 ?_
                    refine goL_s (st_mv (v := (PV.d true (.int .i64 x42))) rfl) rfl ?_
                    refine goL_s (st_bin rfl rfl rfl rfl trivial) rfl ?_
                    refine goL_s (st_as (v := (PV.d true (.int .i64 (IntKind.wrap .i64 (x42 + (1 : Int)))))) rfl) rfl ?_
                    refine blockA_n ?_
                    refine thenA_n ?_
                    unfold J21_4
                    exact ⟨_, (IntKind.wrap .i64 (x42 + (1 : Int))), Gh.join ⟨rfl, rfl, rfl, rfl, rfl, rfl, trivial⟩ trivial, fun id hid => (hpL_low hid).trans (hlow47 id hid), H⟩
                  · replace H := cond_f H hb82
                    subst hy83
                    refine awp_skip ?_
                    refine blockA_n ?_
                    refine thenA_n ?_
                    unfold J21_4
                    exact ⟨_, x42, Gh.join ⟨rfl, rfl, rfl, rfl, rfl, rfl, trivial⟩ trivial, fun id hid => (hpL_low hid).trans (hlow47 id hid), H⟩
              · intro s hJ
                unfold J21_4 at hJ
                obtain ⟨hpx54, x53, hG56, hlow55, H⟩ := hJ
                unfold F21_K4 at H
                refine awp_gh hG56 ?_
                clear hG56
                refine awp_regionL1 ?_
                refine goL_s (st_bin rfl rfl rfl rfl trivial) rfl ?_
                refine goL_s (st_mv (v := (PV.d true (.int .i64 (IntKind.wrap .i64 (x43 + (1 : Int)))))) rfl) rfl ?_
                refine thenA_n ?_
                refine ⟨m3, Nat.lt_succ_self _, ?_⟩
                unfold J21_3
                exact ⟨_, x53, (IntKind.wrap .i64 (x43 + (1 : Int))), Gh.join ⟨rfl, rfl, rfl, rfl, rfl, rfl, trivial⟩ trivial, fun id hid => (hpL_low hid).trans (hlow55 id hid), H⟩
            · replace H := cond_f H hb51
              subst hy52
              refine awp_exit ?_
              refine thenA_e ?_
              refine thenA_e ?_
              refine blockA_h ?_
              refine thenA_n ?_
              unfold J21_2
              exact ⟨_, x42, Gh.join ⟨rfl, trivial⟩ trivial, fun id hid => (hpL_low hid).trans (hlow47 id hid), H⟩
      · intro s hJ
        unfold J21_2 at hJ
        obtain ⟨hpx35, x34, hG37, hlow36, H⟩ := hJ
        unfold F21_K2 at H
        refine awp_gh hG37 ?_
        clear hG37
        refine awp_regionL fun y38 hy38 => ?_
        refine goL_s (st_mv (v := (PV.d true (.int .i64 x34))) rfl) rfl ?_
        refine goL_s (st_as (v := (PV.d true (.int .i64 x34))) rfl) rfl ?_
        subst hy38
        refine awp_ret ?_
        obtain rfl := Option.some.inj H
        exact ret1 (res_t (x := (PV.d true (.int .i64 x34))) (d := (.int .i64 x34)) rfl rfl) (fun id hid => (hpL_low hid).trans (hlow36 id hid)) (fun _ _ => rfl) lowOK_same ⟨rfl, rfl⟩ (.inr rfl)

def F23 (n : Nat) (x1 : Int) (x2 : Int) (x3 : Int) (x4 : Int) (x5 : PD) (x6 : Int) (x7 : PD) (x8 : Int) : Option (Bool) :=
  bd (F24 n x7 x1 x2 x3 x4) fun x13 =>
  bd (F21 n x5 x6 x13) fun x15 =>
  some (decide (x8 ≤ x15))

set_option maxHeartbeats 4000000 in
theorem f23_calls {n : Nat} {x1 : Int} {x2 : Int} {x3 : Int} {x4 : Int} {x5 : PD} {x6 : Int} {x7 : PD} {x8 : Int} {r : Bool} (H : F23 n x1 x2 x3 x4 x5 x6 x7 x8 = some r) (N : Nat) (hp : HP) {id1 w1 : Nat} {id2 w2 : Nat} {id3 w3 : Nat} {id4 w4 : Nat} (hid1 : id1 < N) (ho1 : hp id1 = (w1, some (.cells 26 [(PV.d true x5)]))) (hid2 : id2 < N) (ho2 : hp id2 = (w2, some (.cells 3 [(PV.d true (.int .i64 x6))]))) (hid3 : id3 < N) (ho3 : hp id3 = (w3, some (.cells 73 [(PV.d true x7)]))) (hid4 : id4 < N) (ho4 : hp id4 = (w4, some (.cells 3 [(PV.d true (.int .i64 x8))]))) : ACalls Try.prog 23 N [(PV.agg [(PV.d true (.int .i64 x1)), (PV.d true (.int .i64 x2)), (PV.d true (.int .i64 x3)), (PV.d true (.int .i64 x4))]), (PV.ptr id1 w1 0), (PV.ptr id2 w2 0), (PV.ptr id3 w3 0), (PV.ptr id4 w4 0)] hp fun r' hp' => r' = (PV.d true (.bool r)) ∧ hp' = hp := by
  unfold F23 at H
  refine acalls_body Try.func23 rfl rfl Try.ntmps23 (by simp) fun X hX => ?_
  refine awp_start (l := [(0, (PV.agg [(PV.d true (.int .i64 x1)), (PV.d true (.int .i64 x2)), (PV.d true (.int .i64 x3)), (PV.d true (.int .i64 x4))])), (1, (PV.ptr id1 w1 0)), (2, (PV.ptr id2 w2 0)), (3, (PV.ptr id3 w3 0)), (4, (PV.ptr id4 w4 0))]) (N := N) ⟨rfl, rfl, rfl, rfl, rfl, trivial⟩ ?_
  have hlow0 : ∀ id, id < N → hp id = hp id := fun _ _ => rfl
  refine awp_regionL fun y9 hy9 => ?_
  refine goL_n (d' := 5) (st_box (v := (PV.agg [(PV.d true (.int .i64 x1)), (PV.d true (.int .i64 x2)), (PV.d true (.int .i64 x3)), (PV.d true (.int .i64 x4))])) (cs := [(PV.d true (.int .i64 x1)), (PV.d true (.int .i64 x2)), (PV.d true (.int .i64 x3)), (PV.d true (.int .i64 x4))]) rfl rfl ⟨rfl, rfl, rfl, rfl, trivial⟩) rfl fun v10 => ?_
  refine goL_s (st_as (v := (PV.d true (.bool false))) rfl) rfl ?_
  subst hy9
  refine awp_drawL 10 7 [(0, 5), (1, 5), (2, 4), (2, 5), (3, 4), (3, 5), (4, 5)] follows_any (by kernel_rfl) (by kernel_rfl) (by kernel_rfl) (by kernel_rfl) fun opsd12 Kd12 hod12 hKd12 => ?_
  refine goA_r (rd := [id1]) trivial (st_ld_p (c := (PV.d true x5)) ty_26 rfl (hpL_low' hid1 ((hlow0 _ hid1).trans ho1)) rfl) rfl rfl ?_
  refine goA_r (rd := [id2]) trivial (st_ld_p (c := (PV.d true (.int .i64 x6))) ty_3 rfl (hpL_low' hid2 ((hlow0 _ hid2).trans ho2)) rfl) rfl rfl ?_
  refine goA_r (rd := [id3]) trivial (st_ld_p (c := (PV.d true x7)) ty_73 rfl (hpL_low' hid3 ((hlow0 _ hid3).trans ho3)) rfl) rfl rfl ?_
  refine goA_r (rd := [(N + 5)]) trivial (st_ldA_p (cs := [(PV.d true (.int .i64 x1)), (PV.d true (.int .i64 x2)), (PV.d true (.int .i64 x3)), (PV.d true (.int .i64 x4))]) ty_78 rfl hpL_hit (Nat.le_of_ble_eq_true rfl) rfl) rfl rfl ?_
  obtain ⟨x13, c14, H⟩ := bd_out H
  refine goA_callp (args' := [(PV.d true x7), (PV.agg [(PV.d true (.int .i64 x1)), (PV.d true (.int .i64 x2)), (PV.d true (.int .i64 x3)), (PV.d true (.int .i64 x4))])]) (r := (PV.d true (.int .i64 x13))) rfl rfl ⟨Wk.refl, ⟨Wk.refl, trivial⟩⟩ enter_24 rfl (fun hq => (f24_calls c14 (N + 15) hq)) ?_
  obtain ⟨x15, c16, H⟩ := bd_out H
  refine goA_callp (args' := [(PV.d true x5), (PV.d true (.int .i64 x6)), (PV.d true (.int .i64 x13))]) (r := (PV.d true (.int .i64 x15))) rfl rfl ⟨Wk.refl, ⟨Wk.refl, ⟨Wk.refl, trivial⟩⟩⟩ enter_21 rfl (fun hq => (f21_calls c16 (N + 15) hq)) ?_
  refine goA_r (rd := [id4]) trivial (st_ld_p (c := (PV.d true (.int .i64 x8))) ty_3 rfl (hpL_low' hid4 ((hlow0 _ hid4).trans ho4)) rfl) rfl rfl ?_
  refine goA_nil ?_
  rw [hKd12]
  refine ⟨?_, goOps_goL ?_⟩
  · simp [objsW, objsY] <;> omega
  refine goL_s (st_bin rfl rfl rfl rfl trivial) rfl ?_
  refine goL_s (st_as (v := (PV.d true (.bool (decide (x8 ≤ x15))))) rfl) rfl ?_
  refine awp_ret ?_
  obtain rfl := Option.some.inj H
  exact ret1 (res_t (x := (PV.d true (.bool (decide (x8 ≤ x15))))) (d := (.bool (decide (x8 ≤ x15)))) rfl rfl) (fun id hid => (hpL_low hid).trans (hlow0 id hid)) (fun _ _ => rfl) lowOK_same ⟨rfl, rfl⟩ (.inr rfl)

def F22_L1 (x1 : PD) (n : Nat) (x2 : PD) (x3 : Int) (x4 : PD) (x5 : Int) : Nat → Int → Option (Int)
  | 0, _ => none
  | m1 + 1, x10 =>
    bif (decide (x10 < (lenN x1 : Int))) then
      gd (idxOK 4 x1 x10) <|
      gd (4 ≤ (((cellsD x1).drop ((x10).toNat * 4))).length) <|
      gd ((4 ≤ (((cellsD x1).drop ((x10).toNat * 4))).length) ∧ (isI .i64 ((((cellsD x1).drop ((x10).toNat * 4))).getD 0 .nil) = true) ∧ (isI .i64 ((((cellsD x1).drop ((x10).toNat * 4))).getD 1 .nil) = true) ∧ (isI .i64 ((((cellsD x1).drop ((x10).toNat * 4))).getD 2 .nil) = true) ∧ (isI .i64 ((((cellsD x1).drop ((x10).toNat * 4))).getD 3 .nil) = true)) <|
      bd (F23 n (intD ((((cellsD x1).drop ((x10).toNat * 4))).getD 0 .nil)) (intD ((((cellsD x1).drop ((x10).toNat * 4))).getD 1 .nil)) (intD ((((cellsD x1).drop ((x10).toNat * 4))).getD 2 .nil)) (intD ((((cellsD x1).drop ((x10).toNat * 4))).getD 3 .nil)) x2 x3 x4 x5) fun x29 =>
      bif x29 then
        some x10
      else
        (F22_L1 x1 n x2 x3 x4 x5 m1) (IntKind.wrap .i64 (x10 + (1 : Int)))
    else
      some ((-1) : Int)

def J22_1 (C : Ctx) (N : Nat) (hp : HP) (id1 w1 : Nat) (id2 w2 : Nat) (id3 w3 : Nat) (id4 w4 : Nat) (x1 : PD) (n : Nat) (x2 : PD) (x3 : Int) (x4 : PD) (x5 : Int) (rr : Int) (mm : Nat) (s : ASt) : Prop :=
  ∃ (hpx : HP) (x10 : Int), Gh C s ⟨envL [(0, (PV.d true x1)), (1, (PV.fn 23 [] [(PV.ptr id1 w1 0), (PV.ptr id2 w2 0), (PV.ptr id3 w3 0), (PV.ptr id4 w4 0)])), (7, (PV.d true (.int .i64 (lenN x1 : Int)))), (8, (PV.d true (.int .i64 x10)))], hpL N hpx []⟩ ∧ (∀ id, id < N → hpx id = hp id) ∧ F22_L1 x1 n x2 x3 x4 x5 mm x10 = some rr

def F22 (n : Nat) (x1 : PD) (x2 : PD) (x3 : Int) (x4 : PD) (x5 : Int) : Option (Int) :=
  gd (isSlD x1 = true) <|
  F22_L1 x1 n x2 x3 x4 x5 n (0 : Int)

set_option maxHeartbeats 4000000 in
theorem f22_calls {n : Nat} {x1 : PD} {x2 : PD} {x3 : Int} {x4 : PD} {x5 : Int} {r : Int} (H : F22 n x1 x2 x3 x4 x5 = some r) (N : Nat) (hp : HP) {id1 w1 : Nat} {id2 w2 : Nat} {id3 w3 : Nat} {id4 w4 : Nat} (hid1 : id1 < N) (ho1 : hp id1 = (w1, some (.cells 26 [(PV.d true x2)]))) (hid2 : id2 < N) (ho2 : hp id2 = (w2, some (.cells 3 [(PV.d true (.int .i64 x3))]))) (hid3 : id3 < N) (ho3 : hp id3 = (w3, some (.cells 73 [(PV.d true x4)]))) (hid4 : id4 < N) (ho4 : hp id4 = (w4, some (.cells 3 [(PV.d true (.int .i64 x5))]))) : ACalls Try.prog 22 N [(PV.d true x1), (PV.fn 23 [] [(PV.ptr id1 w1 0), (PV.ptr id2 w2 0), (PV.ptr id3 w3 0), (PV.ptr id4 w4 0)])] hp fun r' hp' => r' = (PV.d true (.int .i64 r)) ∧ hp' = hp := by
  unfold F22 at H
  refine acalls_body Try.func22 rfl rfl Try.ntmps22 (by simp) fun X hX => ?_
  refine awp_start (l := [(0, (PV.d true x1)), (1, (PV.fn 23 [] [(PV.ptr id1 w1 0), (PV.ptr id2 w2 0), (PV.ptr id3 w3 0), (PV.ptr id4 w4 0)]))]) (N := N) ⟨rfl, rfl, trivial⟩ ?_
  have hlow0 : ∀ id, id < N → hp id = hp id := fun _ _ => rfl
  refine awp_regionL fun y6 hy6 => ?_
  refine goL_s (st_as (v := (PV.d true (.int .i64 (0 : Int)))) rfl) rfl ?_
  subst hy6
  refine awp_hide fun y7 hy7 => ?_
  refine awp_regionL fun y8 hy8 => ?_
  refine goL_s (st_mv (v := (PV.d true x1)) rfl) rfl ?_
  obtain ⟨g9, H⟩ := gd_out H
  refine goL_s (st_len_d (id := 0) sl_73 rfl g9) rfl ?_
  refine goL_s (st_mv (v := (PV.d true (.int .i64 (0 : Int)))) rfl) rfl ?_
  subst hy8
  refine awp_block ?_
  refine awp_loop (J22_1 (mkC 19 N Try.prog hp X) N hp id1 w1 id2 w2 id3 w3 id4 w4 x1 n x2 x3 x4 x5 r) n ?_ ?_
  · unfold J22_1
    exact ⟨_, (0 : Int), Gh.join ⟨rfl, rfl, rfl, rfl, trivial⟩ trivial, fun id hid => (hpL_low hid).trans (hlow0 id hid), H⟩
  · intro m1 s hJ
    unfold J22_1 at hJ
    obtain ⟨hpx12, x10, hG14, hlow13, H⟩ := hJ
    cases m1 with
    | zero => cases H
    | succ m1 =>
      rw [F22_L1] at H
      refine awp_gh hG14 ?_
      clear hG14
      refine awp_regionL fun y15 hy15 => ?_
      refine goL_s (st_bin rfl rfl rfl rfl trivial) rfl ?_
      subst hy15
      refine awp_hide fun y16 hy16 => ?_
      refine awp_ifL (b := (decide (x10 < (lenN x1 : Int)))) rfl (fun y18 hy18 hb17 => ?_) (fun y18 hy18 hb17 => ?_)
      · replace H := cond_t H hb17
        subst hy18
        refine awp_skip ?_
        refine thenA_n ?_
        subst hy16
        refine awp_hide fun y19 hy19 => ?_
        refine awp_block ?_
        refine awp_regionL fun y20 hy20 => ?_
        refine goL_s (st_mv (v := (PV.d true (.int .i64 x10))) rfl) rfl ?_
        refine goL_s (st_as (v := (PV.d true (.int .i64 x10))) rfl) rfl ?_
        subst hy20
        refine awp_regionL fun y21 hy21 => ?_
        refine goL_s (st_mv (v := (PV.fn 23 [] [(PV.ptr id1 w1 0), (PV.ptr id2 w2 0), (PV.ptr id3 w3 0), (PV.ptr id4 w4 0)])) rfl) rfl ?_
        refine goL_s (st_mv (v := (PV.d true x1)) rfl) rfl ?_
        refine goL_s (st_mv (v := (PV.d true (.int .i64 x10))) rfl) rfl ?_
        obtain ⟨g22, H⟩ := gd_out H
        refine goL_s (st_ia_d el_73 sz_78 (by decide) (y := x1) rfl rfl g22) rfl ?_
        obtain ⟨g23, H⟩ := gd_out H
        refine goL_s (st_ldA_lp ty_78 rfl g23) rfl ?_
        obtain ⟨⟨g24, g25, g26, g27, g28⟩, H⟩ := gd_out H
        obtain ⟨x29, c30, H⟩ := bd_out H
        refine goL_cp (args' := [(PV.agg [(PV.d true (.int .i64 (intD ((((cellsD x1).drop ((x10).toNat * 4))).getD 0 .nil)))), (PV.d true (.int .i64 (intD ((((cellsD x1).drop ((x10).toNat * 4))).getD 1 .nil)))), (PV.d true (.int .i64 (intD ((((cellsD x1).drop ((x10).toNat * 4))).getD 2 .nil)))), (PV.d true (.int .i64 (intD ((((cellsD x1).drop ((x10).toNat * 4))).getD 3 .nil))))]), (PV.ptr id1 w1 0), (PV.ptr id2 w2 0), (PV.ptr id3 w3 0), (PV.ptr id4 w4 0)]) (r := (PV.d true (.bool x29))) rfl rfl ⟨(Wk.aggE (by rw [ex4 g24, cI g25, cI g26, cI g27, cI g28])), ⟨Wk.refl, ⟨Wk.refl, ⟨Wk.refl, ⟨Wk.refl, trivial⟩⟩⟩⟩⟩ enter_23 rfl (f23_calls c30 (N + 19) _ (Nat.lt_of_lt_of_le hid1 (Nat.le_add_right _ _)) (hpL_low' hid1 ((hlow13 _ hid1).trans ho1)) (Nat.lt_of_lt_of_le hid2 (Nat.le_add_right _ _)) (hpL_low' hid2 ((hlow13 _ hid2).trans ho2)) (Nat.lt_of_lt_of_le hid3 (Nat.le_add_right _ _)) (hpL_low' hid3 ((hlow13 _ hid3).trans ho3)) (Nat.lt_of_lt_of_le hid4 (Nat.le_add_right _ _)) (hpL_low' hid4 ((hlow13 _ hid4).trans ho4))) ?_
        subst hy21
        refine awp_ifL (b := x29) rfl (fun y32 hy32 hb31 => ?_) (fun y32 hy32 hb31 => ?_)
        · replace H := cond_t H hb31
          subst hy32
          refine awp_regionL fun y33 hy33 => ?_
          refine goL_s (st_mv (v := (PV.d true (.int .i64 x10))) rfl) rfl ?_
          refine goL_s (st_as (v := (PV.d true (.int .i64 x10))) rfl) rfl ?_
          subst hy33
          refine awp_ret ?_
          refine blockA_r ?_
          refine thenA_r ?_
          refine thenA_r ?_
          refine blockA_r ?_
          refine thenA_r ?_
          obtain rfl := Option.some.inj H
          exact ret1 (res_t (x := (PV.d true (.int .i64 x10))) (d := (.int .i64 x10)) rfl rfl) (fun id hid => (hpL_low hid).trans (hlow13 id hid)) (fun _ _ => rfl) lowOK_same ⟨rfl, rfl⟩ (.inr rfl)
        · replace H := cond_f H hb31
          subst hy32
          refine awp_skip ?_
          refine blockA_n ?_
          refine thenA_n ?_
          subst hy19
          refine awp_regionL1 ?_
          refine goL_s (st_bin rfl rfl rfl rfl trivial) rfl ?_
          refine goL_s (st_mv (v := (PV.d true (.int .i64 (IntKind.wrap .i64 (x10 + (1 : Int)))))) rfl) rfl ?_
          refine thenA_n ?_
          refine ⟨m1, Nat.lt_succ_self _, ?_⟩
          unfold J22_1
          exact ⟨_, (IntKind.wrap .i64 (x10 + (1 : Int))), Gh.join ⟨rfl, rfl, rfl, rfl, trivial⟩ trivial, fun id hid => (hpL_low hid).trans (hlow13 id hid), H⟩
      · replace H := cond_f H hb17
        subst hy18
        refine awp_exit ?_
        refine thenA_e ?_
        refine thenA_e ?_
        refine blockA_h ?_
        refine thenA_n ?_
        subst hy7
        refine awp_regionL fun y34 hy34 => ?_
        refine goL_s (st_as (v := (PV.d true (.int .i64 ((-1) : Int)))) rfl) rfl ?_
        subst hy34
        refine awp_ret ?_
        obtain rfl := Option.some.inj H
        exact ret1 (res_t (x := (PV.d true (.int .i64 ((-1) : Int)))) (d := (.int .i64 ((-1) : Int))) rfl rfl) (fun id hid => (hpL_low hid).trans (hlow13 id hid)) (fun _ _ => rfl) lowOK_same ⟨rfl, rfl⟩ (.inr rfl)

def F20 (n : Nat) (x1 : Int) (x2 : Int) (x3 : PD) (x4 : PD) : Option (Int) :=
  bd (F21 n x3 x1 (IntKind.wrap .i64 (x1 + (1 : Int)))) fun x11 =>
  bif (decide (x2 ≤ x11)) then
    some (IntKind.wrap .i64 (x1 + (1 : Int)))
  else
    bd (F22 n x4 x3 x1 x4 x2) fun x17 =>
    some x17

set_option maxHeartbeats 4000000 in
theorem f20_calls {n : Nat} {x1 : Int} {x2 : Int} {x3 : PD} {x4 : PD} {r : Int} (H : F20 n x1 x2 x3 x4 = some r) (N : Nat) (hp : HP) {id1 w1 : Nat} {id2 w2 : Nat} (hid1 : id1 < N) (ho1 : hp id1 = (w1, some (.cells 26 [(PV.d true x3)]))) (hid2 : id2 < N) (ho2 : hp id2 = (w2, some (.cells 73 [(PV.d true x4)]))) : ACalls Try.prog 20 N [(PV.d true (.int .i64 x1)), (PV.d true (.int .i64 x2)), (PV.ptr id1 w1 0), (PV.ptr id2 w2 0)] hp fun r' hp' => r' = (PV.d true (.int .i64 r)) ∧ hp' = hp := by
  unfold F20 at H
  refine acalls_body Try.func20 rfl rfl Try.ntmps20 (by simp) fun X hX => ?_
  refine awp_start (l := [(0, (PV.d true (.int .i64 x1))), (1, (PV.d true (.int .i64 x2))), (2, (PV.ptr id1 w1 0)), (3, (PV.ptr id2 w2 0))]) (N := N) ⟨rfl, rfl, rfl, rfl, trivial⟩ ?_
  have hlow0 : ∀ id, id < N → hp id = hp id := fun _ _ => rfl
  refine awp_regionL fun y5 hy5 => ?_
  refine goL_n (d' := 4) (st_box (v := (PV.d true (.int .i64 x1))) (cs := [(PV.d true (.int .i64 x1))]) rfl rfl ⟨rfl, trivial⟩) rfl fun v6 => ?_
  refine goL_n (d' := 5) (st_box (v := (PV.d true (.int .i64 x2))) (cs := [(PV.d true (.int .i64 x2))]) rfl rfl ⟨rfl, trivial⟩) rfl fun v7 => ?_
  refine goL_s (st_as (v := (PV.d true (.int .i64 (0 : Int)))) rfl) rfl ?_
  subst hy5
  refine awp_hide fun y8 hy8 => ?_
  refine awp_drawL 8 6 [(1, 5), (2, 5), (3, 5), (4, 5)] follows_any (by kernel_rfl) (by kernel_rfl) (by kernel_rfl) (by kernel_rfl) fun opsd10 Kd10 hod10 hKd10 => ?_
  refine goA_r (rd := [(N + 5)]) trivial (st_ld_p (c := (PV.d true (.int .i64 x2))) ty_3 rfl hpL_hit rfl) rfl rfl ?_
  refine goA_r (rd := [id1]) trivial (st_ld_p (c := (PV.d true x3)) ty_26 rfl (hpL_low' hid1 ((hlow0 _ hid1).trans ho1)) rfl) rfl rfl ?_
  refine goA_r (rd := [(N + 4)]) trivial (st_ld_p (c := (PV.d true (.int .i64 x1))) ty_3 rfl (hpL_miss rfl hpL_hit) rfl) rfl rfl ?_
  refine goA_r (rd := [(N + 4)]) trivial (st_ld_p (c := (PV.d true (.int .i64 x1))) ty_3 rfl (hpL_miss rfl hpL_hit) rfl) rfl rfl ?_
  refine goA_r (rd := []) trivial (st_bin rfl rfl rfl rfl trivial) rfl rfl ?_
  obtain ⟨x11, c12, H⟩ := bd_out H
  refine goA_callp (args' := [(PV.d true x3), (PV.d true (.int .i64 x1)), (PV.d true (.int .i64 (IntKind.wrap .i64 (x1 + (1 : Int)))))]) (r := (PV.d true (.int .i64 x11))) rfl rfl ⟨Wk.refl, ⟨Wk.refl, ⟨Wk.refl, trivial⟩⟩⟩ enter_21 rfl (fun hq => (f21_calls c12 (N + 19) hq)) ?_
  refine goA_nil ?_
  rw [hKd10]
  refine ⟨?_, goOps_goL ?_⟩
  · simp [objsW, objsY] <;> omega
  refine goL_s (st_bin rfl rfl rfl rfl trivial) rfl ?_
  refine awp_ifL (b := (decide (x2 ≤ x11))) rfl (fun y14 hy14 hb13 => ?_) (fun y14 hy14 hb13 => ?_)
  · replace H := cond_t H hb13
    subst hy14
    refine awp_regionL fun y15 hy15 => ?_
    refine goL_s (st_ld_p (c := (PV.d true (.int .i64 x1))) ty_3 rfl (hpL_miss rfl hpL_hit) rfl) rfl ?_
    refine goL_s (st_bin rfl rfl rfl rfl trivial) rfl ?_
    refine goL_s (st_as (v := (PV.d true (.int .i64 (IntKind.wrap .i64 (x1 + (1 : Int)))))) rfl) rfl ?_
    subst hy15
    refine awp_ret ?_
    refine thenA_r ?_
    obtain rfl := Option.some.inj H
    exact ret1 (res_t (x := (PV.d true (.int .i64 (IntKind.wrap .i64 (x1 + (1 : Int)))))) (d := (.int .i64 (IntKind.wrap .i64 (x1 + (1 : Int))))) rfl rfl) (fun id hid => (hpL_low hid).trans (hlow0 id hid)) (fun _ _ => rfl) lowOK_same ⟨rfl, rfl⟩ (.inr rfl)
  · replace H := cond_f H hb13
    subst hy14
    refine awp_skip ?_
    refine thenA_n ?_
    subst hy8
    refine awp_regionL fun y16 hy16 => ?_
    refine goL_s (st_ld_p (c := (PV.d true x4)) ty_73 rfl (hpL_low' hid2 ((hlow0 _ hid2).trans ho2)) rfl) rfl ?_
    refine goL_s (st_mkf (v := (PV.fn 23 [] [(PV.ptr id1 w1 0), (PV.ptr (N + 4) v6 0), (PV.ptr id2 w2 0), (PV.ptr (N + 5) v7 0)])) rfl) rfl ?_
    obtain ⟨x17, c18, H⟩ := bd_out H
    refine goL_cp (args' := [(PV.d true x4), (PV.fn 23 [] [(PV.ptr id1 w1 0), (PV.ptr (N + 4) v6 0), (PV.ptr id2 w2 0), (PV.ptr (N + 5) v7 0)])]) (r := (PV.d true (.int .i64 x17))) rfl rfl ⟨Wk.refl, ⟨Wk.refl, trivial⟩⟩ enter_22 rfl (f22_calls c18 (N + 19) _ (Nat.lt_of_lt_of_le hid1 (Nat.le_add_right _ _)) (hpL_low' hid1 ((hlow0 _ hid1).trans ho1)) (show (N + 4) < N + 19 from Nat.add_lt_add_left (by decide) N) (hpL_miss rfl hpL_hit) (Nat.lt_of_lt_of_le hid2 (Nat.le_add_right _ _)) (hpL_low' hid2 ((hlow0 _ hid2).trans ho2)) (show (N + 5) < N + 19 from Nat.add_lt_add_left (by decide) N) hpL_hit) ?_
    refine goL_s (st_as (v := (PV.d true (.int .i64 x17))) rfl) rfl ?_
    subst hy16
    refine awp_ret ?_
    obtain rfl := Option.some.inj H
    exact ret1 (res_t (x := (PV.d true (.int .i64 x17))) (d := (.int .i64 x17)) rfl rfl) (fun id hid => (hpL_low hid).trans (hlow0 id hid)) (fun _ _ => rfl) lowOK_same ⟨rfl, rfl⟩ (.inr rfl)

def F9_L2 (x6 : PD) (x21 : Int) (x25 : List PD) (n : Nat) (x1 : PD) (lo1 : Int → List PD → Option (PD)) : Nat → Int → Nat → List PD → Option (PD)
  | 0, _, _, _ => none
  | m2 + 1, x53, x57, x59 =>
    bif (decide (x53 < (IntKind.wrap .i64 ((intD ((((cellsD x6).drop ((x21).toNat * 4))).getD 1 .nil)) + (1 : Int))))) then
      gd (0 ≤ x21 ∧ x21 < (((lenN x6 : Int)).toNat : Nat)) <|
      gd (((x21).toNat * 1) < (x25).length) <|
      bd (F20 n x21 x53 x1 x6) fun x79 =>
      gd ((apOK 8 (x57 + 1)) ∧ (x57 * 1 = (x59).length)) <|
      gd (0 ≤ x21 ∧ x21 < (((lenN x6 : Int)).toNat : Nat)) <|
      gd (((x21).toNat * 1) < (x25).length) <|
      (F9_L2 x6 x21 x25 n x1 lo1 m2) (IntKind.wrap .i64 (x53 + (1 : Int))) (x57 + 1) (x59 ++ ([(.int .i64 x79)] : List PD))
    else
      gd (0 ≤ x21 ∧ x21 < (((lenN x6 : Int)).toNat : Nat)) <|
      gd (((x21).toNat * 1) < (x25).length) <|
      gd (x57 * 1 = (x59).length) <|
      bd (F25 n (.lst x57 x59)) fun x90 =>
      gd (0 ≤ x21 ∧ x21 < (((lenN x6 : Int)).toNat : Nat)) <|
      gd ((isSlD x90 = true) ∧ (((x21).toNat * 1) < (x25).length)) <|
      lo1 (IntKind.wrap .i64 (x21 + (1 : Int))) (setD x25 ((x21).toNat * 1) [x90])

def J9_2 (C : Ctx) (N : Nat) (hp : HP) (x6 : PD) (x21 : Int) (x25 : List PD) (n : Nat) (x1 : PD) (lo1 : Int → List PD → Option (PD)) (rr : PD) (mm : Nat) (s : ASt) : Prop :=
  ∃ (hpx : HP) (v54 v55 v56 v58 : Nat) (x53 : Int) (x57 : Nat) (x59 : List PD), Gh C s ⟨envL [(4, (PV.fn 20 [] [(PV.ptr (N + 1) v54 0), (PV.ptr (N + 3) v55 0)])), (5, (PV.own (N + 14) v56 0 ((lenN x6 : Int)).toNat)), (6, (PV.d true (.int .i64 x21))), (15, (PV.d true x6)), (16, (PV.d true (.int .i64 (lenN x6 : Int)))), (17, (PV.d true (.int .i64 x21))), (24, (PV.d true (.int .i64 (IntKind.wrap .i64 ((intD ((((cellsD x6).drop ((x21).toNat * 4))).getD 1 .nil)) + (1 : Int)))))), (25, (PV.d true (.int .i64 x53)))], hpL N hpx [(1, (v54, some (.cells 26 [(PV.d true x1)]))), (3, (v55, some (.cells 73 [(PV.d true x6)]))), (14, (v56, some (.cells 22 (setAt ((x25).map (PV.d true)) ((x21).toNat * 1) [(PV.own (N + 39) v58 0 x57)])))), (39, (v58, some (.cells 3 ((x59).map (PV.d true)))))]⟩ ∧ (∀ id, id < N → hpx id = hp id) ∧ F9_L2 x6 x21 x25 n x1 lo1 mm x53 x57 x59 = some rr

def F9_L1 (x6 : PD) (n : Nat) (x1 : PD) : Nat → Int → List PD → Option (PD)
  | 0, _, _ => none
  | m1 + 1, x21, x25 =>
    bif (decide (x21 < (lenN x6 : Int))) then
      gd (idxOK 4 x6 x21) <|
      gd (4 ≤ (((cellsD x6).drop ((x21).toNat * 4))).length) <|
      gd ((4 ≤ (((cellsD x6).drop ((x21).toNat * 4))).length) ∧ (isI .i64 ((((cellsD x6).drop ((x21).toNat * 4))).getD 0 .nil) = true) ∧ (isI .i64 ((((cellsD x6).drop ((x21).toNat * 4))).getD 1 .nil) = true) ∧ (isI .i64 ((((cellsD x6).drop ((x21).toNat * 4))).getD 2 .nil) = true) ∧ (isI .i64 ((((cellsD x6).drop ((x21).toNat * 4))).getD 3 .nil) = true)) <|
      gd ((((x21).toNat * 1) < (x25).length) ∧ (isNilD ((x25).getD ((x21).toNat * 1) .nil) = true)) <|
      F9_L2 x6 x21 x25 n x1 (F9_L1 x6 n x1 m1) n (0 : Int) 0 ([] : List PD)
    else
      gd (((lenN x6 : Int)).toNat * 1 = (x25).length) <|
      some (.lst ((lenN x6 : Int)).toNat x25)

def J9_1 (C : Ctx) (N : Nat) (hp : HP) (x6 : PD) (n : Nat) (x1 : PD) (rr : PD) (mm : Nat) (s : ASt) : Prop :=
  ∃ (hpx : HP) (v22 v23 v24 : Nat) (x21 : Int) (x25 : List PD), Gh C s ⟨envL [(4, (PV.fn 20 [] [(PV.ptr (N + 1) v22 0), (PV.ptr (N + 3) v23 0)])), (5, (PV.own (N + 14) v24 0 ((lenN x6 : Int)).toNat)), (15, (PV.d true x6)), (16, (PV.d true (.int .i64 (lenN x6 : Int)))), (17, (PV.d true (.int .i64 x21)))], hpL N hpx [(1, (v22, some (.cells 26 [(PV.d true x1)]))), (3, (v23, some (.cells 73 [(PV.d true x6)]))), (14, (v24, some (.cells 22 ((x25).map (PV.d true)))))]⟩ ∧ (∀ id, id < N → hpx id = hp id) ∧ F9_L1 x6 n x1 mm x21 x25 = some rr

def F9 (n : Nat) (x1 : PD) : Option (PD) :=
  gd (isSlD x1 = true) <|
  bd (F19 n x1) fun x6 =>
  gd (isSlD x6 = true) <|
  gd (isSlD x6 = true) <|
  gd (mkOK 24 (lenN x6 : Int)) <|
  gd (isSlD x6 = true) <|
  F9_L1 x6 n x1 n (0 : Int) (rowZD ([.nil] : List PD) ((lenN x6 : Int)).toNat)

set_option maxHeartbeats 4000000 in
theorem f9_calls {n : Nat} {x1 : PD} {r : PD} (H : F9 n x1 = some r) (N : Nat) (hp : HP) : ACalls Try.prog 9 N [(PV.d true x1)] hp fun r' hp' => r' = (PV.d true r) ∧ hp' = hp := by
  unfold F9 at H
  refine acalls_body Try.func9 rfl rfl Try.ntmps9 (by simp) fun X hX => ?_
  refine awp_start (l := [(0, (PV.d true x1))]) (N := N) ⟨rfl, trivial⟩ ?_
  have hlow0 : ∀ id, id < N → hp id = hp id := fun _ _ => rfl
  refine awp_regionL fun y2 hy2 => ?_
  obtain ⟨g3, H⟩ := gd_out H
  refine goL_n (d' := 1) (st_box (v := (PV.d true x1)) (cs := [(PV.d true x1)]) rfl (cells_sl g3) ⟨oneSl g3, trivial⟩) rfl fun v4 => ?_
  refine goL_s (st_as (v := (PV.d true .nil)) rfl) rfl ?_
  subst hy2
  refine awp_regionL fun y5 hy5 => ?_
  refine goL_s (st_ld_p (c := (PV.d true x1)) ty_26 rfl hpL_hit rfl) rfl ?_
  obtain ⟨x6, c7, H⟩ := bd_out H
  refine goL_cp (args' := [(PV.d true x1)]) (r := (PV.d true x6)) rfl rfl ⟨Wk.refl, trivial⟩ enter_19 rfl (f19_calls c7 (N + 52) _) ?_
  refine goL_n (d' := 3) (st_alloc ze_73) rfl fun v8 => ?_
  obtain ⟨g9, H⟩ := gd_out H
  refine goL_o0 (st_sto (x := (PV.d true x6)) (cs := [(PV.d true x6)]) (row' := [(PV.d true x6)]) ty_73 rfl hpL_hit rfl (cells_sl g9) rfl (Nat.le_of_ble_eq_true rfl) ⟨oneSl g9, trivial⟩ rfl) rfl ?_
  subst hy5
  refine awp_regionL fun y10 hy10 => ?_
  refine goL_s (st_mkf (v := (PV.fn 20 [] [(PV.ptr (N + 1) v4 0), (PV.ptr (N + 3) v8 0)])) rfl) rfl ?_
  refine goL_s (st_as (v := (PV.fn 20 [] [(PV.ptr (N + 1) v4 0), (PV.ptr (N + 3) v8 0)])) rfl) rfl ?_
  subst hy10
  refine awp_regionL fun y11 hy11 => ?_
  refine goL_s (st_ld_p (c := (PV.d true x6)) ty_73 rfl hpL_hit rfl) rfl ?_
  obtain ⟨g12, H⟩ := gd_out H
  refine goL_s (st_len_d (id := 0) sl_73 rfl g12) rfl ?_
  obtain ⟨g13, H⟩ := gd_out H
  refine goL_n (d' := 14) (st_make (zd := ([.nil] : List PD)) el_23 ze_22 sz_22 by_22 (by decide) rfl rfl rfl g13) rfl fun v14 => ?_
  refine goL_s (st_as (v := (PV.own (N + 14) v14 0 ((lenN x6 : Int)).toNat)) rfl) rfl ?_
  subst hy11
  refine awp_hide fun y15 hy15 => ?_
  refine awp_regionL fun y16 hy16 => ?_
  refine goL_s (st_ld_p (c := (PV.d true x6)) ty_73 rfl (hpL_miss rfl hpL_hit) rfl) rfl ?_
  obtain ⟨g17, H⟩ := gd_out H
  refine goL_s (st_len_d (id := 0) sl_73 rfl g17) rfl ?_
  refine goL_s (st_mv (v := (PV.d true (.int .i64 (0 : Int)))) rfl) rfl ?_
  subst hy16
  refine awp_block ?_
  refine awp_loop (J9_1 (mkC 52 N Try.prog hp X) N hp x6 n x1 r) n ?_ ?_
  · unfold J9_1
    exact ⟨_, v4, v8, v14, (0 : Int), (rowZD ([.nil] : List PD) ((lenN x6 : Int)).toNat), Gh.join ⟨rfl, rfl, rfl, rfl, rfl, trivial⟩ ⟨(hpL_miss rfl (hpL_miss rfl (hpL_miss rfl hpL_hit))), (hpL_miss rfl hpL_hit), hpL_hit, trivial⟩, fun id hid => (hpL_low hid).trans (hlow0 id hid), H⟩
  · intro m1 s hJ
    unfold J9_1 at hJ
    obtain ⟨hpx31, v22, v23, v24, x21, x25, hG33, hlow32, H⟩ := hJ
    cases m1 with
    | zero => cases H
    | succ m1 =>
      rw [F9_L1] at H
      refine awp_gh hG33 ?_
      clear hG33
      refine awp_regionL fun y34 hy34 => ?_
      refine goL_s (st_bin rfl rfl rfl rfl trivial) rfl ?_
      subst hy34
      refine awp_hide fun y35 hy35 => ?_
      refine awp_ifL (b := (decide (x21 < (lenN x6 : Int)))) rfl (fun y37 hy37 hb36 => ?_) (fun y37 hy37 hb36 => ?_)
      · replace H := cond_t H hb36
        subst hy37
        refine awp_skip ?_
        refine thenA_n ?_
        subst hy35
        refine awp_hide fun y38 hy38 => ?_
        refine awp_block ?_
        refine awp_regionL fun y39 hy39 => ?_
        refine goL_s (st_mv (v := (PV.d true (.int .i64 x21))) rfl) rfl ?_
        obtain ⟨g40, H⟩ := gd_out H
        refine goL_s (st_ia_d el_73 sz_78 (by decide) (y := x6) rfl rfl g40) rfl ?_
        obtain ⟨g41, H⟩ := gd_out H
        refine goL_s (st_ldA_lp ty_78 rfl g41) rfl ?_
        refine goL_n (d' := 7) (st_alloc ze_78) rfl fun v42 => ?_
        refine goL_s (st_as (v := (PV.d true (.int .i64 x21))) rfl) rfl ?_
        obtain ⟨⟨g43, g44, g45, g46, g47⟩, H⟩ := gd_out H
        refine goL_o0 (st_sto (x := (PV.d true (.agg ((((cellsD x6).drop ((x21).toNat * 4))).take 4)))) (cs := [(PV.d true (.int .i64 (intD ((((cellsD x6).drop ((x21).toNat * 4))).getD 0 .nil)))), (PV.d true (.int .i64 (intD ((((cellsD x6).drop ((x21).toNat * 4))).getD 1 .nil)))), (PV.d true (.int .i64 (intD ((((cellsD x6).drop ((x21).toNat * 4))).getD 2 .nil)))), (PV.d true (.int .i64 (intD ((((cellsD x6).drop ((x21).toNat * 4))).getD 3 .nil))))]) (row' := [(PV.d true (.int .i64 (intD ((((cellsD x6).drop ((x21).toNat * 4))).getD 0 .nil)))), (PV.d true (.int .i64 (intD ((((cellsD x6).drop ((x21).toNat * 4))).getD 1 .nil)))), (PV.d true (.int .i64 (intD ((((cellsD x6).drop ((x21).toNat * 4))).getD 2 .nil)))), (PV.d true (.int .i64 (intD ((((cellsD x6).drop ((x21).toNat * 4))).getD 3 .nil))))]) ty_78 rfl hpL_hit rfl (cells_ad (by rw [ex4 g43, cI g44, cI g45, cI g46, cI g47])) rfl (Nat.le_of_ble_eq_true rfl) ⟨rfl, rfl, rfl, rfl, trivial⟩ rfl) rfl ?_
        subst hy39
        refine awp_hide fun y48 hy48 => ?_
        refine awp_regionL fun y49 hy49 => ?_
        refine goL_s (st_fa_p (o' := 1) fi_78_1 (by decide) rfl hpL_hit rfl) rfl ?_
        refine goL_s (st_ld_p (c := (PV.d true (.int .i64 (intD ((((cellsD x6).drop ((x21).toNat * 4))).getD 1 .nil))))) ty_3 rfl hpL_hit rfl) rfl ?_
        refine goL_s (st_bin rfl rfl rfl rfl trivial) rfl ?_
        refine goL_s (st_mv (v := (PV.d true (.int .i64 (0 : Int)))) rfl) rfl ?_
        subst hy49
        refine awp_block ?_
        refine awp_loop (J9_2 (mkC 52 N Try.prog hp X) N hp x6 x21 x25 n x1 (F9_L1 x6 n x1 m1) r) n ?_ ?_
        · obtain ⟨⟨g96, g97⟩, H⟩ := gd_out H
          unfold J9_2
          exact ⟨_, v22, v23, v24, _, (0 : Int), 0, ([] : List PD), ((Gh.virtC (d := 39) (i := ((x21).toNat * 1)) 3 (Nat.add_lt_add_left (show 39 < 52 by decide) N) (hpL_miss rfl (hpL_miss rfl (hpL_miss rfl (hpL_miss rfl hpL_hit)))) (hole_nil g96 g97) rfl (hole_virt g96)).trans (Gh.join ⟨rfl, rfl, rfl, rfl, rfl, rfl, rfl, rfl, trivial⟩ ⟨(hpL_miss rfl (hpL_miss rfl (hpL_miss rfl (hpL_miss rfl hpL_hit)))), (hpL_miss rfl (hpL_miss rfl (hpL_miss rfl (hpL_miss rfl (hpL_miss rfl hpL_hit))))), hpL_hit, (hpL_miss rfl hpL_hit), trivial⟩)), fun id hid => (hpL_low hid).trans (hlow32 id hid), H⟩
        · intro m2 s hJ
          unfold J9_2 at hJ
          obtain ⟨hpx67, v54, v55, v56, v58, x53, x57, x59, hG69, hlow68, H⟩ := hJ
          cases m2 with
          | zero => cases H
          | succ m2 =>
            rw [F9_L2] at H
            refine awp_gh hG69 ?_
            clear hG69
            refine awp_regionL fun y70 hy70 => ?_
            refine goL_s (st_bin rfl rfl rfl rfl trivial) rfl ?_
            subst hy70
            refine awp_hide fun y71 hy71 => ?_
            refine awp_ifL (b := (decide (x53 < (IntKind.wrap .i64 ((intD ((((cellsD x6).drop ((x21).toNat * 4))).getD 1 .nil)) + (1 : Int)))))) rfl (fun y73 hy73 hb72 => ?_) (fun y73 hy73 hb72 => ?_)
            · replace H := cond_t H hb72
              subst hy73
              refine awp_skip ?_
              refine thenA_n ?_
              subst hy71
              refine awp_hide fun y74 hy74 => ?_
              refine awp_block ?_
              refine awp_regionL fun y75 hy75 => ?_
              refine goL_s (st_mv (v := (PV.d true (.int .i64 x53))) rfl) rfl ?_
              refine goL_s (st_as (v := (PV.d true (.int .i64 x53))) rfl) rfl ?_
              subst hy75
              refine awp_drawL1 15 12 [(2, 11), (3, 11), (4, 11), (5, 11), (6, 9), (6, 10), (6, 11), (7, 9), (7, 10), (7, 11), (8, 9), (8, 10), (8, 11), (9, 10), (9, 11), (10, 11)] follows_any (by kernel_rfl) (by kernel_rfl) (by kernel_rfl) (by kernel_rfl) fun opsd76 Kd76 hod76 hKd76 => ?_
              refine goA_r (rd := []) trivial (st_mv (v := (PV.own (N + 14) v56 0 ((lenN x6 : Int)).toNat)) rfl) rfl rfl ?_
              refine goA_r (rd := []) trivial (st_mv (v := (PV.d true (.int .i64 x21))) rfl) rfl rfl ?_
              refine goA_r (rd := []) trivial (st_mv (v := (PV.own (N + 14) v56 0 ((lenN x6 : Int)).toNat)) rfl) rfl rfl ?_
              refine goA_r (rd := []) trivial (st_mv (v := (PV.d true (.int .i64 x21))) rfl) rfl rfl ?_
              obtain ⟨g77, H⟩ := gd_out H
              refine goA_r (rd := [(N + 14)]) trivial (st_ia_o el_23 sz_22 (by decide) rfl (hpL_miss rfl (hpL_miss rfl hpL_hit)) rfl g77) rfl rfl ?_
              obtain ⟨g78, H⟩ := gd_out H
              refine goA_r (rd := [(N + 14)]) trivial (st_ld_p (c := (PV.own (N + 39) v58 0 x57)) (row := (setAt ((x25).map (PV.d true)) ((x21).toNat * 1) [(PV.own (N + 39) v58 0 x57)])) ty_22 rfl (hpL_miss rfl (hpL_miss rfl hpL_hit)) (hole_at g78)) rfl rfl ?_
              refine goA_r (rd := []) trivial (st_mv (v := (PV.fn 20 [] [(PV.ptr (N + 1) v54 0), (PV.ptr (N + 3) v55 0)])) rfl) rfl rfl ?_
              refine goA_r (rd := []) trivial (st_mv (v := (PV.d true (.int .i64 x21))) rfl) rfl rfl ?_
              refine goA_r (rd := []) trivial (st_mv (v := (PV.d true (.int .i64 x53))) rfl) rfl rfl ?_
              obtain ⟨x79, c80, H⟩ := bd_out H
              refine goA_callr (args' := [(PV.d true (.int .i64 x21)), (PV.d true (.int .i64 x53)), (PV.ptr (N + 1) v54 0), (PV.ptr (N + 3) v55 0)]) (r := (PV.d true (.int .i64 x79))) [(N + 1), (N + 3)] rfl rfl ⟨Wk.refl, ⟨Wk.refl, ⟨Wk.refl, ⟨Wk.refl, trivial⟩⟩⟩⟩ enter_20 rfl (fun hq ha => (f20_calls c80 (N + 52) hq (show (N + 1) < N + 52 from Nat.add_lt_add_left (by decide) N) ((ha _ (by simp)).trans hpL_hit) (show (N + 3) < N + 52 from Nat.add_lt_add_left (by decide) N) ((ha _ (by simp)).trans (hpL_miss rfl hpL_hit)))) ?_
              refine goA_n (d' := 38) (rd := [(N + 38)]) trivial (st_bs1 (x := (PV.d true (.int .i64 x79))) (cs := [(PV.d true (.int .i64 x79))]) el_22 ze_3 sz_3 (by decide) rfl (by decide) rfl rfl rfl ⟨rfl, trivial⟩) rfl rfl fun v81 => ?_
              obtain ⟨⟨g82, g83⟩, H⟩ := gd_out H
              refine goA_n (d' := 39) (rd := [(N + 39), (N + 38), (N + 39)]) trivial (st_ap_o (row := (x59).map (PV.d true)) (news := (([(.int .i64 x79)] : List PD)).map (PV.d true)) (m := 1) (vy := (PV.own (N + 38) v81 0 1)) el_22 ze_3 sz_3 by_3 (by decide) rfl rfl (hpL_miss rfl (hpL_miss rfl (hpL_miss rfl (hpL_miss rfl hpL_hit)))) rfl (src_own sz_3 hpL_hit rfl) g82 (by rw [List.length_map]; exact g83) (app_D _ _)) rfl rfl fun v84 => ?_
              refine goA_nil ?_
              rw [hKd76]
              refine ⟨?_, goOps_goL ?_⟩
              · simp [objsW, objsY]
              obtain ⟨g85, H⟩ := gd_out H
              refine goL_s (st_ia_o el_23 sz_22 (by decide) rfl (hpL_miss rfl (hpL_miss rfl (hpL_miss rfl (hpL_miss rfl hpL_hit)))) rfl g85) rfl ?_
              obtain ⟨g86, H⟩ := gd_out H
              refine goL_o0 (st_sto (x := (PV.own (N + 39) v84 0 (x57 + 1))) (cs := [(PV.own (N + 39) v84 0 (x57 + 1))]) (row := (setAt ((x25).map (PV.d true)) ((x21).toNat * 1) [(PV.own (N + 39) v58 0 x57)])) (row' := (setAt ((x25).map (PV.d true)) ((x21).toNat * 1) [(PV.own (N + 39) v84 0 (x57 + 1))])) ty_22 rfl (hpL_miss rfl (hpL_miss rfl (hpL_miss rfl (hpL_miss rfl hpL_hit)))) rfl rfl rfl (by rw [hole_len g86]; exact g86) ⟨fits_o hpL_hit, trivial⟩ (hole_set g86)) rfl ?_
              refine blockA_n ?_
              refine thenA_n ?_
              subst hy74
              refine awp_regionL1 ?_
              refine goL_s (st_bin rfl rfl rfl rfl trivial) rfl ?_
              refine goL_s (st_mv (v := (PV.d true (.int .i64 (IntKind.wrap .i64 (x53 + (1 : Int)))))) rfl) rfl ?_
              refine thenA_n ?_
              refine ⟨m2, Nat.lt_succ_self _, ?_⟩
              unfold J9_2
              exact ⟨_, v54, v55, v56, v84, (IntKind.wrap .i64 (x53 + (1 : Int))), (x57 + 1), (x59 ++ ([(.int .i64 x79)] : List PD)), Gh.join ⟨rfl, rfl, rfl, rfl, rfl, rfl, rfl, rfl, trivial⟩ ⟨(hpL_miss rfl (hpL_miss rfl (hpL_miss rfl hpL_hit))), (hpL_miss rfl (hpL_miss rfl (hpL_miss rfl (hpL_miss rfl hpL_hit)))), hpL_hit, (hpL_miss rfl hpL_hit), trivial⟩, fun id hid => (hpL_low hid).trans (hlow68 id hid), H⟩
            · replace H := cond_f H hb72
              subst hy73
              refine awp_exit ?_
              refine thenA_e ?_
              refine thenA_e ?_
              refine blockA_h ?_
              refine thenA_n ?_
              subst hy48
              refine awp_regionL1 ?_
              refine goL_s (st_mv (v := (PV.own (N + 14) v56 0 ((lenN x6 : Int)).toNat)) rfl) rfl ?_
              refine goL_s (st_mv (v := (PV.d true (.int .i64 x21))) rfl) rfl ?_
              refine goL_s (st_mv (v := (PV.own (N + 14) v56 0 ((lenN x6 : Int)).toNat)) rfl) rfl ?_
              refine goL_s (st_mv (v := (PV.d true (.int .i64 x21))) rfl) rfl ?_
              obtain ⟨g87, H⟩ := gd_out H
              refine goL_s (st_ia_o el_23 sz_22 (by decide) rfl (hpL_miss rfl (hpL_miss rfl hpL_hit)) rfl g87) rfl ?_
              obtain ⟨g88, H⟩ := gd_out H
              refine goL_s (st_ld_p (c := (PV.own (N + 39) v58 0 x57)) (row := (setAt ((x25).map (PV.d true)) ((x21).toNat * 1) [(PV.own (N + 39) v58 0 x57)])) ty_22 rfl (hpL_miss rfl (hpL_miss rfl hpL_hit)) (hole_at g88)) rfl ?_
              obtain ⟨g89, H⟩ := gd_out H
              refine goL_frzc [47] (R := x59) hX ⟨rfl, trivial⟩ (hpL_miss rfl (hpL_miss rfl (hpL_miss rfl hpL_hit))) (toDs_true _) (mul_sz sz_3 g89) ?_
              obtain ⟨x90, c91, H⟩ := bd_out H
              refine goL_cp (args' := [(PV.d true (.lst x57 x59))]) (r := (PV.d true x90)) rfl rfl ⟨Wk.refl, trivial⟩ enter_25 rfl (f25_calls c91 (N + 52) _) ?_
              obtain ⟨g92, H⟩ := gd_out H
              refine goL_s (st_ia_o el_23 sz_22 (by decide) rfl (hpL_miss rfl (hpL_miss rfl (hpL_miss rfl hpL_hit))) rfl g92) rfl ?_
              obtain ⟨⟨g93, g94⟩, H⟩ := gd_out H
              refine goL_o0 (st_sto (x := (PV.d true x90)) (cs := [(PV.d true x90)]) (row := (setAt ((x25).map (PV.d true)) ((x21).toNat * 1) [(PV.own (N + 39) v58 0 x57)])) (row' := (((setD x25 ((x21).toNat * 1) [x90])).map (PV.d true))) ty_22 rfl (hpL_miss rfl (hpL_miss rfl (hpL_miss rfl hpL_hit))) rfl (cells_sl g93) rfl (by rw [hole_len g94]; exact g94) ⟨oneSl g93, trivial⟩ (hole_data g94)) rfl ?_
              refine blockA_n ?_
              refine thenA_n ?_
              subst hy38
              refine awp_regionL1 ?_
              refine goL_s (st_bin rfl rfl rfl rfl trivial) rfl ?_
              refine goL_s (st_mv (v := (PV.d true (.int .i64 (IntKind.wrap .i64 (x21 + (1 : Int)))))) rfl) rfl ?_
              refine thenA_n ?_
              refine ⟨m1, Nat.lt_succ_self _, ?_⟩
              unfold J9_1
              exact ⟨_, v54, v55, v56, (IntKind.wrap .i64 (x21 + (1 : Int))), (setD x25 ((x21).toNat * 1) [x90]), Gh.join ⟨rfl, rfl, rfl, rfl, rfl, trivial⟩ ⟨(hpL_miss rfl (hpL_miss rfl hpL_hit)), (hpL_miss rfl (hpL_miss rfl (hpL_miss rfl hpL_hit))), hpL_hit, trivial⟩, fun id hid => (hpL_low hid).trans (hlow68 id hid), H⟩
      · replace H := cond_f H hb36
        subst hy37
        refine awp_exit ?_
        refine thenA_e ?_
        refine thenA_e ?_
        refine blockA_h ?_
        refine thenA_n ?_
        subst hy15
        refine awp_regionL fun y98 hy98 => ?_
        refine goL_s (st_mv (v := (PV.own (N + 14) v24 0 ((lenN x6 : Int)).toNat)) rfl) rfl ?_
        refine goL_s (st_as (v := (PV.own (N + 14) v24 0 ((lenN x6 : Int)).toNat)) rfl) rfl ?_
        subst hy98
        obtain ⟨g99, H⟩ := gd_out H
        refine awp_frzs [5, 51, 2] (R := x25) hX ⟨rfl, rfl, rfl, trivial⟩ (hpL_miss rfl (hpL_miss rfl hpL_hit)) (toDs_true _) (mul_sz sz_22 g99) ?_
        refine awp_ret ?_
        obtain rfl := Option.some.inj H
        exact ret1 (res_t (x := (PV.d true (.lst ((lenN x6 : Int)).toNat x25))) (d := (.lst ((lenN x6 : Int)).toNat x25)) rfl rfl) (fun id hid => (hpL_low hid).trans (hlow32 id hid)) (fun _ _ => rfl) lowOK_same ⟨rfl, rfl⟩ (.inr rfl)

def F5 (n : Nat) : Option (Bool) :=
  bd (F9 n (.lst 2 ([(.str ([109] : List UInt8)), (.int .i64 (0 : Int)), (.int .i64 (0 : Int)), (.int .i64 (1 : Int)), (.str ([97] : List UInt8)), (.int .i64 (0 : Int)), (.int .i64 (1 : Int)), (.int .i64 (0 : Int))] : List PD))) fun x4 =>
  gd (isSlD x4 = true) <|
  bif ((lenN x4 : Int) == (1 : Int)) then
    gd (idxOK 1 x4 (0 : Int)) <|
    gd (1 ≤ (((cellsD x4).drop (((0 : Int)).toNat * 1))).length) <|
    gd (isSlD ((((cellsD x4).drop (((0 : Int)).toNat * 1))).getD 0 .nil) = true) <|
    bif ((lenN ((((cellsD x4).drop (((0 : Int)).toNat * 1))).getD 0 .nil) : Int) == (1 : Int)) then
      gd (idxOK 1 x4 (0 : Int)) <|
      gd (1 ≤ (((cellsD x4).drop (((0 : Int)).toNat * 1))).length) <|
      gd (idxOK 1 ((((cellsD x4).drop (((0 : Int)).toNat * 1))).getD 0 .nil) (0 : Int)) <|
      gd ((1 ≤ (((cellsD ((((cellsD x4).drop (((0 : Int)).toNat * 1))).getD 0 .nil)).drop (((0 : Int)).toNat * 1))).length) ∧ (isI .i64 ((((cellsD ((((cellsD x4).drop (((0 : Int)).toNat * 1))).getD 0 .nil)).drop (((0 : Int)).toNat * 1))).getD 0 .nil) = true)) <|
      some ((intD ((((cellsD ((((cellsD x4).drop (((0 : Int)).toNat * 1))).getD 0 .nil)).drop (((0 : Int)).toNat * 1))).getD 0 .nil)) == (1 : Int))
    else
      some false
  else
    some false

set_option maxHeartbeats 4000000 in
theorem f5_calls {n : Nat} {r : Bool} (H : F5 n = some r) (N : Nat) (hp : HP) : ACalls Try.prog 5 N [] hp fun r' hp' => r' = (PV.d true (.bool r)) ∧ hp' = hp := by
  unfold F5 at H
  refine acalls_body Try.func5 rfl rfl Try.ntmps5 (by simp) fun X hX => ?_
  refine awp_start (l := []) (N := N) trivial ?_
  have hlow0 : ∀ id, id < N → hp id = hp id := fun _ _ => rfl
  refine awp_regionL fun y1 hy1 => ?_
  refine goL_s (st_as (v := (PV.d true (.bool false))) rfl) rfl ?_
  subst hy1
  refine awp_regionL fun y2 hy2 => ?_
  refine goL_s (st_buildR (parts := [(0, (PV.d true (.str ([109] : List UInt8)))), (3, (PV.d true (.int .i64 (1 : Int))))]) (cells := [(PV.d true (.str ([109] : List UInt8))), (PV.d true (.int .i64 (0 : Int))), (PV.d true (.int .i64 (0 : Int))), (PV.d true (.int .i64 (1 : Int)))]) ze_61 sr_61 rfl (FillR.cons (cells' := [(PV.d true (.str ([109] : List UInt8))), (PV.d true (.int .i64 (0 : Int))), (PV.d true (.int .i64 (0 : Int))), (PV.d true (.int .i64 (0 : Int)))]) rfl rfl rfl (Nat.le_of_ble_eq_true rfl) ⟨rfl, trivial⟩ rfl (FillR.cons (cells' := [(PV.d true (.str ([109] : List UInt8))), (PV.d true (.int .i64 (0 : Int))), (PV.d true (.int .i64 (0 : Int))), (PV.d true (.int .i64 (1 : Int)))]) rfl rfl rfl (Nat.le_of_ble_eq_true rfl) ⟨rfl, trivial⟩ rfl FillR.nil))) rfl ?_
  refine goL_s (st_buildR (parts := [(0, (PV.d true (.str ([97] : List UInt8)))), (2, (PV.d true (.int .i64 (1 : Int))))]) (cells := [(PV.d true (.str ([97] : List UInt8))), (PV.d true (.int .i64 (0 : Int))), (PV.d true (.int .i64 (1 : Int))), (PV.d true (.int .i64 (0 : Int)))]) ze_61 sr_61 rfl (FillR.cons (cells' := [(PV.d true (.str ([97] : List UInt8))), (PV.d true (.int .i64 (0 : Int))), (PV.d true (.int .i64 (0 : Int))), (PV.d true (.int .i64 (0 : Int)))]) rfl rfl rfl (Nat.le_of_ble_eq_true rfl) ⟨rfl, trivial⟩ rfl (FillR.cons (cells' := [(PV.d true (.str ([97] : List UInt8))), (PV.d true (.int .i64 (0 : Int))), (PV.d true (.int .i64 (1 : Int))), (PV.d true (.int .i64 (0 : Int)))]) rfl rfl rfl (Nat.le_of_ble_eq_true rfl) ⟨rfl, trivial⟩ rfl FillR.nil))) rfl ?_
  refine goL_n (d' := 4) (st_bsliceR (parts := [(0, (PV.agg [(PV.d true (.str ([109] : List UInt8))), (PV.d true (.int .i64 (0 : Int))), (PV.d true (.int .i64 (0 : Int))), (PV.d true (.int .i64 (1 : Int)))])), (1, (PV.agg [(PV.d true (.str ([97] : List UInt8))), (PV.d true (.int .i64 (0 : Int))), (PV.d true (.int .i64 (1 : Int))), (PV.d true (.int .i64 (0 : Int)))]))]) (row := [(PV.d true (.str ([109] : List UInt8))), (PV.d true (.int .i64 (0 : Int))), (PV.d true (.int .i64 (0 : Int))), (PV.d true (.int .i64 (1 : Int))), (PV.d true (.str ([97] : List UInt8))), (PV.d true (.int .i64 (0 : Int))), (PV.d true (.int .i64 (1 : Int))), (PV.d true (.int .i64 (0 : Int)))]) el_26 ze_61 sz_61 (by decide) rfl (by decide) rfl (FillR.cons (cells' := [(PV.d true (.str ([109] : List UInt8))), (PV.d true (.int .i64 (0 : Int))), (PV.d true (.int .i64 (0 : Int))), (PV.d true (.int .i64 (1 : Int))), (PV.d true (.str ([] : List UInt8))), (PV.d true (.int .i64 (0 : Int))), (PV.d true (.int .i64 (0 : Int))), (PV.d true (.int .i64 (0 : Int)))]) rfl rfl rfl (Nat.le_of_ble_eq_true rfl) ⟨rfl, rfl, rfl, rfl, trivial⟩ rfl (FillR.cons (cells' := [(PV.d true (.str ([109] : List UInt8))), (PV.d true (.int .i64 (0 : Int))), (PV.d true (.int .i64 (0 : Int))), (PV.d true (.int .i64 (1 : Int))), (PV.d true (.str ([97] : List UInt8))), (PV.d true (.int .i64 (0 : Int))), (PV.d true (.int .i64 (1 : Int))), (PV.d true (.int .i64 (0 : Int)))]) rfl rfl rfl (Nat.le_of_ble_eq_true rfl) ⟨rfl, rfl, rfl, rfl, trivial⟩ rfl FillR.nil))) rfl fun v3 => ?_
  refine goL_frzc [4] (R := ([(.str ([109] : List UInt8)), (.int .i64 (0 : Int)), (.int .i64 (0 : Int)), (.int .i64 (1 : Int)), (.str ([97] : List UInt8)), (.int .i64 (0 : Int)), (.int .i64 (1 : Int)), (.int .i64 (0 : Int))] : List PD)) hX ⟨rfl, trivial⟩ hpL_hit rfl (mul_sz sz_61 rfl) ?_
  obtain ⟨x4, c5, H⟩ := bd_out H
  refine goL_cp (args' := [(PV.d true (.lst 2 ([(.str ([109] : List UInt8)), (.int .i64 (0 : Int)), (.int .i64 (0 : Int)), (.int .i64 (1 : Int)), (.str ([97] : List UInt8)), (.int .i64 (0 : Int)), (.int .i64 (1 : Int)), (.int .i64 (0 : Int))] : List PD)))]) (r := (PV.d true x4)) rfl rfl ⟨Wk.refl, trivial⟩ enter_9 rfl (f9_calls c5 (N + 24) _) ?_
  refine goL_s (st_as (v := (PV.d true x4)) rfl) rfl ?_
  subst hy2
  refine awp_regionL fun y6 hy6 => ?_
  refine goL_s (st_mv (v := (PV.d true x4)) rfl) rfl ?_
  obtain ⟨g7, H⟩ := gd_out H
  refine goL_s (st_len_d (id := 0) sl_23 rfl g7) rfl ?_
  refine goL_s (st_bin rfl rfl rfl rfl trivial) rfl ?_
  refine goL_s (st_mv (v := (PV.d true (.bool ((lenN x4 : Int) == (1 : Int))))) rfl) rfl ?_
  refine goL_fork ((lenN x4 : Int) == (1 : Int)) (fun hb8 => ?_) (fun hb8 => ?_)
  · replace H := cond_t H hb8
    refine goL_gT rfl rfl hb8 ?_
    refine goL_s (st_mv (v := (PV.d true x4)) rfl) rfl ?_
    obtain ⟨g9, H⟩ := gd_out H
    refine goL_gT rfl rfl hb8 ?_
    refine goL_s (st_ia_d el_23 sz_22 (by decide) (y := x4) rfl rfl g9) rfl ?_
    obtain ⟨g10, H⟩ := gd_out H
    refine goL_gT rfl rfl hb8 ?_
    refine goL_s (st_ld_lp ty_22 rfl g10 (dk_true _)) rfl ?_
    obtain ⟨g11, H⟩ := gd_out H
    refine goL_gT rfl rfl hb8 ?_
    refine goL_s (st_len_d (id := 0) sl_22 rfl g11) rfl ?_
    refine goL_gT rfl rfl hb8 ?_
    refine goL_s (st_bin rfl rfl rfl rfl trivial) rfl ?_
    refine goL_s (st_pickT (v := (PV.d true (.bool ((lenN ((((cellsD x4).drop (((0 : Int)).toNat * 1))).getD 0 .nil) : Int) == (1 : Int))))) rfl hb8 rfl) rfl ?_
    refine goL_s (st_mv (v := (PV.d true (.bool ((lenN ((((cellsD x4).drop (((0 : Int)).toNat * 1))).getD 0 .nil) : Int) == (1 : Int))))) rfl) rfl ?_
    refine goL_fork ((lenN ((((cellsD x4).drop (((0 : Int)).toNat * 1))).getD 0 .nil) : Int) == (1 : Int)) (fun hb12 => ?_) (fun hb12 => ?_)
    · replace H := cond_t H hb12
      refine goL_gT rfl rfl hb12 ?_
      refine goL_s (st_mv (v := (PV.d true x4)) rfl) rfl ?_
      obtain ⟨g13, H⟩ := gd_out H
      refine goL_gT rfl rfl hb12 ?_
      refine goL_s (st_ia_d el_23 sz_22 (by decide) (y := x4) rfl rfl g13) rfl ?_
      obtain ⟨g14, H⟩ := gd_out H
      refine goL_gT rfl rfl hb12 ?_
      refine goL_s (st_ld_lp ty_22 rfl g14 (dk_true _)) rfl ?_
      obtain ⟨g15, H⟩ := gd_out H
      refine goL_gT rfl rfl hb12 ?_
      refine goL_s (st_ia_d el_22 sz_3 (by decide) (y := ((((cellsD x4).drop (((0 : Int)).toNat * 1))).getD 0 .nil)) rfl rfl g15) rfl ?_
      obtain ⟨⟨g16, g17⟩, H⟩ := gd_out H
      refine goL_gT rfl rfl hb12 ?_
      refine goL_s (st_ld_lp ty_3 rfl g16 (cI g17)) rfl ?_
      refine goL_gT rfl rfl hb12 ?_
      refine goL_s (st_bin rfl rfl rfl rfl trivial) rfl ?_
      refine goL_s (st_pickT (v := (PV.d true (.bool ((intD ((((cellsD ((((cellsD x4).drop (((0 : Int)).toNat * 1))).getD 0 .nil)).drop (((0 : Int)).toNat * 1))).getD 0 .nil)) == (1 : Int))))) rfl hb12 rfl) rfl ?_
      refine goL_s (st_as (v := (PV.d true (.bool ((intD ((((cellsD ((((cellsD x4).drop (((0 : Int)).toNat * 1))).getD 0 .nil)).drop (((0 : Int)).toNat * 1))).getD 0 .nil)) == (1 : Int))))) rfl) rfl ?_
      subst hy6
      refine awp_ret ?_
      obtain rfl := Option.some.inj H
      exact ret1 (res_t (x := (PV.d true (.bool ((intD ((((cellsD ((((cellsD x4).drop (((0 : Int)).toNat * 1))).getD 0 .nil)).drop (((0 : Int)).toNat * 1))).getD 0 .nil)) == (1 : Int))))) (d := (.bool ((intD ((((cellsD ((((cellsD x4).drop (((0 : Int)).toNat * 1))).getD 0 .nil)).drop (((0 : Int)).toNat * 1))).getD 0 .nil)) == (1 : Int)))) rfl rfl) (fun id hid => (hpL_low hid).trans (hlow0 id hid)) (fun _ _ => rfl) lowOK_same ⟨rfl, rfl⟩ (.inr rfl)
    · replace H := cond_f H hb12
      refine goL_gF rfl rfl hb12 rfl ?_
      refine goL_gF rfl rfl hb12 rfl ?_
      refine goL_gF rfl rfl hb12 rfl ?_
      refine goL_gF rfl rfl hb12 rfl ?_
      refine goL_gF rfl rfl hb12 rfl ?_
      refine goL_gF rfl rfl hb12 rfl ?_
      refine goL_s (st_pickF (v := (PV.d true (.bool false))) rfl hb12 rfl) rfl ?_
      refine goL_s (st_as (v := (PV.d true (.bool false))) rfl) rfl ?_
      subst hy6
      refine awp_ret ?_
      obtain rfl := Option.some.inj H
      exact ret1 (res_t (x := (PV.d true (.bool false))) (d := (.bool false)) rfl rfl) (fun id hid => (hpL_low hid).trans (hlow0 id hid)) (fun _ _ => rfl) lowOK_same ⟨rfl, rfl⟩ (.inr rfl)
  · replace H := cond_f H hb8
    refine goL_gF rfl rfl hb8 rfl ?_
    refine goL_gF rfl rfl hb8 rfl ?_
    refine goL_gF rfl rfl hb8 rfl ?_
    refine goL_gF rfl rfl hb8 rfl ?_
    refine goL_gF rfl rfl hb8 rfl ?_
    refine goL_s (st_pickF (v := (PV.d true (.bool false))) rfl hb8 rfl) rfl ?_
    refine goL_s (st_mv (v := (PV.d true (.bool false))) rfl) rfl ?_
    refine goL_gF rfl rfl rfl rfl ?_
    refine goL_gF rfl rfl rfl rfl ?_
    refine goL_gF rfl rfl rfl rfl ?_
    refine goL_gF rfl rfl rfl rfl ?_
    refine goL_gF rfl rfl rfl rfl ?_
    refine goL_gF rfl rfl rfl rfl ?_
    refine goL_s (st_pickF (v := (PV.d true (.bool false))) rfl rfl rfl) rfl ?_
    refine goL_s (st_as (v := (PV.d true (.bool false))) rfl) rfl ?_
    subst hy6
    refine awp_ret ?_
    obtain rfl := Option.some.inj H
    exact ret1 (res_t (x := (PV.d true (.bool false))) (d := (.bool false)) rfl rfl) (fun id hid => (hpL_low hid).trans (hlow0 id hid)) (fun _ _ => rfl) lowOK_same ⟨rfl, rfl⟩ (.inr rfl)

end Go.Proofs.Ytfhpoffgnpgagaa
