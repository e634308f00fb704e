/- A proved interpreter for the model's code, and what it shows of the program's functions: part 5 (g3 PL F1 F2 F3 F4 F5 F6). No condition. -/
import Derived.Test.YtiaajpccepjaeaaGreatPd
set_option linter.unusedVariables false
set_option linter.unusedSimpArgs false

namespace Go.Pi
open Go.Proofs
noncomputable section
/- spec.l33World -/
def s_l33World_B0 {R : Type} (a0_9 : List Int) (a0_15 : Int) (a0_17 : Int) (a0_19 : Int) (a0_20 : Bool) (a0_21 : Int) (a0_22 : Int) (a0_25 : Int) (a0_26 : Int) (a0_27 : Int) (a0_31 : Int) (a0_33 : Int) (a0_35 : Int) (a0_36 : Bool) (a0_37 : Int) (a0_38 : Int) (a0_41 : Int) (a0_42 : Int) (a0_43 : Int) (a0_44 : List Int) (a0_45 : List Int) (a0_47 : List Int) (a0_48 : List DialedV) (a0_49 : List LoggedV) (a0_7 : Int) (a0_10 : Int) (a0_11 : Int) (a0_46 : List EndpointV) (nx : Int → Int → Int → List EndpointV → Option R) (x0 : Int → Int → List EndpointV → Option R) : Option R :=
  fork (decide (a0_7 < ((a0_46.length : Nat) : Int))) (bnd (s_l1Once (⟨a0_9, a0_10, a0_11⟩ : CurV) 2) fun y3 => fork y3.1 (
  need (0 ≤ a0_7 ∧ a0_7 < ((a0_46.length : Nat) : Int)) (bnd (s_l4Put ((a0_46.getD a0_7.toNat (dflt (.st .endpoint))).Versions) a0_33) fun y4 =>
  need (0 ≤ a0_7 ∧ a0_7 < ((a0_46.length : Nat) : Int)) (
  nx (w64 (a0_7 + 1)) y3.2.i y3.2.h (a0_46.set a0_7.toNat (⟨y4, (a0_46.getD a0_7.toNat (dflt (.st .endpoint))).Tags, (a0_46.getD a0_7.toNat (dflt (.st .endpoint))).Path, (a0_46.getD a0_7.toNat (dflt (.st .endpoint))).Class⟩ : EndpointV))
 ))) (nx (w64 (a0_7 + 1)) y3.2.i y3.2.h a0_46)) (x0 a0_10 a0_11 a0_46)
def s_l33World_S0 : LoopS := ⟨⟨[(0, false, [.bp 1000000 0]), (2, false, [.bp 1000001 0]), (3, false, [.bp 1000002 0]), (4, false, [.val])], [(1000000, .box [.fix 0 0, .val, .val]), (1000001, .box [.nil (.int .i64), .nil (.int .i64), .val, .nil (.st .endpoint), .val, .nil (.int .i64), .val, .val, .val, .val, .nil (.st .dialed), .nil (.st .logged), .val, .val, .val]), (1000002, .box [.tr 1000003, .tr 1000004, .val, .tr 1000005, .val, .tr 1000006, .val, .val, .val, .val, .tr 1000007, .tr 1000008, .val, .val, .val]), (1000003, .tree), (1000004, .tree), (1000005, .tree), (1000006, .tree), (1000007, .tree), (1000008, .tree)]⟩, [none, some 0, none, none, some 1, some 2, some 3, some 4, some 5, some 6, some 7, some 8, some 9, some 10, some 11, some 12, some 13, some 14, some 15, some 16, some 17, some 18, some 19, some 20, none, some 21, some 22, some 23], [.v (.sl (.int .u8)), .v (.int .i64), .v (.int .i64), .v (.int .i64), .v (.bool), .v (.int .i64), .v (.int .i64), .v (.int .i64), .v (.int .i64), .v (.int .i64), .v (.int .i64), .v (.int .i64), .v (.int .i64), .v (.bool), .v (.int .i64), .v (.int .i64), .v (.int .i64), .v (.int .i64), .v (.int .i64), .v (.sl (.int .i64)), .v (.sl (.int .i64)), .v (.sl (.int .i64)), .v (.sl (.st .dialed)), .v (.sl (.st .logged))], [.v (.int .i64), .v (.int .i64), .v (.int .i64), .v (.sl (.st .endpoint))],
  [⟨.exit 0, ⟨[(0, false, [.bp 2000000 0]), (2, false, [.bp 2000001 0]), (3, false, [.bp 2000002 0])], [(2000000, .box [.fix 0 0, .val, .val]), (2000001, .box [.nil (.int .i64), .nil (.int .i64), .val, .nil (.st .endpoint), .val, .nil (.int .i64), .val, .val, .val, .val, .nil (.st .dialed), .nil (.st .logged), .val, .val, .val]), (2000002, .box [.tr 2000003, .tr 2000004, .val, .tr 2000005, .val, .tr 2000006, .val, .val, .val, .val, .tr 2000007, .tr 2000008, .val, .val, .val]), (2000003, .tree), (2000004, .tree), (2000005, .tree), (2000006, .tree), (2000007, .tree), (2000008, .tree)]⟩, [some 0, none, none, some 1, some 2, some 3, some 4, some 5, some 6, some 7, some 8, some 9, some 10, some 11, some 12, some 13, some 14, some 15, some 16, some 17, some 18, some 19, some 20, none, some 21, some 22, some 23], [.v (.int .i64), .v (.int .i64), .v (.sl (.st .endpoint))]⟩]⟩
def s_l33World_W0 : LoopB s_l33World_S0 := fun R c p nx ex => s_l33World_B0 c.1 c.2.1 c.2.2.1 c.2.2.2.1 c.2.2.2.2.1 c.2.2.2.2.2.1 c.2.2.2.2.2.2.1 c.2.2.2.2.2.2.2.1 c.2.2.2.2.2.2.2.2.1 c.2.2.2.2.2.2.2.2.2.1 c.2.2.2.2.2.2.2.2.2.2.1 c.2.2.2.2.2.2.2.2.2.2.2.1 c.2.2.2.2.2.2.2.2.2.2.2.2.1 c.2.2.2.2.2.2.2.2.2.2.2.2.2.1 c.2.2.2.2.2.2.2.2.2.2.2.2.2.2.1 c.2.2.2.2.2.2.2.2.2.2.2.2.2.2.2.1 c.2.2.2.2.2.2.2.2.2.2.2.2.2.2.2.2.1 c.2.2.2.2.2.2.2.2.2.2.2.2.2.2.2.2.2.1 c.2.2.2.2.2.2.2.2.2.2.2.2.2.2.2.2.2.2.1 c.2.2.2.2.2.2.2.2.2.2.2.2.2.2.2.2.2.2.2.1 c.2.2.2.2.2.2.2.2.2.2.2.2.2.2.2.2.2.2.2.2.1 c.2.2.2.2.2.2.2.2.2.2.2.2.2.2.2.2.2.2.2.2.2.1 c.2.2.2.2.2.2.2.2.2.2.2.2.2.2.2.2.2.2.2.2.2.2.1 c.2.2.2.2.2.2.2.2.2.2.2.2.2.2.2.2.2.2.2.2.2.2.2 p.1 p.2.1 p.2.2.1 p.2.2.2 (fun v0 v1 v2 v3 => nx (v0, v1, v2, v3)) (fun v0 v1 v2 => ex (v0, v1, v2))
def s_l33World_L0 (a0_9 : List Int) (a0_15 : Int) (a0_17 : Int) (a0_19 : Int) (a0_20 : Bool) (a0_21 : Int) (a0_22 : Int) (a0_25 : Int) (a0_26 : Int) (a0_27 : Int) (a0_31 : Int) (a0_33 : Int) (a0_35 : Int) (a0_36 : Bool) (a0_37 : Int) (a0_38 : Int) (a0_41 : Int) (a0_42 : Int) (a0_43 : Int) (a0_44 : List Int) (a0_45 : List Int) (a0_47 : List Int) (a0_48 : List DialedV) (a0_49 : List LoggedV) (n : Nat) (a0_7 : Int) (a0_10 : Int) (a0_11 : Int) (a0_46 : List EndpointV) : Option (Int × Int × (List EndpointV)) := @loopF ((List Int) × Int × Int × Int × Bool × Int × Int × Int × Int × Int × Int × Int × Int × Bool × Int × Int × Int × Int × Int × (List Int) × (List Int) × (List Int) × (List DialedV) × (List LoggedV)) (Int × Int × Int × (List EndpointV)) (Int × Int × (List EndpointV)) (s_l33World_W0 _) (a0_9, a0_15, a0_17, a0_19, a0_20, a0_21, a0_22, a0_25, a0_26, a0_27, a0_31, a0_33, a0_35, a0_36, a0_37, a0_38, a0_41, a0_42, a0_43, a0_44, a0_45, a0_47, a0_48, a0_49) n (a0_7, a0_10, a0_11, a0_46)
def s_l33World_E0 : Env Tryz.prog (1, 67) (bodyOf Tryz.f41) := ⟨[s_l1Once_e, s_l1Below_e, s_l32World_e, s_l4Put_e, s_DialOf_e], [], [], []⟩
theorem s_l33World_b0 : BodyOk T s_l33World_E0 [0, 1, 0, 1, 1, 1] s_l33World_S0 s_l33World_W0 := fun R c p nx ex => by kernel_rfl
def s_l33World_B1 {R : Type} (a1_9 : List Int) (a1_15 : Int) (a1_17 : Int) (a1_19 : Int) (a1_20 : Bool) (a1_21 : Int) (a1_22 : Int) (a1_25 : Int) (a1_26 : Int) (a1_27 : Int) (a1_31 : Int) (a1_33 : Int) (a1_35 : Int) (a1_36 : Bool) (a1_37 : Int) (a1_38 : Int) (a1_41 : Int) (a1_42 : Int) (a1_43 : Int) (a1_44 : List Int) (a1_45 : List Int) (a1_46 : List EndpointV) (a1_47 : List Int) (a1_49 : List LoggedV) (a1_7 : Int) (a1_10 : Int) (a1_11 : Int) (a1_48 : List DialedV) (nx : Int → Int → Int → List DialedV → Option R) (x0 : Int → Int → List DialedV → Option R) : Option R :=
  fork (decide (a1_7 > 0)) (bnd (s_l1Below (⟨a1_9, a1_10, a1_11⟩ : CurV) ((a1_46.length : Nat) : Int)) fun y8 =>
  bnd (s_DialOf (⟨a1_44, a1_45, a1_31, a1_46, (⟨a1_33, a1_47, a1_35, a1_36⟩ : RolloutV), a1_37, a1_38, a1_48, a1_49, a1_41, a1_42, a1_43⟩ : WorldV) y8.1) fun y9 =>
  need ((((a1_48.length + ([y9] : List DialedV).length : Nat)) : Int) * ((72 : Nat) : Int) ≤ 140737488355328) (
  nx (w64 (a1_7 - 1)) y8.2.i y8.2.h (a1_48 ++ ([y9] : List DialedV)))) (x0 a1_10 a1_11 a1_48)
def s_l33World_S1 : LoopS := ⟨⟨[(0, false, [.bp 1010000 0]), (2, false, [.bp 1010001 0]), (3, false, [.bp 1010002 0]), (5, false, [.val])], [(1010000, .box [.fix 0 0, .val, .val]), (1010001, .box [.nil (.int .i64), .nil (.int .i64), .val, .nil (.st .endpoint), .val, .nil (.int .i64), .val, .val, .val, .val, .nil (.st .dialed), .nil (.st .logged), .val, .val, .val]), (1010002, .box [.tr 1010003, .tr 1010004, .val, .tr 1010005, .val, .tr 1010006, .val, .val, .val, .val, .tr 1010007, .tr 1010008, .val, .val, .val]), (1010003, .tree), (1010004, .tree), (1010005, .tree), (1010006, .tree), (1010007, .tree), (1010008, .tree)]⟩, [none, some 0, none, none, some 1, some 2, some 3, some 4, some 5, some 6, some 7, some 8, some 9, some 10, some 11, some 12, some 13, some 14, some 15, some 16, some 17, some 18, some 19, some 20, some 21, some 22, none, some 23], [.v (.sl (.int .u8)), .v (.int .i64), .v (.int .i64), .v (.int .i64), .v (.bool), .v (.int .i64), .v (.int .i64), .v (.int .i64), .v (.int .i64), .v (.int .i64), .v (.int .i64), .v (.int .i64), .v (.int .i64), .v (.bool), .v (.int .i64), .v (.int .i64), .v (.int .i64), .v (.int .i64), .v (.int .i64), .v (.sl (.int .i64)), .v (.sl (.int .i64)), .v (.sl (.st .endpoint)), .v (.sl (.int .i64)), .v (.sl (.st .logged))], [.v (.int .i64), .v (.int .i64), .v (.int .i64), .v (.sl (.st .dialed))],
  [⟨.exit 2, ⟨[(0, false, [.bp 2010000 0]), (2, false, [.bp 2010001 0]), (3, false, [.bp 2010002 0])], [(2010000, .box [.fix 0 0, .val, .val]), (2010001, .box [.nil (.int .i64), .nil (.int .i64), .val, .nil (.st .endpoint), .val, .nil (.int .i64), .val, .val, .val, .val, .nil (.st .dialed), .nil (.st .logged), .val, .val, .val]), (2010002, .box [.tr 2010003, .tr 2010004, .val, .tr 2010005, .val, .tr 2010006, .val, .val, .val, .val, .tr 2010007, .tr 2010008, .val, .val, .val]), (2010003, .tree), (2010004, .tree), (2010005, .tree), (2010006, .tree), (2010007, .tree), (2010008, .tree)]⟩, [some 0, none, none, some 1, some 2, some 3, some 4, some 5, some 6, some 7, some 8, some 9, some 10, some 11, some 12, some 13, some 14, some 15, some 16, some 17, some 18, some 19, some 20, some 21, some 22, none, some 23], [.v (.int .i64), .v (.int .i64), .v (.sl (.st .dialed))]⟩]⟩
def s_l33World_W1 : LoopB s_l33World_S1 := fun R c p nx ex => s_l33World_B1 c.1 c.2.1 c.2.2.1 c.2.2.2.1 c.2.2.2.2.1 c.2.2.2.2.2.1 c.2.2.2.2.2.2.1 c.2.2.2.2.2.2.2.1 c.2.2.2.2.2.2.2.2.1 c.2.2.2.2.2.2.2.2.2.1 c.2.2.2.2.2.2.2.2.2.2.1 c.2.2.2.2.2.2.2.2.2.2.2.1 c.2.2.2.2.2.2.2.2.2.2.2.2.1 c.2.2.2.2.2.2.2.2.2.2.2.2.2.1 c.2.2.2.2.2.2.2.2.2.2.2.2.2.2.1 c.2.2.2.2.2.2.2.2.2.2.2.2.2.2.2.1 c.2.2.2.2.2.2.2.2.2.2.2.2.2.2.2.2.1 c.2.2.2.2.2.2.2.2.2.2.2.2.2.2.2.2.2.1 c.2.2.2.2.2.2.2.2.2.2.2.2.2.2.2.2.2.2.1 c.2.2.2.2.2.2.2.2.2.2.2.2.2.2.2.2.2.2.2.1 c.2.2.2.2.2.2.2.2.2.2.2.2.2.2.2.2.2.2.2.2.1 c.2.2.2.2.2.2.2.2.2.2.2.2.2.2.2.2.2.2.2.2.2.1 c.2.2.2.2.2.2.2.2.2.2.2.2.2.2.2.2.2.2.2.2.2.2.1 c.2.2.2.2.2.2.2.2.2.2.2.2.2.2.2.2.2.2.2.2.2.2.2 p.1 p.2.1 p.2.2.1 p.2.2.2 (fun v0 v1 v2 v3 => nx (v0, v1, v2, v3)) (fun v0 v1 v2 => ex (v0, v1, v2))
def s_l33World_L1 (a1_9 : List Int) (a1_15 : Int) (a1_17 : Int) (a1_19 : Int) (a1_20 : Bool) (a1_21 : Int) (a1_22 : Int) (a1_25 : Int) (a1_26 : Int) (a1_27 : Int) (a1_31 : Int) (a1_33 : Int) (a1_35 : Int) (a1_36 : Bool) (a1_37 : Int) (a1_38 : Int) (a1_41 : Int) (a1_42 : Int) (a1_43 : Int) (a1_44 : List Int) (a1_45 : List Int) (a1_46 : List EndpointV) (a1_47 : List Int) (a1_49 : List LoggedV) (n : Nat) (a1_7 : Int) (a1_10 : Int) (a1_11 : Int) (a1_48 : List DialedV) : Option (Int × Int × (List DialedV)) := @loopF ((List Int) × Int × Int × Int × Bool × Int × Int × Int × Int × Int × Int × Int × Int × Bool × Int × Int × Int × Int × Int × (List Int) × (List Int) × (List EndpointV) × (List Int) × (List LoggedV)) (Int × Int × Int × (List DialedV)) (Int × Int × (List DialedV)) (s_l33World_W1 _) (a1_9, a1_15, a1_17, a1_19, a1_20, a1_21, a1_22, a1_25, a1_26, a1_27, a1_31, a1_33, a1_35, a1_36, a1_37, a1_38, a1_41, a1_42, a1_43, a1_44, a1_45, a1_46, a1_47, a1_49) n (a1_7, a1_10, a1_11, a1_48)
def s_l33World_E1 : Env Tryz.prog (1, 67) (bodyOf Tryz.f41) := ⟨[s_l1Once_e, s_l1Below_e, s_l32World_e, s_l4Put_e, s_DialOf_e], [], [⟨[0, 1, 0, 1, 1, 1], LoopE.of tabOk tabB mixed s_l33World_E0 [0, 1, 0, 1, 1, 1] (by kernel_rfl) _ _ s_l33World_b0⟩], []⟩
theorem s_l33World_b1 : BodyOk T s_l33World_E1 [0, 1, 0, 1, 1, 1, 1, 1, 1] s_l33World_S1 s_l33World_W1 := fun R c p nx ex => by kernel_rfl
def s_l33World (p0 : CurV) : Option (WorldV × CurV) :=
  bnd (s_l32World p0) fun y1 => bnd (s_l1Below (⟨p0.b, y1.2.i, y1.2.h⟩ : CurV) 9) fun y2 =>
  bnd (s_l33World_L0 p0.b 0 0 0 false 0 0 0 0 0 y1.1.Key y1.1.Rollout.Version y1.1.Rollout.At y1.1.Rollout.Off y1.1.Least y1.1.Percent y2.1 y1.1.Hurt y1.1.Reached y1.1.Server y1.1.Tags y1.1.Rollout.Stages y1.1.Stage y1.1.Log big 0 y2.2.i y2.2.h y1.1.Ends) fun y5 =>
  bnd (s_l1Below (⟨p0.b, y5.1, y5.2.1⟩ : CurV) ((y1.1.Rollout.Stages.length : Nat) : Int)) fun y6 => bnd (s_l1Below (⟨p0.b, y6.2.i, y6.2.h⟩ : CurV) 7) fun y7 =>
  bnd (s_l33World_L1 p0.b 0 0 0 false 0 0 0 0 0 y1.1.Key y1.1.Rollout.Version y6.1 y1.1.Rollout.Off y1.1.Least y1.1.Percent y2.1 y1.1.Hurt (w64 (y6.1 + 1)) y1.1.Server y1.1.Tags y5.2.2 y1.1.Rollout.Stages y1.1.Log big y7.1 y7.2.i y7.2.h y1.1.Stage) fun y10 =>
  some ((⟨y1.1.Server, y1.1.Tags, y1.1.Key, y5.2.2, (⟨y1.1.Rollout.Version, y1.1.Rollout.Stages, y6.1, y1.1.Rollout.Off⟩ : RolloutV), y1.1.Least, y1.1.Percent, y10.2.2, y1.1.Log, y2.1, y1.1.Hurt, (w64 (y6.1 + 1))⟩ : WorldV), (⟨p0.b, y10.1, y10.2.1⟩ : CurV))
theorem s_l33World_c : FnC Tryz.prog 41 [.ptr (.st .cur)] [.st .world] (fun x => s_l33World x) :=
  FnC.of (body := bodyOf Tryz.f41) (N := (1, 67)) tabOk tabB mixed Tryz.func41 (by kernel_rfl) (by kernel_rfl) (fun _ => by kernel_rfl) ⟨[s_l1Once_e, s_l1Below_e, s_l32World_e, s_l4Put_e, s_DialOf_e], [], [⟨[0, 1, 0, 1, 1, 1], LoopE.of tabOk tabB mixed s_l33World_E0 [0, 1, 0, 1, 1, 1] (by kernel_rfl) _ _ s_l33World_b0⟩, ⟨[0, 1, 0, 1, 1, 1, 1, 1, 1], LoopE.of tabOk tabB mixed s_l33World_E1 [0, 1, 0, 1, 1, 1, 1, 1, 1] (by kernel_rfl) _ _ s_l33World_b1⟩], []⟩ (fun _ => by kernel_rfl) (fun x => by kernel_rfl)
def s_l33World_e : Entry Tryz.prog := .of s_l33World_c

/- spec.DrawEnterStage -/
def s_DrawEnterStage (code : List Int) : Option WorldV :=
  bnd (s_l1New code) fun y1 => bnd (s_l1Once y1 4) fun y2 => fork y2.1 (bnd (s_l32Any (⟨y1.b, y2.2.i, y2.2.h⟩ : CurV)) fun y3 => some y3.1) (
  bnd (s_l33World (⟨y1.b, y2.2.i, y2.2.h⟩ : CurV)) fun y4 => some y4.1)
theorem s_DrawEnterStage_c : FnC Tryz.prog 7 [.v (.sl (.int .u8))] [.st .world] (fun x => s_DrawEnterStage x) :=
  FnC.of (body := bodyOf Tryz.f7) (N := (0, 12)) tabOk tabB mixed Tryz.func7 (by kernel_rfl) (by kernel_rfl) (fun _ => by kernel_rfl) ⟨[s_l1New_e, s_l1Once_e, s_l32Any_e, s_l33World_e], [], [], []⟩ (fun _ => by kernel_rfl) (fun x => by kernel_rfl)
def s_DrawEnterStage_e : Entry Tryz.prog := .of s_DrawEnterStage_c

/- impl.InRange -/
def i_InRange (n : Int) (low : Int) (high : Int) : Option Bool :=
  fork (decide (low ≤ n)) (some (decide (n ≤ high))) (some false)
theorem i_InRange_c : FnC Tryz.prog 54 [.v (.int .i64), .v (.int .i64), .v (.int .i64)] [.bool] (fun x => i_InRange x.1 x.2.1 x.2.2) :=
  FnC.of (body := bodyOf Tryz.f54) (N := (0, 15)) tabOk tabB mixed Tryz.func54 (by kernel_rfl) (by kernel_rfl) (fun _ => by kernel_rfl) ⟨[], [], [], []⟩ (fun _ => by kernel_rfl) (fun x => by kernel_rfl)
def i_InRange_e : Entry Tryz.prog := .of i_InRange_c

/- impl.IsRollout -/
def i_IsRollout_B0 {R : Type} (a0_3 : Bool) (a0_5 : List Int) (a0_7 : Int) (a0_11 : Int) (a0_12 : List Int) (a0_13 : Int) (a0_14 : Bool) (a0_9 : Int) (nx : Int → Option R) (x0 : Bool → Option R) (x1 : Option R) : Option R :=
  fork (decide (a0_9 < a0_7)) (need (0 ≤ a0_9 ∧ a0_9 < ((a0_5.length : Nat) : Int)) (bnd (i_InRange (a0_5.getD a0_9.toNat (dflt (.int .i64))) 1 100) fun y1 => fork (!y1) (
  x0 false) (fork (decide (a0_9 > 0)) (need (0 ≤ (w64 (a0_9 - 1)) ∧ (w64 (a0_9 - 1)) < ((a0_12.length : Nat) : Int)) (
  fork (decide ((a0_12.getD ((w64 (a0_9 - 1)).toNat) (dflt (.int .i64))) ≥ (a0_5.getD a0_9.toNat (dflt (.int .i64))))) (x0 false) (nx (w64 (a0_9 + 1))))) (
  nx (w64 (a0_9 + 1)))))) (x1)
def i_IsRollout_S0 : LoopS := ⟨⟨[(1, false, [.bp 1000000 0]), (2, false, [.val]), (6, false, [.ro]), (7, false, [.val]), (8, false, [.val])], [(1000000, .box [.val, .ro, .val, .val])]⟩, [some 0, some 1, some 2, none, some 3, some 4, some 5, some 6], [.v (.bool), .v (.sl (.int .i64)), .v (.int .i64), .v (.int .i64), .v (.sl (.int .i64)), .v (.int .i64), .v (.bool)], [.v (.int .i64)],
  [⟨.ret, ⟨[(2, false, [.val])], []⟩, [none], [.v (.bool)]⟩, ⟨.exit 0, ⟨[(1, false, [.bp 2001000 0]), (2, false, [.val])], [(2001000, .box [.val, .ro, .val, .val])]⟩, [some 0, some 3, some 4, some 5, some 6], []⟩]⟩
def i_IsRollout_W0 : LoopB i_IsRollout_S0 := fun R c p nx ex => i_IsRollout_B0 c.1 c.2.1 c.2.2.1 c.2.2.2.1 c.2.2.2.2.1 c.2.2.2.2.2.1 c.2.2.2.2.2.2 p (fun v0 => nx v0) (fun v0 => ex (.inl v0)) (ex (.inr ()))
def i_IsRollout_L0 (a0_3 : Bool) (a0_5 : List Int) (a0_7 : Int) (a0_11 : Int) (a0_12 : List Int) (a0_13 : Int) (a0_14 : Bool) (n : Nat) (a0_9 : Int) : Option (Bool ⊕ Unit) := @loopF (Bool × (List Int) × Int × Int × (List Int) × Int × Bool) Int (Bool ⊕ Unit) (i_IsRollout_W0 _) (a0_3, a0_5, a0_7, a0_11, a0_12, a0_13, a0_14) n a0_9
def i_IsRollout_E0 : Env Tryz.prog (0, 60) (bodyOf Tryz.f12) := ⟨[i_InRange_e], [], [], []⟩
theorem i_IsRollout_b0 : BodyOk T i_IsRollout_E0 [0, 1, 0, 1] i_IsRollout_S0 i_IsRollout_W0 := fun R c p nx ex => by kernel_rfl
def i_IsRollout (p0 : RolloutV) : Option Bool :=
  bnd (i_IsRollout_L0 false p0.Stages ((p0.Stages.length : Nat) : Int) p0.Version p0.Stages p0.At p0.Off big 0) (sum2 (fun y2 => some y2) (fun _ =>
  bnd (i_InRange p0.Version 1 9) fun y4 => fork y4 (bnd (i_InRange ((p0.Stages.length : Nat) : Int) 1 5) fun y5 => fork y5 (
  need (0 ≤ (w64 (((p0.Stages.length : Nat) : Int) - 1)) ∧ (w64 (((p0.Stages.length : Nat) : Int) - 1)) < ((p0.Stages.length : Nat) : Int)) (
  fork ((p0.Stages.getD ((w64 (((p0.Stages.length : Nat) : Int) - 1)).toNat) (dflt (.int .i64))) == 100) (
  bnd (i_InRange p0.At 0 (w64 (((p0.Stages.length : Nat) : Int) - 1))) fun y6 => some y6) (some false))) (some false)) (some false)))
theorem i_IsRollout_c : FnC Tryz.prog 12 [.v (.st .rollout)] [.bool] (fun x => i_IsRollout x) :=
  FnC.of (body := bodyOf Tryz.f12) (N := (0, 60)) tabOk tabB mixed Tryz.func12 (by kernel_rfl) (by kernel_rfl) (fun _ => by kernel_rfl) ⟨[i_InRange_e], [], [⟨[0, 1, 0, 1], LoopE.of tabOk tabB mixed i_IsRollout_E0 [0, 1, 0, 1] (by kernel_rfl) _ _ i_IsRollout_b0⟩], []⟩ (fun _ => by kernel_rfl) (fun x => by kernel_rfl)
def i_IsRollout_e : Entry Tryz.prog := .of i_IsRollout_c
def i_IsRollout_k : CloE Tryz.prog := .one (k := 12) (t := .st .rollout) (cts := []) ⟨_, Tryz.func12, by kernel_rfl, by kernel_rfl⟩ (fun x c => i_IsRollout x) (fun x c r h => i_IsRollout_c x r h)

/- impl.copyRollout -/
def i_copyRollout (p0 : RolloutV) : Option RolloutV :=
  need ((((([] : List Int).length + p0.Stages.length : Nat)) : Int) * ((8 : Nat) : Int) ≤ 140737488355328) (
  some (⟨p0.Version, (([] : List Int) ++ p0.Stages), p0.At, p0.Off⟩ : RolloutV))
theorem i_copyRollout_c : FnC Tryz.prog 89 [.v (.st .rollout)] [.st .rollout] (fun x => i_copyRollout x) :=
  FnC.of (body := bodyOf Tryz.f89) (N := (0, 9)) tabOk tabB mixed Tryz.func89 (by kernel_rfl) (by kernel_rfl) (fun _ => by kernel_rfl) ⟨[], [], [], []⟩ (fun _ => by kernel_rfl) (fun x => by kernel_rfl)
def i_copyRollout_e : Entry Tryz.prog := .of i_copyRollout_c

/- impl.copyPath -/
def i_copyPath_B0 {R : Type} (a0_5 : List BoxV) (a0_7 : Int) (a0_9 : Int) (a0_10 : List BoxV) (nx : Int → List BoxV → Option R) (x0 : List BoxV → Option R) : Option R :=
  fork (decide (a0_9 < a0_7)) (need (0 ≤ a0_9 ∧ a0_9 < ((a0_5.length : Nat) : Int)) (
  need ((((([] : List Int).length + ((a0_5.getD a0_9.toNat (dflt (.st .box))).Drops).length : Nat)) : Int) * ((8 : Nat) : Int) ≤ 140737488355328) (
  need ((((([] : List Int).length + ((a0_5.getD a0_9.toNat (dflt (.st .box))).Strips).length : Nat)) : Int) * ((8 : Nat) : Int) ≤ 140737488355328) (
  need ((((a0_10.length + ([(⟨(a0_5.getD a0_9.toNat (dflt (.st .box))).Limit, (([] : List Int) ++ ((a0_5.getD a0_9.toNat (dflt (.st .box))).Drops)), (([] : List Int) ++ ((a0_5.getD a0_9.toNat (dflt (.st .box))).Strips)), (a0_5.getD a0_9.toNat (dflt (.st .box))).Lists⟩ : BoxV)] : List BoxV).length : Nat)) : Int) * ((64 : Nat) : Int) ≤ 140737488355328) (
  nx (w64 (a0_9 + 1)) (a0_10 ++ ([(⟨(a0_5.getD a0_9.toNat (dflt (.st .box))).Limit, (([] : List Int) ++ ((a0_5.getD a0_9.toNat (dflt (.st .box))).Drops)), (([] : List Int) ++ ((a0_5.getD a0_9.toNat (dflt (.st .box))).Strips)), (a0_5.getD a0_9.toNat (dflt (.st .box))).Lists⟩ : BoxV)] : List BoxV))
 ))))) (x0 a0_10)
def i_copyPath_S0 : LoopS := ⟨⟨[(2, false, [.nil (.st .box)]), (3, false, [.tr 1000000]), (7, false, [.ro]), (8, false, [.val]), (9, false, [.val])], [(1000000, .tree)]⟩, [some 0, some 1, none, none], [.v (.sl (.st .box)), .v (.int .i64)], [.v (.int .i64), .v (.sl (.st .box))],
  [⟨.exit 0, ⟨[(2, false, [.nil (.st .box)]), (3, false, [.tr 2000000])], [(2000000, .tree)]⟩, [none], [.v (.sl (.st .box))]⟩]⟩
def i_copyPath_W0 : LoopB i_copyPath_S0 := fun R c p nx ex => i_copyPath_B0 c.1 c.2 p.1 p.2 (fun v0 v1 => nx (v0, v1)) (fun v0 => ex v0)
def i_copyPath_L0 (a0_5 : List BoxV) (a0_7 : Int) (n : Nat) (a0_9 : Int) (a0_10 : List BoxV) : Option ((List BoxV)) := @loopF ((List BoxV) × Int) (Int × (List BoxV)) ((List BoxV)) (i_copyPath_W0 _) (a0_5, a0_7) n (a0_9, a0_10)
def i_copyPath_E0 : Env Tryz.prog (0, 31) (bodyOf Tryz.f124) := ⟨[], [], [], []⟩
theorem i_copyPath_b0 : BodyOk T i_copyPath_E0 [0, 1, 0, 1, 1] i_copyPath_S0 i_copyPath_W0 := fun R c p nx ex => by kernel_rfl
def i_copyPath (path : List BoxV) : Option (List BoxV) :=
  bnd (i_copyPath_L0 path ((path.length : Nat) : Int) big 0 ([] : List BoxV)) fun y1 => some y1
theorem i_copyPath_c : FnC Tryz.prog 124 [.v (.sl (.st .box))] [.sl (.st .box)] (fun x => i_copyPath x) :=
  FnC.of (body := bodyOf Tryz.f124) (N := (0, 31)) tabOk tabB mixed Tryz.func124 (by kernel_rfl) (by kernel_rfl) (fun _ => by kernel_rfl) ⟨[], [], [⟨[0, 1, 0, 1, 1], LoopE.of tabOk tabB mixed i_copyPath_E0 [0, 1, 0, 1, 1] (by kernel_rfl) _ _ i_copyPath_b0⟩], []⟩ (fun _ => by kernel_rfl) (fun x => by kernel_rfl)
def i_copyPath_e : Entry Tryz.prog := .of i_copyPath_c

/- impl.copyEndpoint -/
def i_copyEndpoint (p0 : EndpointV) : Option EndpointV :=
  need ((((([] : List Int).length + p0.Versions.length : Nat)) : Int) * ((8 : Nat) : Int) ≤ 140737488355328) (
  need ((((([] : List Int).length + p0.Tags.length : Nat)) : Int) * ((8 : Nat) : Int) ≤ 140737488355328) (bnd (i_copyPath p0.Path) fun y1 =>
  some (⟨(([] : List Int) ++ p0.Versions), (([] : List Int) ++ p0.Tags), y1, p0.Class⟩ : EndpointV)))
theorem i_copyEndpoint_c : FnC Tryz.prog 90 [.v (.st .endpoint)] [.st .endpoint] (fun x => i_copyEndpoint x) :=
  FnC.of (body := bodyOf Tryz.f90) (N := (0, 17)) tabOk tabB mixed Tryz.func90 (by kernel_rfl) (by kernel_rfl) (fun _ => by kernel_rfl) ⟨[i_copyPath_e], [], [], []⟩ (fun _ => by kernel_rfl) (fun x => by kernel_rfl)
def i_copyEndpoint_e : Entry Tryz.prog := .of i_copyEndpoint_c

/- impl.copyDialed -/
def i_copyDialed (d : DialedV) : Option DialedV :=
  need ((((([] : List Int).length + d.Deal.Tags.length : Nat)) : Int) * ((8 : Nat) : Int) ≤ 140737488355328) (
  need ((((([] : List Int).length + d.Up.length : Nat)) : Int) * ((8 : Nat) : Int) ≤ 140737488355328) (
  some (⟨(⟨d.Deal.Ok, d.Deal.Version, (([] : List Int) ++ d.Deal.Tags)⟩ : DealV), d.Tries, (([] : List Int) ++ d.Up)⟩ : DialedV)))
theorem i_copyDialed_c : FnC Tryz.prog 91 [.v (.st .dialed)] [.st .dialed] (fun x => i_copyDialed x) :=
  FnC.of (body := bodyOf Tryz.f91) (N := (0, 16)) tabOk tabB mixed Tryz.func91 (by kernel_rfl) (by kernel_rfl) (fun _ => by kernel_rfl) ⟨[], [], [], []⟩ (fun _ => by kernel_rfl) (fun x => by kernel_rfl)
def i_copyDialed_e : Entry Tryz.prog := .of i_copyDialed_c

/- impl.copyWorld -/
def i_copyWorld_B0 {R : Type} (a0_7 : List EndpointV) (a0_9 : Int) (a0_13 : List Int) (a0_14 : List Int) (a0_15 : Int) (a0_16 : List EndpointV) (a0_17 : Int) (a0_18 : List Int) (a0_19 : Int) (a0_20 : Bool) (a0_21 : Int) (a0_22 : Int) (a0_23 : List DialedV) (a0_24 : List LoggedV) (a0_25 : Int) (a0_26 : Int) (a0_27 : Int) (a0_31 : Int) (a0_33 : Int) (a0_35 : Int) (a0_36 : Bool) (a0_37 : Int) (a0_38 : Int) (a0_41 : Int) (a0_42 : Int) (a0_43 : Int) (a0_47 : Int) (a0_49 : Int) (a0_51 : Int) (a0_52 : Bool) (a0_53 : Int) (a0_54 : Int) (a0_57 : Int) (a0_58 : Int) (a0_59 : Int) (a0_60 : List Int) (a0_61 : List Int) (a0_63 : List Int) (a0_11 : Int) (a0_62 : List EndpointV) (nx : Int → List EndpointV → Option R) (x0 : List EndpointV → Option R) : Option R :=
  fork (decide (a0_11 < a0_9)) (need (0 ≤ a0_11 ∧ a0_11 < ((a0_7.length : Nat) : Int)) (bnd (i_copyEndpoint (a0_7.getD a0_11.toNat (dflt (.st .endpoint)))) fun y3 =>
  need ((((a0_62.length + ([y3] : List EndpointV).length : Nat)) : Int) * ((80 : Nat) : Int) ≤ 140737488355328) (nx (w64 (a0_11 + 1)) (a0_62 ++ ([y3] : List EndpointV))))
 ) (x0 a0_62)
def i_copyWorld_S0 : LoopS := ⟨⟨[(1, false, [.bp 1000000 0]), (2, false, [.bp 1000001 0]), (3, false, [.bp 1000002 0]), (29, false, [.ro]), (30, false, [.val]), (31, false, [.val])], [(1000000, .box [.ro, .ro, .val, .ro, .val, .ro, .val, .val, .val, .val, .ro, .ro, .val, .val, .val]), (1000001, .box [.nil (.int .i64), .nil (.int .i64), .val, .nil (.st .endpoint), .val, .nil (.int .i64), .val, .val, .val, .val, .nil (.st .dialed), .nil (.st .logged), .val, .val, .val]), (1000002, .box [.tr 1000003, .tr 1000004, .val, .tr 1000005, .val, .tr 1000006, .val, .val, .val, .val, .nil (.st .dialed), .nil (.st .logged), .val, .val, .val]), (1000003, .tree), (1000004, .tree), (1000005, .tree), (1000006, .tree)]⟩, [some 0, some 1, none, some 2, some 3, some 4, some 5, some 6, some 7, some 8, some 9, some 10, some 11, some 12, some 13, some 14, some 15, some 16, some 17, some 18, some 19, some 20, some 21, some 22, some 23, some 24, some 25, some 26, some 27, some 28, some 29, some 30, some 31, some 32, some 33, some 34, some 35, some 36, none, some 37], [.v (.sl (.st .endpoint)), .v (.int .i64), .v (.sl (.int .i64)), .v (.sl (.int .i64)), .v (.int .i64), .v (.sl (.st .endpoint)), .v (.int .i64), .v (.sl (.int .i64)), .v (.int .i64), .v (.bool), .v (.int .i64), .v (.int .i64), .v (.sl (.st .dialed)), .v (.sl (.st .logged)), .v (.int .i64), .v (.int .i64), .v (.int .i64), .v (.int .i64), .v (.int .i64), .v (.int .i64), .v (.bool), .v (.int .i64), .v (.int .i64), .v (.int .i64), .v (.int .i64), .v (.int .i64), .v (.int .i64), .v (.int .i64), .v (.int .i64), .v (.bool), .v (.int .i64), .v (.int .i64), .v (.int .i64), .v (.int .i64), .v (.int .i64), .v (.sl (.int .i64)), .v (.sl (.int .i64)), .v (.sl (.int .i64))], [.v (.int .i64), .v (.sl (.st .endpoint))],
  [⟨.exit 0, ⟨[(1, false, [.bp 2000000 0]), (2, false, [.bp 2000001 0]), (3, false, [.bp 2000002 0])], [(2000000, .box [.ro, .ro, .val, .ro, .val, .ro, .val, .val, .val, .val, .ro, .ro, .val, .val, .val]), (2000001, .box [.nil (.int .i64), .nil (.int .i64), .val, .nil (.st .endpoint), .val, .nil (.int .i64), .val, .val, .val, .val, .nil (.st .dialed), .nil (.st .logged), .val, .val, .val]), (2000002, .box [.tr 2000003, .tr 2000004, .val, .tr 2000005, .val, .tr 2000006, .val, .val, .val, .val, .nil (.st .dialed), .nil (.st .logged), .val, .val, .val]), (2000003, .tree), (2000004, .tree), (2000005, .tree), (2000006, .tree)]⟩, [some 2, some 3, some 4, some 5, some 6, some 7, some 8, some 9, some 10, some 11, some 12, some 13, some 14, some 15, some 16, some 17, some 18, some 19, some 20, some 21, some 22, some 23, some 24, some 25, some 26, some 27, some 28, some 29, some 30, some 31, some 32, some 33, some 34, some 35, some 36, none, some 37], [.v (.sl (.st .endpoint))]⟩]⟩
def i_copyWorld_W0 : LoopB i_copyWorld_S0 := fun R c p nx ex => i_copyWorld_B0 c.1 c.2.1 c.2.2.1 c.2.2.2.1 c.2.2.2.2.1 c.2.2.2.2.2.1 c.2.2.2.2.2.2.1 c.2.2.2.2.2.2.2.1 c.2.2.2.2.2.2.2.2.1 c.2.2.2.2.2.2.2.2.2.1 c.2.2.2.2.2.2.2.2.2.2.1 c.2.2.2.2.2.2.2.2.2.2.2.1 c.2.2.2.2.2.2.2.2.2.2.2.2.1 c.2.2.2.2.2.2.2.2.2.2.2.2.2.1 c.2.2.2.2.2.2.2.2.2.2.2.2.2.2.1 c.2.2.2.2.2.2.2.2.2.2.2.2.2.2.2.1 c.2.2.2.2.2.2.2.2.2.2.2.2.2.2.2.2.1 c.2.2.2.2.2.2.2.2.2.2.2.2.2.2.2.2.2.1 c.2.2.2.2.2.2.2.2.2.2.2.2.2.2.2.2.2.2.1 c.2.2.2.2.2.2.2.2.2.2.2.2.2.2.2.2.2.2.2.1 c.2.2.2.2.2.2.2.2.2.2.2.2.2.2.2.2.2.2.2.2.1 c.2.2.2.2.2.2.2.2.2.2.2.2.2.2.2.2.2.2.2.2.2.1 c.2.2.2.2.2.2.2.2.2.2.2.2.2.2.2.2.2.2.2.2.2.2.1 c.2.2.2.2.2.2.2.2.2.2.2.2.2.2.2.2.2.2.2.2.2.2.2.1 c.2.2.2.2.2.2.2.2.2.2.2.2.2.2.2.2.2.2.2.2.2.2.2.2.1 c.2.2.2.2.2.2.2.2.2.2.2.2.2.2.2.2.2.2.2.2.2.2.2.2.2.1 c.2.2.2.2.2.2.2.2.2.2.2.2.2.2.2.2.2.2.2.2.2.2.2.2.2.2.1 c.2.2.2.2.2.2.2.2.2.2.2.2.2.2.2.2.2.2.2.2.2.2.2.2.2.2.2.1 c.2.2.2.2.2.2.2.2.2.2.2.2.2.2.2.2.2.2.2.2.2.2.2.2.2.2.2.2.1 c.2.2.2.2.2.2.2.2.2.2.2.2.2.2.2.2.2.2.2.2.2.2.2.2.2.2.2.2.2.1 c.2.2.2.2.2.2.2.2.2.2.2.2.2.2.2.2.2.2.2.2.2.2.2.2.2.2.2.2.2.2.1 c.2.2.2.2.2.2.2.2.2.2.2.2.2.2.2.2.2.2.2.2.2.2.2.2.2.2.2.2.2.2.2.1 c.2.2.2.2.2.2.2.2.2.2.2.2.2.2.2.2.2.2.2.2.2.2.2.2.2.2.2.2.2.2.2.2.1 c.2.2.2.2.2.2.2.2.2.2.2.2.2.2.2.2.2.2.2.2.2.2.2.2.2.2.2.2.2.2.2.2.2.1 c.2.2.2.2.2.2.2.2.2.2.2.2.2.2.2.2.2.2.2.2.2.2.2.2.2.2.2.2.2.2.2.2.2.2.1 c.2.2.2.2.2.2.2.2.2.2.2.2.2.2.2.2.2.2.2.2.2.2.2.2.2.2.2.2.2.2.2.2.2.2.2.1 c.2.2.2.2.2.2.2.2.2.2.2.2.2.2.2.2.2.2.2.2.2.2.2.2.2.2.2.2.2.2.2.2.2.2.2.2.1 c.2.2.2.2.2.2.2.2.2.2.2.2.2.2.2.2.2.2.2.2.2.2.2.2.2.2.2.2.2.2.2.2.2.2.2.2.2 p.1 p.2 (fun v0 v1 => nx (v0, v1)) (fun v0 => ex v0)
def i_copyWorld_L0 (a0_7 : List EndpointV) (a0_9 : Int) (a0_13 : List Int) (a0_14 : List Int) (a0_15 : Int) (a0_16 : List EndpointV) (a0_17 : Int) (a0_18 : List Int) (a0_19 : Int) (a0_20 : Bool) (a0_21 : Int) (a0_22 : Int) (a0_23 : List DialedV) (a0_24 : List LoggedV) (a0_25 : Int) (a0_26 : Int) (a0_27 : Int) (a0_31 : Int) (a0_33 : Int) (a0_35 : Int) (a0_36 : Bool) (a0_37 : Int) (a0_38 : Int) (a0_41 : Int) (a0_42 : Int) (a0_43 : Int) (a0_47 : Int) (a0_49 : Int) (a0_51 : Int) (a0_52 : Bool) (a0_53 : Int) (a0_54 : Int) (a0_57 : Int) (a0_58 : Int) (a0_59 : Int) (a0_60 : List Int) (a0_61 : List Int) (a0_63 : List Int) (n : Nat) (a0_11 : Int) (a0_62 : List EndpointV) : Option ((List EndpointV)) := @loopF ((List EndpointV) × Int × (List Int) × (List Int) × Int × (List EndpointV) × Int × (List Int) × Int × Bool × Int × Int × (List DialedV) × (List LoggedV) × Int × Int × Int × Int × Int × Int × Bool × Int × Int × Int × Int × Int × Int × Int × Int × Bool × Int × Int × Int × Int × Int × (List Int) × (List Int) × (List Int)) (Int × (List EndpointV)) ((List EndpointV)) (i_copyWorld_W0 _) (a0_7, a0_9, a0_13, a0_14, a0_15, a0_16, a0_17, a0_18, a0_19, a0_20, a0_21, a0_22, a0_23, a0_24, a0_25, a0_26, a0_27, a0_31, a0_33, a0_35, a0_36, a0_37, a0_38, a0_41, a0_42, a0_43, a0_47, a0_49, a0_51, a0_52, a0_53, a0_54, a0_57, a0_58, a0_59, a0_60, a0_61, a0_63) n (a0_11, a0_62)
def i_copyWorld_E0 : Env Tryz.prog (0, 77) (bodyOf Tryz.f42) := ⟨[i_copyRollout_e, i_copyEndpoint_e, i_copyDialed_e], [], [], []⟩
theorem i_copyWorld_b0 : BodyOk T i_copyWorld_E0 [0, 1, 0, 1, 1, 1, 1] i_copyWorld_S0 i_copyWorld_W0 := fun R c p nx ex => by kernel_rfl
def i_copyWorld_B1 {R : Type} (a1_7 : List DialedV) (a1_9 : Int) (a1_13 : List Int) (a1_14 : List Int) (a1_15 : Int) (a1_16 : List EndpointV) (a1_17 : Int) (a1_18 : List Int) (a1_19 : Int) (a1_20 : Bool) (a1_21 : Int) (a1_22 : Int) (a1_23 : List DialedV) (a1_24 : List LoggedV) (a1_25 : Int) (a1_26 : Int) (a1_27 : Int) (a1_31 : Int) (a1_33 : Int) (a1_35 : Int) (a1_36 : Bool) (a1_37 : Int) (a1_38 : Int) (a1_41 : Int) (a1_42 : Int) (a1_43 : Int) (a1_47 : Int) (a1_49 : Int) (a1_51 : Int) (a1_52 : Bool) (a1_53 : Int) (a1_54 : Int) (a1_57 : Int) (a1_58 : Int) (a1_59 : Int) (a1_60 : List Int) (a1_61 : List Int) (a1_62 : List EndpointV) (a1_63 : List Int) (a1_11 : Int) (a1_64 : List DialedV) (nx : Int → List DialedV → Option R) (x0 : List DialedV → Option R) : Option R :=
  fork (decide (a1_11 < a1_9)) (need (0 ≤ a1_11 ∧ a1_11 < ((a1_7.length : Nat) : Int)) (
  bnd (i_copyDialed (⟨((a1_7.getD a1_11.toNat (dflt (.st .dialed))).Deal), (a1_7.getD a1_11.toNat (dflt (.st .dialed))).Tries, (a1_7.getD a1_11.toNat (dflt (.st .dialed))).Up⟩ : DialedV)) fun y6 =>
  need ((((a1_64.length + ([y6] : List DialedV).length : Nat)) : Int) * ((72 : Nat) : Int) ≤ 140737488355328) (nx (w64 (a1_11 + 1)) (a1_64 ++ ([y6] : List DialedV))))) (
  x0 a1_64)
def i_copyWorld_S1 : LoopS := ⟨⟨[(1, false, [.bp 1010000 0]), (2, false, [.bp 1010001 0]), (3, false, [.bp 1010002 0]), (44, false, [.ro]), (45, false, [.val]), (46, false, [.val])], [(1010000, .box [.ro, .ro, .val, .ro, .val, .ro, .val, .val, .val, .val, .ro, .ro, .val, .val, .val]), (1010001, .box [.nil (.int .i64), .nil (.int .i64), .val, .nil (.st .endpoint), .val, .nil (.int .i64), .val, .val, .val, .val, .nil (.st .dialed), .nil (.st .logged), .val, .val, .val]), (1010002, .box [.tr 1010003, .tr 1010004, .val, .tr 1010005, .val, .tr 1010006, .val, .val, .val, .val, .tr 1010007, .nil (.st .logged), .val, .val, .val]), (1010003, .tree), (1010004, .tree), (1010005, .tree), (1010006, .tree), (1010007, .tree)]⟩, [some 0, some 1, none, some 2, some 3, some 4, some 5, some 6, some 7, some 8, some 9, some 10, some 11, some 12, some 13, some 14, some 15, some 16, some 17, some 18, some 19, some 20, some 21, some 22, some 23, some 24, some 25, some 26, some 27, some 28, some 29, some 30, some 31, some 32, some 33, some 34, some 35, some 36, some 37, some 38, none], [.v (.sl (.st .dialed)), .v (.int .i64), .v (.sl (.int .i64)), .v (.sl (.int .i64)), .v (.int .i64), .v (.sl (.st .endpoint)), .v (.int .i64), .v (.sl (.int .i64)), .v (.int .i64), .v (.bool), .v (.int .i64), .v (.int .i64), .v (.sl (.st .dialed)), .v (.sl (.st .logged)), .v (.int .i64), .v (.int .i64), .v (.int .i64), .v (.int .i64), .v (.int .i64), .v (.int .i64), .v (.bool), .v (.int .i64), .v (.int .i64), .v (.int .i64), .v (.int .i64), .v (.int .i64), .v (.int .i64), .v (.int .i64), .v (.int .i64), .v (.bool), .v (.int .i64), .v (.int .i64), .v (.int .i64), .v (.int .i64), .v (.int .i64), .v (.sl (.int .i64)), .v (.sl (.int .i64)), .v (.sl (.st .endpoint)), .v (.sl (.int .i64))], [.v (.int .i64), .v (.sl (.st .dialed))],
  [⟨.exit 2, ⟨[(1, false, [.bp 2010000 0]), (2, false, [.bp 2010001 0]), (3, false, [.bp 2010002 0])], [(2010000, .box [.ro, .ro, .val, .ro, .val, .ro, .val, .val, .val, .val, .ro, .ro, .val, .val, .val]), (2010001, .box [.nil (.int .i64), .nil (.int .i64), .val, .nil (.st .endpoint), .val, .nil (.int .i64), .val, .val, .val, .val, .nil (.st .dialed), .nil (.st .logged), .val, .val, .val]), (2010002, .box [.tr 2010003, .tr 2010004, .val, .tr 2010005, .val, .tr 2010006, .val, .val, .val, .val, .tr 2010007, .nil (.st .logged), .val, .val, .val]), (2010003, .tree), (2010004, .tree), (2010005, .tree), (2010006, .tree), (2010007, .tree)]⟩, [some 2, some 3, some 4, some 5, some 6, some 7, some 8, some 9, some 10, some 11, some 12, some 13, some 14, some 15, some 16, some 17, some 18, some 19, some 20, some 21, some 22, some 23, some 24, some 25, some 26, some 27, some 28, some 29, some 30, some 31, some 32, some 33, some 34, some 35, some 36, some 37, some 38, none], [.v (.sl (.st .dialed))]⟩]⟩
def i_copyWorld_W1 : LoopB i_copyWorld_S1 := fun R c p nx ex => i_copyWorld_B1 c.1 c.2.1 c.2.2.1 c.2.2.2.1 c.2.2.2.2.1 c.2.2.2.2.2.1 c.2.2.2.2.2.2.1 c.2.2.2.2.2.2.2.1 c.2.2.2.2.2.2.2.2.1 c.2.2.2.2.2.2.2.2.2.1 c.2.2.2.2.2.2.2.2.2.2.1 c.2.2.2.2.2.2.2.2.2.2.2.1 c.2.2.2.2.2.2.2.2.2.2.2.2.1 c.2.2.2.2.2.2.2.2.2.2.2.2.2.1 c.2.2.2.2.2.2.2.2.2.2.2.2.2.2.1 c.2.2.2.2.2.2.2.2.2.2.2.2.2.2.2.1 c.2.2.2.2.2.2.2.2.2.2.2.2.2.2.2.2.1 c.2.2.2.2.2.2.2.2.2.2.2.2.2.2.2.2.2.1 c.2.2.2.2.2.2.2.2.2.2.2.2.2.2.2.2.2.2.1 c.2.2.2.2.2.2.2.2.2.2.2.2.2.2.2.2.2.2.2.1 c.2.2.2.2.2.2.2.2.2.2.2.2.2.2.2.2.2.2.2.2.1 c.2.2.2.2.2.2.2.2.2.2.2.2.2.2.2.2.2.2.2.2.2.1 c.2.2.2.2.2.2.2.2.2.2.2.2.2.2.2.2.2.2.2.2.2.2.1 c.2.2.2.2.2.2.2.2.2.2.2.2.2.2.2.2.2.2.2.2.2.2.2.1 c.2.2.2.2.2.2.2.2.2.2.2.2.2.2.2.2.2.2.2.2.2.2.2.2.1 c.2.2.2.2.2.2.2.2.2.2.2.2.2.2.2.2.2.2.2.2.2.2.2.2.2.1 c.2.2.2.2.2.2.2.2.2.2.2.2.2.2.2.2.2.2.2.2.2.2.2.2.2.2.1 c.2.2.2.2.2.2.2.2.2.2.2.2.2.2.2.2.2.2.2.2.2.2.2.2.2.2.2.1 c.2.2.2.2.2.2.2.2.2.2.2.2.2.2.2.2.2.2.2.2.2.2.2.2.2.2.2.2.1 c.2.2.2.2.2.2.2.2.2.2.2.2.2.2.2.2.2.2.2.2.2.2.2.2.2.2.2.2.2.1 c.2.2.2.2.2.2.2.2.2.2.2.2.2.2.2.2.2.2.2.2.2.2.2.2.2.2.2.2.2.2.1 c.2.2.2.2.2.2.2.2.2.2.2.2.2.2.2.2.2.2.2.2.2.2.2.2.2.2.2.2.2.2.2.1 c.2.2.2.2.2.2.2.2.2.2.2.2.2.2.2.2.2.2.2.2.2.2.2.2.2.2.2.2.2.2.2.2.1 c.2.2.2.2.2.2.2.2.2.2.2.2.2.2.2.2.2.2.2.2.2.2.2.2.2.2.2.2.2.2.2.2.2.1 c.2.2.2.2.2.2.2.2.2.2.2.2.2.2.2.2.2.2.2.2.2.2.2.2.2.2.2.2.2.2.2.2.2.2.1 c.2.2.2.2.2.2.2.2.2.2.2.2.2.2.2.2.2.2.2.2.2.2.2.2.2.2.2.2.2.2.2.2.2.2.2.1 c.2.2.2.2.2.2.2.2.2.2.2.2.2.2.2.2.2.2.2.2.2.2.2.2.2.2.2.2.2.2.2.2.2.2.2.2.1 c.2.2.2.2.2.2.2.2.2.2.2.2.2.2.2.2.2.2.2.2.2.2.2.2.2.2.2.2.2.2.2.2.2.2.2.2.2.1 c.2.2.2.2.2.2.2.2.2.2.2.2.2.2.2.2.2.2.2.2.2.2.2.2.2.2.2.2.2.2.2.2.2.2.2.2.2.2 p.1 p.2 (fun v0 v1 => nx (v0, v1)) (fun v0 => ex v0)
def i_copyWorld_L1 (a1_7 : List DialedV) (a1_9 : Int) (a1_13 : List Int) (a1_14 : List Int) (a1_15 : Int) (a1_16 : List EndpointV) (a1_17 : Int) (a1_18 : List Int) (a1_19 : Int) (a1_20 : Bool) (a1_21 : Int) (a1_22 : Int) (a1_23 : List DialedV) (a1_24 : List LoggedV) (a1_25 : Int) (a1_26 : Int) (a1_27 : Int) (a1_31 : Int) (a1_33 : Int) (a1_35 : Int) (a1_36 : Bool) (a1_37 : Int) (a1_38 : Int) (a1_41 : Int) (a1_42 : Int) (a1_43 : Int) (a1_47 : Int) (a1_49 : Int) (a1_51 : Int) (a1_52 : Bool) (a1_53 : Int) (a1_54 : Int) (a1_57 : Int) (a1_58 : Int) (a1_59 : Int) (a1_60 : List Int) (a1_61 : List Int) (a1_62 : List EndpointV) (a1_63 : List Int) (n : Nat) (a1_11 : Int) (a1_64 : List DialedV) : Option ((List DialedV)) := @loopF ((List DialedV) × Int × (List Int) × (List Int) × Int × (List EndpointV) × Int × (List Int) × Int × Bool × Int × Int × (List DialedV) × (List LoggedV) × Int × Int × Int × Int × Int × Int × Bool × Int × Int × Int × Int × Int × Int × Int × Int × Bool × Int × Int × Int × Int × Int × (List Int) × (List Int) × (List EndpointV) × (List Int)) (Int × (List DialedV)) ((List DialedV)) (i_copyWorld_W1 _) (a1_7, a1_9, a1_13, a1_14, a1_15, a1_16, a1_17, a1_18, a1_19, a1_20, a1_21, a1_22, a1_23, a1_24, a1_25, a1_26, a1_27, a1_31, a1_33, a1_35, a1_36, a1_37, a1_38, a1_41, a1_42, a1_43, a1_47, a1_49, a1_51, a1_52, a1_53, a1_54, a1_57, a1_58, a1_59, a1_60, a1_61, a1_62, a1_63) n (a1_11, a1_64)
def i_copyWorld_E1 : Env Tryz.prog (0, 77) (bodyOf Tryz.f42) := ⟨[i_copyRollout_e, i_copyEndpoint_e, i_copyDialed_e], [], [⟨[0, 1, 0, 1, 1, 1, 1], LoopE.of tabOk tabB mixed i_copyWorld_E0 [0, 1, 0, 1, 1, 1, 1] (by kernel_rfl) _ _ i_copyWorld_b0⟩], []⟩
theorem i_copyWorld_b1 : BodyOk T i_copyWorld_E1 [0, 1, 0, 1, 1, 1, 1, 1] i_copyWorld_S1 i_copyWorld_W1 := fun R c p nx ex => by kernel_rfl
def i_copyWorld_B2 {R : Type} (a2_5 : List LoggedV) (a2_7 : Int) (a2_13 : Int) (a2_15 : Int) (a2_17 : Int) (a2_18 : Bool) (a2_19 : Int) (a2_20 : Int) (a2_23 : Int) (a2_24 : Int) (a2_25 : Int) (a2_29 : Int) (a2_31 : Int) (a2_33 : Int) (a2_34 : Bool) (a2_35 : Int) (a2_36 : Int) (a2_39 : Int) (a2_40 : Int) (a2_41 : Int) (a2_42 : List Int) (a2_43 : List Int) (a2_44 : List EndpointV) (a2_45 : List Int) (a2_46 : List DialedV) (a2_9 : Int) (a2_47 : List LoggedV) (nx : Int → List LoggedV → Option R) (x0 : List LoggedV → Option R) : Option R :=
  fork (decide (a2_9 < a2_7)) (need (0 ≤ a2_9 ∧ a2_9 < ((a2_5.length : Nat) : Int)) (
  bnd (i_copyDialed (⟨(((a2_5.getD a2_9.toNat (dflt (.st .logged))).Dialed).Deal), ((a2_5.getD a2_9.toNat (dflt (.st .logged))).Dialed).Tries, ((a2_5.getD a2_9.toNat (dflt (.st .logged))).Dialed).Up⟩ : DialedV)) fun y9 =>
  need ((((a2_47.length + ([(⟨(a2_5.getD a2_9.toNat (dflt (.st .logged))).End, (a2_5.getD a2_9.toNat (dflt (.st .logged))).Tick, (a2_5.getD a2_9.toNat (dflt (.st .logged))).On, y9⟩ : LoggedV)] : List LoggedV).length : Nat)) : Int) * ((96 : Nat) : Int) ≤ 140737488355328) (
  nx (w64 (a2_9 + 1)) (a2_47 ++ ([(⟨(a2_5.getD a2_9.toNat (dflt (.st .logged))).End, (a2_5.getD a2_9.toNat (dflt (.st .logged))).Tick, (a2_5.getD a2_9.toNat (dflt (.st .logged))).On, y9⟩ : LoggedV)] : List LoggedV))
 ))) (x0 a2_47)
def i_copyWorld_S2 : LoopS := ⟨⟨[(2, false, [.bp 1020000 0]), (3, false, [.bp 1020001 0]), (59, false, [.ro]), (60, false, [.val]), (61, false, [.val])], [(1020000, .box [.nil (.int .i64), .nil (.int .i64), .val, .nil (.st .endpoint), .val, .nil (.int .i64), .val, .val, .val, .val, .nil (.st .dialed), .nil (.st .logged), .val, .val, .val]), (1020001, .box [.tr 1020002, .tr 1020003, .val, .tr 1020004, .val, .tr 1020005, .val, .val, .val, .val, .tr 1020006, .tr 1020007, .val, .val, .val]), (1020002, .tree), (1020003, .tree), (1020004, .tree), (1020005, .tree), (1020006, .tree), (1020007, .tree)]⟩, [some 0, some 1, none, some 2, some 3, some 4, some 5, some 6, some 7, some 8, some 9, some 10, some 11, some 12, some 13, some 14, some 15, some 16, some 17, some 18, some 19, some 20, some 21, some 22, some 23, some 24, none], [.v (.sl (.st .logged)), .v (.int .i64), .v (.int .i64), .v (.int .i64), .v (.int .i64), .v (.bool), .v (.int .i64), .v (.int .i64), .v (.int .i64), .v (.int .i64), .v (.int .i64), .v (.int .i64), .v (.int .i64), .v (.int .i64), .v (.bool), .v (.int .i64), .v (.int .i64), .v (.int .i64), .v (.int .i64), .v (.int .i64), .v (.sl (.int .i64)), .v (.sl (.int .i64)), .v (.sl (.st .endpoint)), .v (.sl (.int .i64)), .v (.sl (.st .dialed))], [.v (.int .i64), .v (.sl (.st .logged))],
  [⟨.exit 4, ⟨[(2, false, [.bp 2020000 0]), (3, false, [.bp 2020001 0])], [(2020000, .box [.nil (.int .i64), .nil (.int .i64), .val, .nil (.st .endpoint), .val, .nil (.int .i64), .val, .val, .val, .val, .nil (.st .dialed), .nil (.st .logged), .val, .val, .val]), (2020001, .box [.tr 2020002, .tr 2020003, .val, .tr 2020004, .val, .tr 2020005, .val, .val, .val, .val, .tr 2020006, .tr 2020007, .val, .val, .val]), (2020002, .tree), (2020003, .tree), (2020004, .tree), (2020005, .tree), (2020006, .tree), (2020007, .tree)]⟩, [some 2, some 3, some 4, some 5, some 6, some 7, some 8, some 9, some 10, some 11, some 12, some 13, some 14, some 15, some 16, some 17, some 18, some 19, some 20, some 21, some 22, some 23, some 24, none], [.v (.sl (.st .logged))]⟩]⟩
def i_copyWorld_W2 : LoopB i_copyWorld_S2 := fun R c p nx ex => i_copyWorld_B2 c.1 c.2.1 c.2.2.1 c.2.2.2.1 c.2.2.2.2.1 c.2.2.2.2.2.1 c.2.2.2.2.2.2.1 c.2.2.2.2.2.2.2.1 c.2.2.2.2.2.2.2.2.1 c.2.2.2.2.2.2.2.2.2.1 c.2.2.2.2.2.2.2.2.2.2.1 c.2.2.2.2.2.2.2.2.2.2.2.1 c.2.2.2.2.2.2.2.2.2.2.2.2.1 c.2.2.2.2.2.2.2.2.2.2.2.2.2.1 c.2.2.2.2.2.2.2.2.2.2.2.2.2.2.1 c.2.2.2.2.2.2.2.2.2.2.2.2.2.2.2.1 c.2.2.2.2.2.2.2.2.2.2.2.2.2.2.2.2.1 c.2.2.2.2.2.2.2.2.2.2.2.2.2.2.2.2.2.1 c.2.2.2.2.2.2.2.2.2.2.2.2.2.2.2.2.2.2.1 c.2.2.2.2.2.2.2.2.2.2.2.2.2.2.2.2.2.2.2.1 c.2.2.2.2.2.2.2.2.2.2.2.2.2.2.2.2.2.2.2.2.1 c.2.2.2.2.2.2.2.2.2.2.2.2.2.2.2.2.2.2.2.2.2.1 c.2.2.2.2.2.2.2.2.2.2.2.2.2.2.2.2.2.2.2.2.2.2.1 c.2.2.2.2.2.2.2.2.2.2.2.2.2.2.2.2.2.2.2.2.2.2.2.1 c.2.2.2.2.2.2.2.2.2.2.2.2.2.2.2.2.2.2.2.2.2.2.2.2 p.1 p.2 (fun v0 v1 => nx (v0, v1)) (fun v0 => ex v0)
def i_copyWorld_L2 (a2_5 : List LoggedV) (a2_7 : Int) (a2_13 : Int) (a2_15 : Int) (a2_17 : Int) (a2_18 : Bool) (a2_19 : Int) (a2_20 : Int) (a2_23 : Int) (a2_24 : Int) (a2_25 : Int) (a2_29 : Int) (a2_31 : Int) (a2_33 : Int) (a2_34 : Bool) (a2_35 : Int) (a2_36 : Int) (a2_39 : Int) (a2_40 : Int) (a2_41 : Int) (a2_42 : List Int) (a2_43 : List Int) (a2_44 : List EndpointV) (a2_45 : List Int) (a2_46 : List DialedV) (n : Nat) (a2_9 : Int) (a2_47 : List LoggedV) : Option ((List LoggedV)) := @loopF ((List LoggedV) × Int × Int × Int × Int × Bool × Int × Int × Int × Int × Int × Int × Int × Int × Bool × Int × Int × Int × Int × Int × (List Int) × (List Int) × (List EndpointV) × (List Int) × (List DialedV)) (Int × (List LoggedV)) ((List LoggedV)) (i_copyWorld_W2 _) (a2_5, a2_7, a2_13, a2_15, a2_17, a2_18, a2_19, a2_20, a2_23, a2_24, a2_25, a2_29, a2_31, a2_33, a2_34, a2_35, a2_36, a2_39, a2_40, a2_41, a2_42, a2_43, a2_44, a2_45, a2_46) n (a2_9, a2_47)
def i_copyWorld_E2 : Env Tryz.prog (0, 77) (bodyOf Tryz.f42) := ⟨[i_copyRollout_e, i_copyEndpoint_e, i_copyDialed_e], [], [⟨[0, 1, 0, 1, 1, 1, 1], LoopE.of tabOk tabB mixed i_copyWorld_E0 [0, 1, 0, 1, 1, 1, 1] (by kernel_rfl) _ _ i_copyWorld_b0⟩, ⟨[0, 1, 0, 1, 1, 1, 1, 1], LoopE.of tabOk tabB mixed i_copyWorld_E1 [0, 1, 0, 1, 1, 1, 1, 1] (by kernel_rfl) _ _ i_copyWorld_b1⟩], []⟩
theorem i_copyWorld_b2 : BodyOk T i_copyWorld_E2 [0, 1, 0, 1, 1, 1, 1, 1, 1] i_copyWorld_S2 i_copyWorld_W2 := fun R c p nx ex => by kernel_rfl
def i_copyWorld (w : WorldV) : Option WorldV :=
  need ((((([] : List Int).length + w.Server.length : Nat)) : Int) * ((8 : Nat) : Int) ≤ 140737488355328) (
  need ((((([] : List Int).length + w.Tags.length : Nat)) : Int) * ((8 : Nat) : Int) ≤ 140737488355328) (bnd (i_copyRollout w.Rollout) fun y1 =>
  bnd (i_copyWorld_L0 w.Ends ((w.Ends.length : Nat) : Int) w.Server w.Tags w.Key w.Ends w.Rollout.Version w.Rollout.Stages w.Rollout.At w.Rollout.Off w.Least w.Percent w.Stage w.Log w.Now w.Hurt w.Reached 0 0 0 false 0 0 0 0 0 w.Key y1.Version y1.At y1.Off w.Least w.Percent w.Now w.Hurt w.Reached (([] : List Int) ++ w.Server) (([] : List Int) ++ w.Tags) y1.Stages big 0 ([] : List EndpointV)) fun y4 =>
  bnd (i_copyWorld_L1 w.Stage ((w.Stage.length : Nat) : Int) w.Server w.Tags w.Key w.Ends w.Rollout.Version w.Rollout.Stages w.Rollout.At w.Rollout.Off w.Least w.Percent w.Stage w.Log w.Now w.Hurt w.Reached 0 0 0 false 0 0 0 0 0 w.Key y1.Version y1.At y1.Off w.Least w.Percent w.Now w.Hurt w.Reached (([] : List Int) ++ w.Server) (([] : List Int) ++ w.Tags) y4 y1.Stages big 0 ([] : List DialedV)) fun y7 =>
  bnd (i_copyWorld_L2 w.Log ((w.Log.length : Nat) : Int) 0 0 0 false 0 0 0 0 0 w.Key y1.Version y1.At y1.Off w.Least w.Percent w.Now w.Hurt w.Reached (([] : List Int) ++ w.Server) (([] : List Int) ++ w.Tags) y4 y1.Stages y7 big 0 ([] : List LoggedV)) fun y10 =>
  some (⟨(([] : List Int) ++ w.Server), (([] : List Int) ++ w.Tags), w.Key, y4, y1, w.Least, w.Percent, y7, y10, w.Now, w.Hurt, w.Reached⟩ : WorldV)))
theorem i_copyWorld_c : FnC Tryz.prog 42 [.v (.st .world)] [.st .world] (fun x => i_copyWorld x) :=
  FnC.of (body := bodyOf Tryz.f42) (N := (0, 77)) tabOk tabB mixed Tryz.func42 (by kernel_rfl) (by kernel_rfl) (fun _ => by kernel_rfl) ⟨[i_copyRollout_e, i_copyEndpoint_e, i_copyDialed_e], [], [⟨[0, 1, 0, 1, 1, 1, 1], LoopE.of tabOk tabB mixed i_copyWorld_E0 [0, 1, 0, 1, 1, 1, 1] (by kernel_rfl) _ _ i_copyWorld_b0⟩, ⟨[0, 1, 0, 1, 1, 1, 1, 1], LoopE.of tabOk tabB mixed i_copyWorld_E1 [0, 1, 0, 1, 1, 1, 1, 1] (by kernel_rfl) _ _ i_copyWorld_b1⟩, ⟨[0, 1, 0, 1, 1, 1, 1, 1, 1], LoopE.of tabOk tabB mixed i_copyWorld_E2 [0, 1, 0, 1, 1, 1, 1, 1, 1] (by kernel_rfl) _ _ i_copyWorld_b2⟩], []⟩ (fun _ => by kernel_rfl) (fun x => by kernel_rfl)
def i_copyWorld_e : Entry Tryz.prog := .of i_copyWorld_c

/- impl.CeilDiv -/
def i_CeilDiv (a : Int) (b : Int) : Option Int :=
  bnd (i_InRange a 0 1000000000000) fun y1 => fork (!y1) (some 0) (bnd (i_InRange b 1 1000000000000) fun y2 => fork (!y2) (some 0) (need (b ≠ 0) (
  some (w64 ((w64 ((w64 (a + b)) - 1)).tdiv b)))))
theorem i_CeilDiv_c : FnC Tryz.prog 64 [.v (.int .i64), .v (.int .i64)] [.int .i64] (fun x => i_CeilDiv x.1 x.2) :=
  FnC.of (body := bodyOf Tryz.f64) (N := (0, 19)) tabOk tabB mixed Tryz.func64 (by kernel_rfl) (by kernel_rfl) (fun _ => by kernel_rfl) ⟨[i_InRange_e], [], [], []⟩ (fun _ => by kernel_rfl) (fun x => by kernel_rfl)
def i_CeilDiv_e : Entry Tryz.prog := .of i_CeilDiv_c

/- impl.CountIn -/
def i_CountIn (p0 : RolloutV) (n : Int) : Option Int :=
  bnd (i_IsRollout p0) fun y1 => fork (!y1) (some 0) (fork p0.Off (some 0) (bnd (i_InRange n 0 10000) fun y2 => fork (!y2) (some 0) (
  need (0 ≤ p0.At ∧ p0.At < ((p0.Stages.length : Nat) : Int)) (bnd (i_CeilDiv (w64 (n * (p0.Stages.getD p0.At.toNat (dflt (.int .i64))))) 100) fun y3 => some y3))))
theorem i_CountIn_c : FnC Tryz.prog 14 [.v (.st .rollout), .v (.int .i64)] [.int .i64] (fun x => i_CountIn x.1 x.2) :=
  FnC.of (body := bodyOf Tryz.f14) (N := (0, 26)) tabOk tabB mixed Tryz.func14 (by kernel_rfl) (by kernel_rfl) (fun _ => by kernel_rfl) ⟨[i_IsRollout_e, i_InRange_e, i_CeilDiv_e], [], [], []⟩ (fun _ => by kernel_rfl) (fun x => by kernel_rfl)
def i_CountIn_e : Entry Tryz.prog := .of i_CountIn_c

/- impl.IsIn -/
def i_IsIn (p0 : RolloutV) (i : Int) (n : Int) : Option Bool :=
  fork (decide (i ≥ 0)) (fork (decide (i < n)) (bnd (i_CountIn p0 n) fun y1 => some (decide (i < y1))) (some false)) (some false)
theorem i_IsIn_c : FnC Tryz.prog 43 [.v (.st .rollout), .v (.int .i64), .v (.int .i64)] [.bool] (fun x => i_IsIn x.1 x.2.1 x.2.2) :=
  FnC.of (body := bodyOf Tryz.f43) (N := (0, 21)) tabOk tabB mixed Tryz.func43 (by kernel_rfl) (by kernel_rfl) (fun _ => by kernel_rfl) ⟨[i_CountIn_e], [], [], []⟩ (fun _ => by kernel_rfl) (fun x => by kernel_rfl)
def i_IsIn_e : Entry Tryz.prog := .of i_IsIn_c

/- impl.withVersion -/
def i_withVersion_B0 {R : Type} (a0_3 : Int) (a0_8 : List Int) (a0_7 : Int) (nx : Int → Option R) (x0 : Int → Option R) : Option R :=
  fork (decide (a0_7 < ((a0_8.length : Nat) : Int))) (need (0 ≤ a0_7 ∧ a0_7 < ((a0_8.length : Nat) : Int)) (
  fork (decide ((a0_8.getD a0_7.toNat (dflt (.int .i64))) < a0_3)) (nx (w64 (a0_7 + 1))) (x0 a0_7))) (x0 a0_7)
def i_withVersion_S0 : LoopS := ⟨⟨[(0, false, [.tr 1000000]), (1, false, [.val]), (4, false, [.nil (.int .i64)]), (5, false, [.val])], [(1000000, .tree)]⟩, [some 0, none, some 1], [.v (.int .i64), .v (.sl (.int .i64))], [.v (.int .i64)],
  [⟨.exit 0, ⟨[(0, false, [.tr 2000000]), (1, false, [.val]), (4, false, [.nil (.int .i64)]), (5, false, [.val])], [(2000000, .tree)]⟩, [some 0, none, some 1], [.v (.int .i64)]⟩]⟩
def i_withVersion_W0 : LoopB i_withVersion_S0 := fun R c p nx ex => i_withVersion_B0 c.1 c.2 p (fun v0 => nx v0) (fun v0 => ex v0)
def i_withVersion_L0 (a0_3 : Int) (a0_8 : List Int) (n : Nat) (a0_7 : Int) : Option Int := @loopF (Int × (List Int)) Int Int (i_withVersion_W0 _) (a0_3, a0_8) n a0_7
def i_withVersion_E0 : Env Tryz.prog (0, 38) (bodyOf Tryz.f44) := ⟨[g_Insert_int_e], [], [], []⟩
theorem i_withVersion_b0 : BodyOk T i_withVersion_E0 [0, 0, 1, 1] i_withVersion_S0 i_withVersion_W0 := fun R c p nx ex => by kernel_rfl
def i_withVersion (l : List Int) (v : Int) : Option (List Int) :=
  bnd (i_withVersion_L0 v l big 0) fun y1 => fork (decide (y1 < ((l.length : Nat) : Int))) (need (0 ≤ y1 ∧ y1 < ((l.length : Nat) : Int)) (
  fork ((l.getD y1.toNat (dflt (.int .i64))) == v) (some l) (bnd (g_Insert_int l y1 ([v] : List Int)) fun y2 => some y2))) (
  bnd (g_Insert_int l y1 ([v] : List Int)) fun y3 => some y3)
theorem i_withVersion_c : FnC Tryz.prog 44 [.mv (.sl (.int .i64)), .v (.int .i64)] [.sl (.int .i64)] (fun x => i_withVersion x.1 x.2) :=
  FnC.of (body := bodyOf Tryz.f44) (N := (0, 38)) tabOk tabB mixed Tryz.func44 (by kernel_rfl) (by kernel_rfl) (fun _ => by kernel_rfl) ⟨[g_Insert_int_e], [], [⟨[0, 0, 1, 1], LoopE.of tabOk tabB mixed i_withVersion_E0 [0, 0, 1, 1] (by kernel_rfl) _ _ i_withVersion_b0⟩], []⟩ (fun _ => by kernel_rfl) (fun x => by kernel_rfl)
def i_withVersion_e : Entry Tryz.prog := .of i_withVersion_c

/- impl.EnterStage -/
def i_EnterStage_B0 {R : Type} (a0_9 : Int) (a0_13 : List Int) (a0_14 : List Int) (a0_15 : Int) (a0_16 : List EndpointV) (a0_17 : Int) (a0_18 : List Int) (a0_19 : Int) (a0_20 : Bool) (a0_21 : Int) (a0_22 : Int) (a0_23 : List DialedV) (a0_24 : List LoggedV) (a0_25 : Int) (a0_26 : Int) (a0_27 : Int) (a0_31 : Int) (a0_33 : Int) (a0_35 : Int) (a0_36 : Bool) (a0_37 : Int) (a0_38 : Int) (a0_41 : Int) (a0_42 : Int) (a0_43 : Int) (a0_47 : Int) (a0_49 : Int) (a0_51 : Int) (a0_52 : Bool) (a0_53 : Int) (a0_54 : Int) (a0_57 : Int) (a0_58 : Int) (a0_59 : Int) (a0_61 : Int) (a0_62 : List Int) (a0_63 : Int) (a0_64 : Bool) (a0_65 : List Int) (a0_66 : List Int) (a0_68 : List Int) (a0_69 : List DialedV) (a0_70 : List LoggedV) (a0_11 : Int) (a0_67 : List EndpointV) (nx : Int → List EndpointV → Option R) (x0 : List EndpointV → Option R) : Option R :=
  fork (decide (a0_11 < a0_9)) (bnd (i_IsIn (⟨a0_61, a0_62, a0_63, a0_64⟩ : RolloutV) a0_11 ((a0_67.length : Nat) : Int)) fun y3 => fork y3 (
  need (0 ≤ a0_11 ∧ a0_11 < ((a0_67.length : Nat) : Int)) (need (0 ≤ a0_11 ∧ a0_11 < ((a0_67.length : Nat) : Int)) (need (a0_11.toNat = a0_11.toNat) (
  bnd (i_withVersion ((a0_67.getD a0_11.toNat (dflt (.st .endpoint))).Versions) a0_61) fun y4 => need (0 ≤ a0_11 ∧ a0_11 < ((a0_67.length : Nat) : Int)) (
  need (a0_11.toNat = a0_11.toNat) (
  nx (w64 (a0_11 + 1)) (a0_67.set a0_11.toNat (⟨y4, (a0_67.getD a0_11.toNat (dflt (.st .endpoint))).Tags, (a0_67.getD a0_11.toNat (dflt (.st .endpoint))).Path, (a0_67.getD a0_11.toNat (dflt (.st .endpoint))).Class⟩ : EndpointV))
 )))))) (nx (w64 (a0_11 + 1)) a0_67)) (x0 a0_67)
def i_EnterStage_S0 : LoopS := ⟨⟨[(1, false, [.bp 1000000 0]), (2, false, [.bp 1000001 0]), (3, false, [.bp 1000002 0]), (4, false, [.bp 1000003 0]), (20, false, [.val]), (21, false, [.val])], [(1000000, .box [.ro, .ro, .val, .ro, .val, .ro, .val, .val, .val, .val, .ro, .ro, .val, .val, .val]), (1000001, .box [.nil (.int .i64), .nil (.int .i64), .val, .nil (.st .endpoint), .val, .nil (.int .i64), .val, .val, .val, .val, .nil (.st .dialed), .nil (.st .logged), .val, .val, .val]), (1000002, .box [.tr 1000004, .tr 1000005, .val, .tr 1000006, .val, .tr 1000007, .val, .val, .val, .val, .tr 1000008, .tr 1000009, .val, .val, .val]), (1000003, .box [.val, .ro, .val, .val]), (1000004, .tree), (1000005, .tree), (1000006, .tree), (1000007, .tree), (1000008, .tree), (1000009, .tree)]⟩, [some 0, none, some 1, some 2, some 3, some 4, some 5, some 6, some 7, some 8, some 9, some 10, some 11, some 12, some 13, some 14, some 15, some 16, some 17, some 18, some 19, some 20, some 21, some 22, some 23, some 24, some 25, some 26, some 27, some 28, some 29, some 30, some 31, some 32, some 33, some 34, some 35, some 36, some 37, some 38, some 39, none, some 40, some 41, some 42], [.v (.int .i64), .v (.sl (.int .i64)), .v (.sl (.int .i64)), .v (.int .i64), .v (.sl (.st .endpoint)), .v (.int .i64), .v (.sl (.int .i64)), .v (.int .i64), .v (.bool), .v (.int .i64), .v (.int .i64), .v (.sl (.st .dialed)), .v (.sl (.st .logged)), .v (.int .i64), .v (.int .i64), .v (.int .i64), .v (.int .i64), .v (.int .i64), .v (.int .i64), .v (.bool), .v (.int .i64), .v (.int .i64), .v (.int .i64), .v (.int .i64), .v (.int .i64), .v (.int .i64), .v (.int .i64), .v (.int .i64), .v (.bool), .v (.int .i64), .v (.int .i64), .v (.int .i64), .v (.int .i64), .v (.int .i64), .v (.int .i64), .v (.sl (.int .i64)), .v (.int .i64), .v (.bool), .v (.sl (.int .i64)), .v (.sl (.int .i64)), .v (.sl (.int .i64)), .v (.sl (.st .dialed)), .v (.sl (.st .logged))], [.v (.int .i64), .v (.sl (.st .endpoint))],
  [⟨.exit 0, ⟨[(1, false, [.bp 2000000 0]), (2, false, [.bp 2000001 0]), (3, false, [.bp 2000002 0]), (4, false, [.bp 2000003 0])], [(2000000, .box [.ro, .ro, .val, .ro, .val, .ro, .val, .val, .val, .val, .ro, .ro, .val, .val, .val]), (2000001, .box [.nil (.int .i64), .nil (.int .i64), .val, .nil (.st .endpoint), .val, .nil (.int .i64), .val, .val, .val, .val, .nil (.st .dialed), .nil (.st .logged), .val, .val, .val]), (2000002, .box [.tr 2000004, .tr 2000005, .val, .tr 2000006, .val, .tr 2000007, .val, .val, .val, .val, .tr 2000008, .tr 2000009, .val, .val, .val]), (2000003, .box [.val, .ro, .val, .val]), (2000004, .tree), (2000005, .tree), (2000006, .tree), (2000007, .tree), (2000008, .tree), (2000009, .tree)]⟩, [some 1, some 2, some 3, some 4, some 5, some 6, some 7, some 8, some 9, some 10, some 11, some 12, some 13, some 14, some 15, some 16, some 17, some 18, some 19, some 20, some 21, some 22, some 23, some 24, some 25, some 26, some 27, some 28, some 29, some 30, some 31, some 32, some 33, some 34, some 35, some 36, some 37, some 38, some 39, none, some 40, some 41, some 42], [.v (.sl (.st .endpoint))]⟩]⟩
def i_EnterStage_W0 : LoopB i_EnterStage_S0 := fun R c p nx ex => i_EnterStage_B0 c.1 c.2.1 c.2.2.1 c.2.2.2.1 c.2.2.2.2.1 c.2.2.2.2.2.1 c.2.2.2.2.2.2.1 c.2.2.2.2.2.2.2.1 c.2.2.2.2.2.2.2.2.1 c.2.2.2.2.2.2.2.2.2.1 c.2.2.2.2.2.2.2.2.2.2.1 c.2.2.2.2.2.2.2.2.2.2.2.1 c.2.2.2.2.2.2.2.2.2.2.2.2.1 c.2.2.2.2.2.2.2.2.2.2.2.2.2.1 c.2.2.2.2.2.2.2.2.2.2.2.2.2.2.1 c.2.2.2.2.2.2.2.2.2.2.2.2.2.2.2.1 c.2.2.2.2.2.2.2.2.2.2.2.2.2.2.2.2.1 c.2.2.2.2.2.2.2.2.2.2.2.2.2.2.2.2.2.1 c.2.2.2.2.2.2.2.2.2.2.2.2.2.2.2.2.2.2.1 c.2.2.2.2.2.2.2.2.2.2.2.2.2.2.2.2.2.2.2.1 c.2.2.2.2.2.2.2.2.2.2.2.2.2.2.2.2.2.2.2.2.1 c.2.2.2.2.2.2.2.2.2.2.2.2.2.2.2.2.2.2.2.2.2.1 c.2.2.2.2.2.2.2.2.2.2.2.2.2.2.2.2.2.2.2.2.2.2.1 c.2.2.2.2.2.2.2.2.2.2.2.2.2.2.2.2.2.2.2.2.2.2.2.1 c.2.2.2.2.2.2.2.2.2.2.2.2.2.2.2.2.2.2.2.2.2.2.2.2.1 c.2.2.2.2.2.2.2.2.2.2.2.2.2.2.2.2.2.2.2.2.2.2.2.2.2.1 c.2.2.2.2.2.2.2.2.2.2.2.2.2.2.2.2.2.2.2.2.2.2.2.2.2.2.1 c.2.2.2.2.2.2.2.2.2.2.2.2.2.2.2.2.2.2.2.2.2.2.2.2.2.2.2.1 c.2.2.2.2.2.2.2.2.2.2.2.2.2.2.2.2.2.2.2.2.2.2.2.2.2.2.2.2.1 c.2.2.2.2.2.2.2.2.2.2.2.2.2.2.2.2.2.2.2.2.2.2.2.2.2.2.2.2.2.1 c.2.2.2.2.2.2.2.2.2.2.2.2.2.2.2.2.2.2.2.2.2.2.2.2.2.2.2.2.2.2.1 c.2.2.2.2.2.2.2.2.2.2.2.2.2.2.2.2.2.2.2.2.2.2.2.2.2.2.2.2.2.2.2.1 c.2.2.2.2.2.2.2.2.2.2.2.2.2.2.2.2.2.2.2.2.2.2.2.2.2.2.2.2.2.2.2.2.1 c.2.2.2.2.2.2.2.2.2.2.2.2.2.2.2.2.2.2.2.2.2.2.2.2.2.2.2.2.2.2.2.2.2.1 c.2.2.2.2.2.2.2.2.2.2.2.2.2.2.2.2.2.2.2.2.2.2.2.2.2.2.2.2.2.2.2.2.2.2.1 c.2.2.2.2.2.2.2.2.2.2.2.2.2.2.2.2.2.2.2.2.2.2.2.2.2.2.2.2.2.2.2.2.2.2.2.1 c.2.2.2.2.2.2.2.2.2.2.2.2.2.2.2.2.2.2.2.2.2.2.2.2.2.2.2.2.2.2.2.2.2.2.2.2.1 c.2.2.2.2.2.2.2.2.2.2.2.2.2.2.2.2.2.2.2.2.2.2.2.2.2.2.2.2.2.2.2.2.2.2.2.2.2.1 c.2.2.2.2.2.2.2.2.2.2.2.2.2.2.2.2.2.2.2.2.2.2.2.2.2.2.2.2.2.2.2.2.2.2.2.2.2.2.1 c.2.2.2.2.2.2.2.2.2.2.2.2.2.2.2.2.2.2.2.2.2.2.2.2.2.2.2.2.2.2.2.2.2.2.2.2.2.2.2.1 c.2.2.2.2.2.2.2.2.2.2.2.2.2.2.2.2.2.2.2.2.2.2.2.2.2.2.2.2.2.2.2.2.2.2.2.2.2.2.2.2.1 c.2.2.2.2.2.2.2.2.2.2.2.2.2.2.2.2.2.2.2.2.2.2.2.2.2.2.2.2.2.2.2.2.2.2.2.2.2.2.2.2.2.1 c.2.2.2.2.2.2.2.2.2.2.2.2.2.2.2.2.2.2.2.2.2.2.2.2.2.2.2.2.2.2.2.2.2.2.2.2.2.2.2.2.2.2 p.1 p.2 (fun v0 v1 => nx (v0, v1)) (fun v0 => ex v0)
def i_EnterStage_L0 (a0_9 : Int) (a0_13 : List Int) (a0_14 : List Int) (a0_15 : Int) (a0_16 : List EndpointV) (a0_17 : Int) (a0_18 : List Int) (a0_19 : Int) (a0_20 : Bool) (a0_21 : Int) (a0_22 : Int) (a0_23 : List DialedV) (a0_24 : List LoggedV) (a0_25 : Int) (a0_26 : Int) (a0_27 : Int) (a0_31 : Int) (a0_33 : Int) (a0_35 : Int) (a0_36 : Bool) (a0_37 : Int) (a0_38 : Int) (a0_41 : Int) (a0_42 : Int) (a0_43 : Int) (a0_47 : Int) (a0_49 : Int) (a0_51 : Int) (a0_52 : Bool) (a0_53 : Int) (a0_54 : Int) (a0_57 : Int) (a0_58 : Int) (a0_59 : Int) (a0_61 : Int) (a0_62 : List Int) (a0_63 : Int) (a0_64 : Bool) (a0_65 : List Int) (a0_66 : List Int) (a0_68 : List Int) (a0_69 : List DialedV) (a0_70 : List LoggedV) (n : Nat) (a0_11 : Int) (a0_67 : List EndpointV) : Option ((List EndpointV)) := @loopF (Int × (List Int) × (List Int) × Int × (List EndpointV) × Int × (List Int) × Int × Bool × Int × Int × (List DialedV) × (List LoggedV) × Int × Int × Int × Int × Int × Int × Bool × Int × Int × Int × Int × Int × Int × Int × Int × Bool × Int × Int × Int × Int × Int × Int × (List Int) × Int × Bool × (List Int) × (List Int) × (List Int) × (List DialedV) × (List LoggedV)) (Int × (List EndpointV)) ((List EndpointV)) (i_EnterStage_W0 _) (a0_9, a0_13, a0_14, a0_15, a0_16, a0_17, a0_18, a0_19, a0_20, a0_21, a0_22, a0_23, a0_24, a0_25, a0_26, a0_27, a0_31, a0_33, a0_35, a0_36, a0_37, a0_38, a0_41, a0_42, a0_43, a0_47, a0_49, a0_51, a0_52, a0_53, a0_54, a0_57, a0_58, a0_59, a0_61, a0_62, a0_63, a0_64, a0_65, a0_66, a0_68, a0_69, a0_70) n (a0_11, a0_67)
def i_EnterStage_E0 : Env Tryz.prog (0, 54) (bodyOf Tryz.f8) := ⟨[i_IsRollout_e, i_copyWorld_e, i_IsIn_e, i_withVersion_e], [], [], [([0, 1, 1, 0, 0, 1, 1, 0, 0, 1, 0, 1, 1, 1], .split 3 3 5 0 7000001)]⟩
theorem i_EnterStage_b0 : BodyOk T i_EnterStage_E0 [0, 1, 0, 1, 1, 1] i_EnterStage_S0 i_EnterStage_W0 := fun R c p nx ex => by kernel_rfl
def i_EnterStage (w : WorldV) : Option WorldV :=
  bnd (i_copyWorld w) fun y1 => bnd (i_IsRollout w.Rollout) fun y2 => fork (!y2) (some y1) (fork w.Rollout.Off (some y1) (
  bnd (i_EnterStage_L0 ((y1.Ends.length : Nat) : Int) w.Server w.Tags w.Key w.Ends w.Rollout.Version w.Rollout.Stages w.Rollout.At w.Rollout.Off w.Least w.Percent w.Stage w.Log w.Now w.Hurt w.Reached 0 0 0 false 0 0 0 0 0 y1.Key y1.Rollout.Version y1.Rollout.At y1.Rollout.Off y1.Least y1.Percent y1.Now y1.Hurt y1.Reached w.Rollout.Version w.Rollout.Stages w.Rollout.At w.Rollout.Off y1.Server y1.Tags y1.Rollout.Stages y1.Stage y1.Log big 0 y1.Ends) fun y5 =>
  some (⟨y1.Server, y1.Tags, y1.Key, y5, y1.Rollout, y1.Least, y1.Percent, [], y1.Log, y1.Now, y1.Hurt, (if (w64 (w.Rollout.At + 1)) > w.Reached then (w64 (w.Rollout.At + 1)) else w.Reached)⟩ : WorldV)
 ))
theorem i_EnterStage_c : FnC Tryz.prog 8 [.v (.st .world)] [.st .world] (fun x => i_EnterStage x) :=
  FnC.of (body := bodyOf Tryz.f8) (N := (0, 54)) tabOk tabB mixed Tryz.func8 (by kernel_rfl) (by kernel_rfl) (fun _ => by kernel_rfl) ⟨[i_IsRollout_e, i_copyWorld_e, i_IsIn_e, i_withVersion_e], [], [⟨[0, 1, 0, 1, 1, 1], LoopE.of tabOk tabB mixed i_EnterStage_E0 [0, 1, 0, 1, 1, 1] (by kernel_rfl) _ _ i_EnterStage_b0⟩], [([0, 1, 1, 0, 0, 1, 1, 0, 0, 1, 0, 1, 1, 1], .split 3 3 5 0 7000001)]⟩ (fun _ => by kernel_rfl) (fun x => by kernel_rfl)
def i_EnterStage_e : Entry Tryz.prog := .of i_EnterStage_c

/- impl.AreVersions -/
def i_AreVersions_B0 {R : Type} (a0_1 : List Int) (a0_3 : Bool) (a0_5 : List Int) (a0_7 : Int) (a0_9 : Int) (nx : Int → Option R) (x0 : Bool → Option R) (x1 : Option R) : Option R :=
  fork (decide (a0_9 < a0_7)) (need (0 ≤ a0_9 ∧ a0_9 < ((a0_5.length : Nat) : Int)) (bnd (i_InRange (a0_5.getD a0_9.toNat (dflt (.int .i64))) 1 9) fun y1 => fork (!y1) (
  x0 false) (fork (decide (a0_9 > 0)) (need (0 ≤ (w64 (a0_9 - 1)) ∧ (w64 (a0_9 - 1)) < ((a0_1.length : Nat) : Int)) (
  fork (decide ((a0_1.getD ((w64 (a0_9 - 1)).toNat) (dflt (.int .i64))) ≥ (a0_5.getD a0_9.toNat (dflt (.int .i64))))) (x0 false) (nx (w64 (a0_9 + 1))))) (
  nx (w64 (a0_9 + 1)))))) (x1)
def i_AreVersions_S0 : LoopS := ⟨⟨[(0, false, [.ro]), (2, false, [.val]), (5, false, [.ro]), (6, false, [.val]), (7, false, [.val])], []⟩, [some 0, some 1, some 2, some 3, none], [.v (.sl (.int .i64)), .v (.bool), .v (.sl (.int .i64)), .v (.int .i64)], [.v (.int .i64)],
  [⟨.ret, ⟨[(2, false, [.val])], []⟩, [none], [.v (.bool)]⟩, ⟨.exit 0, ⟨[(0, false, [.ro]), (2, false, [.val])], []⟩, [some 0, some 1], []⟩]⟩
def i_AreVersions_W0 : LoopB i_AreVersions_S0 := fun R c p nx ex => i_AreVersions_B0 c.1 c.2.1 c.2.2.1 c.2.2.2 p (fun v0 => nx v0) (fun v0 => ex (.inl v0)) (ex (.inr ()))
def i_AreVersions_L0 (a0_1 : List Int) (a0_3 : Bool) (a0_5 : List Int) (a0_7 : Int) (n : Nat) (a0_9 : Int) : Option (Bool ⊕ Unit) := @loopF ((List Int) × Bool × (List Int) × Int) Int (Bool ⊕ Unit) (i_AreVersions_W0 _) (a0_1, a0_3, a0_5, a0_7) n a0_9
def i_AreVersions_E0 : Env Tryz.prog (0, 32) (bodyOf Tryz.f65) := ⟨[i_InRange_e], [], [], []⟩
theorem i_AreVersions_b0 : BodyOk T i_AreVersions_E0 [0, 1, 0, 1] i_AreVersions_S0 i_AreVersions_W0 := fun R c p nx ex => by kernel_rfl
def i_AreVersions (l : List Int) : Option Bool :=
  bnd (i_AreVersions_L0 l false l ((l.length : Nat) : Int) big 0) (sum2 (fun y2 => some y2) (fun _ => some (decide (((l.length : Nat) : Int) > 0))))
theorem i_AreVersions_c : FnC Tryz.prog 65 [.v (.sl (.int .i64))] [.bool] (fun x => i_AreVersions x) :=
  FnC.of (body := bodyOf Tryz.f65) (N := (0, 32)) tabOk tabB mixed Tryz.func65 (by kernel_rfl) (by kernel_rfl) (fun _ => by kernel_rfl) ⟨[i_InRange_e], [], [⟨[0, 1, 0, 1], LoopE.of tabOk tabB mixed i_AreVersions_E0 [0, 1, 0, 1] (by kernel_rfl) _ _ i_AreVersions_b0⟩], []⟩ (fun _ => by kernel_rfl) (fun x => by kernel_rfl)
def i_AreVersions_e : Entry Tryz.prog := .of i_AreVersions_c
def i_AreVersions_k : CloE Tryz.prog := .one (k := 65) (t := .sl (.int .i64)) (cts := []) ⟨_, Tryz.func65, by kernel_rfl, by kernel_rfl⟩ (fun x c => i_AreVersions x) (fun x c r h => i_AreVersions_c x r h)

/- slices.Index[[]int,int] -/
def g_Index_int_B0 {R : Type} (a0_1 : List Int) (a0_3 : Int) (a0_5 : Int) (a0_7 : Int) (a0_9 : Int) (nx : Int → Option R) (x0 : Int → Option R) (x1 : Option R) : Option R :=
  fork (decide (a0_9 < a0_7)) (need (0 ≤ a0_9 ∧ a0_9 < ((a0_1.length : Nat) : Int)) (fork (a0_3 == (a0_1.getD a0_9.toNat (dflt (.int .i64)))) (x0 a0_9) (
  nx (w64 (a0_9 + 1))))) (x1)
def g_Index_int_S0 : LoopS := ⟨⟨[(0, false, [.ro]), (1, false, [.val]), (4, false, [.val]), (7, false, [.val]), (8, false, [.val])], []⟩, [some 0, some 1, some 2, some 3, none], [.v (.sl (.int .i64)), .v (.int .i64), .v (.int .i64), .v (.int .i64)], [.v (.int .i64)],
  [⟨.ret, ⟨[(4, false, [.val])], []⟩, [none], [.v (.int .i64)]⟩, ⟨.exit 0, ⟨[(4, false, [.val])], []⟩, [some 2], []⟩]⟩
def g_Index_int_W0 : LoopB g_Index_int_S0 := fun R c p nx ex => g_Index_int_B0 c.1 c.2.1 c.2.2.1 c.2.2.2 p (fun v0 => nx v0) (fun v0 => ex (.inl v0)) (ex (.inr ()))
def g_Index_int_L0 (a0_1 : List Int) (a0_3 : Int) (a0_5 : Int) (a0_7 : Int) (n : Nat) (a0_9 : Int) : Option (Int ⊕ Unit) := @loopF ((List Int) × Int × Int × Int) Int (Int ⊕ Unit) (g_Index_int_W0 _) (a0_1, a0_3, a0_5, a0_7) n a0_9
def g_Index_int_E0 : Env Tryz.prog (0, 19) (bodyOf Tryz.f100) := ⟨[], [], [], []⟩
theorem g_Index_int_b0 : BodyOk T g_Index_int_E0 [0, 1, 0, 1] g_Index_int_S0 g_Index_int_W0 := fun R c p nx ex => by kernel_rfl
def g_Index_int (s : List Int) (v : Int) : Option Int :=
  bnd (g_Index_int_L0 s v 0 ((s.length : Nat) : Int) big 0) (sum2 (fun y1 => some y1) (fun _ => some (-1)))
theorem g_Index_int_c : FnC Tryz.prog 100 [.v (.sl (.int .i64)), .v (.int .i64)] [.int .i64] (fun x => g_Index_int x.1 x.2) :=
  FnC.of (body := bodyOf Tryz.f100) (N := (0, 19)) tabOk tabB mixed Tryz.func100 (by kernel_rfl) (by kernel_rfl) (fun _ => by kernel_rfl) ⟨[], [], [⟨[0, 1, 0, 1], LoopE.of tabOk tabB mixed g_Index_int_E0 [0, 1, 0, 1] (by kernel_rfl) _ _ g_Index_int_b0⟩], []⟩ (fun _ => by kernel_rfl) (fun x => by kernel_rfl)
def g_Index_int_e : Entry Tryz.prog := .of g_Index_int_c

/- slices.Contains[[]int,int] -/
def g_Contains_int (s : List Int) (v : Int) : Option Bool :=
  bnd (g_Index_int s v) fun y1 => some (decide (y1 ≥ 0))
theorem g_Contains_int_c : FnC Tryz.prog 53 [.v (.sl (.int .i64)), .v (.int .i64)] [.bool] (fun x => g_Contains_int x.1 x.2) :=
  FnC.of (body := bodyOf Tryz.f53) (N := (0, 9)) tabOk tabB mixed Tryz.func53 (by kernel_rfl) (by kernel_rfl) (fun _ => by kernel_rfl) ⟨[g_Index_int_e], [], [], []⟩ (fun _ => by kernel_rfl) (fun x => by kernel_rfl)
def g_Contains_int_e : Entry Tryz.prog := .of g_Contains_int_c
def g_Contains_int_k : CloE Tryz.prog := .two (k := 53) (t := .sl (.int .i64)) (u := .int .i64) (cts := []) ⟨_, Tryz.func53, by kernel_rfl, by kernel_rfl⟩ (fun x y c => g_Contains_int x y) (fun x y c r h => g_Contains_int_c (x, y) r h)

/- impl.CommonOf -/
def i_CommonOf_B0 {R : Type} (a0_1 : List Int) (a0_7 : List Int) (a0_9 : Int) (a0_11 : Int) (a0_12 : List Int) (nx : Int → List Int → Option R) (x0 : List Int → Option R) : Option R :=
  fork (decide (a0_11 < a0_9)) (need (0 ≤ a0_11 ∧ a0_11 < ((a0_7.length : Nat) : Int)) (bnd (g_Contains_int a0_1 (a0_7.getD a0_11.toNat (dflt (.int .i64)))) fun y1 =>
  fork y1 (need ((((a0_12.length + ([(a0_7.getD a0_11.toNat (dflt (.int .i64)))] : List Int).length : Nat)) : Int) * ((8 : Nat) : Int) ≤ 140737488355328) (
  nx (w64 (a0_11 + 1)) (a0_12 ++ ([(a0_7.getD a0_11.toNat (dflt (.int .i64)))] : List Int)))) (nx (w64 (a0_11 + 1)) a0_12))) (x0 a0_12)
def i_CommonOf_S0 : LoopS := ⟨⟨[(1, false, [.ro]), (4, false, [.nil (.int .i64)]), (5, false, [.tr 1000000]), (9, false, [.ro]), (10, false, [.val]), (11, false, [.val])], [(1000000, .tree)]⟩, [some 0, some 1, some 2, none, none], [.v (.sl (.int .i64)), .v (.sl (.int .i64)), .v (.int .i64)], [.v (.int .i64), .v (.sl (.int .i64))],
  [⟨.exit 0, ⟨[(4, false, [.nil (.int .i64)]), (5, false, [.tr 2000000])], [(2000000, .tree)]⟩, [none], [.v (.sl (.int .i64))]⟩]⟩
def i_CommonOf_W0 : LoopB i_CommonOf_S0 := fun R c p nx ex => i_CommonOf_B0 c.1 c.2.1 c.2.2 p.1 p.2 (fun v0 v1 => nx (v0, v1)) (fun v0 => ex v0)
def i_CommonOf_L0 (a0_1 : List Int) (a0_7 : List Int) (a0_9 : Int) (n : Nat) (a0_11 : Int) (a0_12 : List Int) : Option ((List Int)) := @loopF ((List Int) × (List Int) × Int) (Int × (List Int)) ((List Int)) (i_CommonOf_W0 _) (a0_1, a0_7, a0_9) n (a0_11, a0_12)
def i_CommonOf_E0 : Env Tryz.prog (0, 24) (bodyOf Tryz.f66) := ⟨[g_Contains_int_e], [], [], []⟩
theorem i_CommonOf_b0 : BodyOk T i_CommonOf_E0 [0, 1, 0, 1, 1] i_CommonOf_S0 i_CommonOf_W0 := fun R c p nx ex => by kernel_rfl
def i_CommonOf (a : List Int) (b : List Int) : Option (List Int) :=
  bnd (i_CommonOf_L0 b a ((a.length : Nat) : Int) big 0 ([] : List Int)) fun y2 => some y2
theorem i_CommonOf_c : FnC Tryz.prog 66 [.v (.sl (.int .i64)), .v (.sl (.int .i64))] [.sl (.int .i64)] (fun x => i_CommonOf x.1 x.2) :=
  FnC.of (body := bodyOf Tryz.f66) (N := (0, 24)) tabOk tabB mixed Tryz.func66 (by kernel_rfl) (by kernel_rfl) (fun _ => by kernel_rfl) ⟨[g_Contains_int_e], [], [⟨[0, 1, 0, 1, 1], LoopE.of tabOk tabB mixed i_CommonOf_E0 [0, 1, 0, 1, 1] (by kernel_rfl) _ _ i_CommonOf_b0⟩], []⟩ (fun _ => by kernel_rfl) (fun x => by kernel_rfl)
def i_CommonOf_e : Entry Tryz.prog := .of i_CommonOf_c

/- impl.BestCommon -/
def i_BestCommon_B0 {R : Type} (a0_1 : Int) (a0_7 : Int) (a0_10 : List Int) (a0_3 : Int) (a0_9 : Int) (nx : Int → Int → Option R) (x0 : Int → Option R) : Option R :=
  fork (decide (a0_9 < a0_7)) (need (0 ≤ a0_9 ∧ a0_9 < ((a0_10.length : Nat) : Int)) (
  nx (if (a0_10.getD a0_9.toNat (dflt (.int .i64))) > a0_3 then (a0_10.getD a0_9.toNat (dflt (.int .i64))) else a0_3) (w64 (a0_9 + 1)))) (x0 a0_3)
def i_BestCommon_S0 : LoopS := ⟨⟨[(4, false, [.val]), (5, false, [.val]), (18, false, [.tr 1000000]), (19, false, [.val]), (20, false, [.val])], [(1000000, .tree)]⟩, [some 0, none, some 1, none, some 2], [.v (.int .i64), .v (.int .i64), .v (.sl (.int .i64))], [.v (.int .i64), .v (.int .i64)],
  [⟨.exit 0, ⟨[(4, false, [.val]), (5, false, [.val])], []⟩, [some 0, none], [.v (.int .i64)]⟩]⟩
def i_BestCommon_W0 : LoopB i_BestCommon_S0 := fun R c p nx ex => i_BestCommon_B0 c.1 c.2.1 c.2.2 p.1 p.2 (fun v0 v1 => nx (v0, v1)) (fun v0 => ex v0)
def i_BestCommon_L0 (a0_1 : Int) (a0_7 : Int) (a0_10 : List Int) (n : Nat) (a0_3 : Int) (a0_9 : Int) : Option Int := @loopF (Int × Int × (List Int)) (Int × Int) Int (i_BestCommon_W0 _) (a0_1, a0_7, a0_10) n (a0_3, a0_9)
def i_BestCommon_E0 : Env Tryz.prog (0, 29) (bodyOf Tryz.f17) := ⟨[i_AreVersions_e, i_CommonOf_e], [], [], []⟩
theorem i_BestCommon_b0 : BodyOk T i_BestCommon_E0 [0, 1, 0, 1, 1, 1] i_BestCommon_S0 i_BestCommon_W0 := fun R c p nx ex => by kernel_rfl
def i_BestCommon (a : List Int) (b : List Int) : Option Int :=
  bnd (i_AreVersions a) fun y1 => fork (!y1) (some 0) (bnd (i_AreVersions b) fun y2 => fork (!y2) (some 0) (bnd (i_CommonOf a b) fun y3 =>
  bnd (i_BestCommon_L0 0 ((y3.length : Nat) : Int) y3 big 0 0) fun y4 => some y4))
theorem i_BestCommon_c : FnC Tryz.prog 17 [.v (.sl (.int .i64)), .v (.sl (.int .i64))] [.int .i64] (fun x => i_BestCommon x.1 x.2) :=
  FnC.of (body := bodyOf Tryz.f17) (N := (0, 29)) tabOk tabB mixed Tryz.func17 (by kernel_rfl) (by kernel_rfl) (fun _ => by kernel_rfl) ⟨[i_AreVersions_e, i_CommonOf_e], [], [⟨[0, 1, 0, 1, 1, 1], LoopE.of tabOk tabB mixed i_BestCommon_E0 [0, 1, 0, 1, 1, 1] (by kernel_rfl) _ _ i_BestCommon_b0⟩], []⟩ (fun _ => by kernel_rfl) (fun x => by kernel_rfl)
def i_BestCommon_e : Entry Tryz.prog := .of i_BestCommon_c

/- impl.without -/
def i_without_B0 {R : Type} (a0_1 : List Int) (a0_7 : List Int) (a0_9 : Int) (a0_11 : Int) (a0_12 : List Int) (nx : Int → List Int → Option R) (x0 : List Int → Option R) : Option R :=
  fork (decide (a0_11 < a0_9)) (need (0 ≤ a0_11 ∧ a0_11 < ((a0_7.length : Nat) : Int)) (bnd (g_Contains_int a0_1 (a0_7.getD a0_11.toNat (dflt (.int .i64)))) fun y1 =>
  fork (!y1) (need ((((a0_12.length + ([(a0_7.getD a0_11.toNat (dflt (.int .i64)))] : List Int).length : Nat)) : Int) * ((8 : Nat) : Int) ≤ 140737488355328) (
  nx (w64 (a0_11 + 1)) (a0_12 ++ ([(a0_7.getD a0_11.toNat (dflt (.int .i64)))] : List Int)))) (nx (w64 (a0_11 + 1)) a0_12))) (x0 a0_12)
def i_without_S0 : LoopS := ⟨⟨[(1, false, [.ro]), (4, false, [.nil (.int .i64)]), (5, false, [.tr 1000000]), (9, false, [.ro]), (10, false, [.val]), (11, false, [.val])], [(1000000, .tree)]⟩, [some 0, some 1, some 2, none, none], [.v (.sl (.int .i64)), .v (.sl (.int .i64)), .v (.int .i64)], [.v (.int .i64), .v (.sl (.int .i64))],
  [⟨.exit 0, ⟨[(4, false, [.nil (.int .i64)]), (5, false, [.tr 2000000])], [(2000000, .tree)]⟩, [none], [.v (.sl (.int .i64))]⟩]⟩
def i_without_W0 : LoopB i_without_S0 := fun R c p nx ex => i_without_B0 c.1 c.2.1 c.2.2 p.1 p.2 (fun v0 v1 => nx (v0, v1)) (fun v0 => ex v0)
def i_without_L0 (a0_1 : List Int) (a0_7 : List Int) (a0_9 : Int) (n : Nat) (a0_11 : Int) (a0_12 : List Int) : Option ((List Int)) := @loopF ((List Int) × (List Int) × Int) (Int × (List Int)) ((List Int)) (i_without_W0 _) (a0_1, a0_7, a0_9) n (a0_11, a0_12)
def i_without_E0 : Env Tryz.prog (0, 25) (bodyOf Tryz.f45) := ⟨[g_Contains_int_e], [], [], []⟩
theorem i_without_b0 : BodyOk T i_without_E0 [0, 1, 0, 1, 1] i_without_S0 i_without_W0 := fun R c p nx ex => by kernel_rfl
def i_without (a : List Int) (b : List Int) : Option (List Int) :=
  bnd (i_without_L0 b a ((a.length : Nat) : Int) big 0 ([] : List Int)) fun y2 => some y2
theorem i_without_c : FnC Tryz.prog 45 [.v (.sl (.int .i64)), .v (.sl (.int .i64))] [.sl (.int .i64)] (fun x => i_without x.1 x.2) :=
  FnC.of (body := bodyOf Tryz.f45) (N := (0, 25)) tabOk tabB mixed Tryz.func45 (by kernel_rfl) (by kernel_rfl) (fun _ => by kernel_rfl) ⟨[g_Contains_int_e], [], [⟨[0, 1, 0, 1, 1], LoopE.of tabOk tabB mixed i_without_E0 [0, 1, 0, 1, 1] (by kernel_rfl) _ _ i_without_b0⟩], []⟩ (fun _ => by kernel_rfl) (fun x => by kernel_rfl)
def i_without_e : Entry Tryz.prog := .of i_without_c

/- impl.LeaveRollout -/
def i_LeaveRollout_B0 {R : Type} (a0_7 : Int) (a0_11 : Int) (a0_15 : List Int) (a0_16 : List Int) (a0_17 : Int) (a0_18 : List EndpointV) (a0_19 : Int) (a0_20 : List Int) (a0_21 : Int) (a0_22 : Bool) (a0_23 : Int) (a0_24 : Int) (a0_25 : List DialedV) (a0_26 : List LoggedV) (a0_27 : Int) (a0_28 : Int) (a0_29 : Int) (a0_33 : Int) (a0_35 : Int) (a0_37 : Int) (a0_38 : Bool) (a0_39 : Int) (a0_40 : Int) (a0_43 : Int) (a0_44 : Int) (a0_45 : Int) (a0_49 : Int) (a0_51 : Int) (a0_53 : Int) (a0_54 : Bool) (a0_55 : Int) (a0_56 : Int) (a0_59 : Int) (a0_60 : Int) (a0_61 : Int) (a0_63 : List Int) (a0_64 : List Int) (a0_65 : List Int) (a0_66 : List DialedV) (a0_67 : List LoggedV) (a0_13 : Int) (a0_62 : List EndpointV) (nx : Int → List EndpointV → Option R) (x0 : List EndpointV → Option R) : Option R :=
  fork (decide (a0_13 < a0_11)) (need (0 ≤ a0_13 ∧ a0_13 < ((a0_62.length : Nat) : Int)) (
  bnd (i_without ((a0_62.getD a0_13.toNat (dflt (.st .endpoint))).Versions) ([a0_7] : List Int)) fun y2 =>
  fork (decide (((y2.length : Nat) : Int) < ((((a0_62.getD a0_13.toNat (dflt (.st .endpoint))).Versions).length : Nat) : Int))) (bnd (i_BestCommon a0_15 y2) fun y3 =>
  fork (decide (y3 > 0)) (need (0 ≤ a0_13 ∧ a0_13 < ((a0_62.length : Nat) : Int)) (
  nx (w64 (a0_13 + 1)) (a0_62.set a0_13.toNat (⟨y2, (a0_62.getD a0_13.toNat (dflt (.st .endpoint))).Tags, (a0_62.getD a0_13.toNat (dflt (.st .endpoint))).Path, (a0_62.getD a0_13.toNat (dflt (.st .endpoint))).Class⟩ : EndpointV))
 )) (nx (w64 (a0_13 + 1)) a0_62)) (nx (w64 (a0_13 + 1)) a0_62))) (x0 a0_62)
def i_LeaveRollout_S0 : LoopS := ⟨⟨[(1, false, [.bp 1000000 0]), (2, false, [.bp 1000001 0]), (3, false, [.bp 1000002 0]), (4, false, [.val]), (14, false, [.tr 1000003]), (15, false, [.val]), (16, false, [.val])], [(1000000, .box [.ro, .ro, .val, .ro, .val, .ro, .val, .val, .val, .val, .ro, .ro, .val, .val, .val]), (1000001, .box [.nil (.int .i64), .nil (.int .i64), .val, .nil (.st .endpoint), .val, .nil (.int .i64), .val, .val, .val, .val, .nil (.st .dialed), .nil (.st .logged), .val, .val, .val]), (1000002, .box [.tr 1000004, .tr 1000005, .val, .tr 1000003, .val, .tr 1000006, .val, .val, .val, .val, .tr 1000007, .tr 1000008, .val, .val, .val]), (1000003, .tree), (1000004, .tree), (1000005, .tree), (1000006, .tree), (1000007, .tree), (1000008, .tree)]⟩, [some 0, some 1, none, some 2, some 3, some 4, some 5, some 6, some 7, some 8, some 9, some 10, some 11, some 12, some 13, some 14, some 15, some 16, some 17, some 18, some 19, some 20, some 21, some 22, some 23, some 24, some 25, some 26, some 27, some 28, some 29, some 30, some 31, some 32, some 33, some 34, none, some 35, some 36, some 37, some 38, some 39], [.v (.int .i64), .v (.int .i64), .v (.sl (.int .i64)), .v (.sl (.int .i64)), .v (.int .i64), .v (.sl (.st .endpoint)), .v (.int .i64), .v (.sl (.int .i64)), .v (.int .i64), .v (.bool), .v (.int .i64), .v (.int .i64), .v (.sl (.st .dialed)), .v (.sl (.st .logged)), .v (.int .i64), .v (.int .i64), .v (.int .i64), .v (.int .i64), .v (.int .i64), .v (.int .i64), .v (.bool), .v (.int .i64), .v (.int .i64), .v (.int .i64), .v (.int .i64), .v (.int .i64), .v (.int .i64), .v (.int .i64), .v (.int .i64), .v (.bool), .v (.int .i64), .v (.int .i64), .v (.int .i64), .v (.int .i64), .v (.int .i64), .v (.sl (.int .i64)), .v (.sl (.int .i64)), .v (.sl (.int .i64)), .v (.sl (.st .dialed)), .v (.sl (.st .logged))], [.v (.int .i64), .v (.sl (.st .endpoint))],
  [⟨.exit 0, ⟨[(2, false, [.bp 2000000 0]), (3, false, [.bp 2000001 0])], [(2000000, .box [.nil (.int .i64), .nil (.int .i64), .val, .nil (.st .endpoint), .val, .nil (.int .i64), .val, .val, .val, .val, .nil (.st .dialed), .nil (.st .logged), .val, .val, .val]), (2000001, .box [.tr 2000002, .tr 2000003, .val, .tr 2000004, .val, .tr 2000005, .val, .val, .val, .val, .tr 2000006, .tr 2000007, .val, .val, .val]), (2000002, .tree), (2000003, .tree), (2000004, .tree), (2000005, .tree), (2000006, .tree), (2000007, .tree)]⟩, [some 17, some 18, some 19, some 20, some 21, some 22, some 23, some 24, some 25, some 26, some 27, some 28, some 29, some 30, some 31, some 32, some 33, some 34, some 35, some 36, none, some 37, some 38, some 39], [.v (.sl (.st .endpoint))]⟩]⟩
def i_LeaveRollout_W0 : LoopB i_LeaveRollout_S0 := fun R c p nx ex => i_LeaveRollout_B0 c.1 c.2.1 c.2.2.1 c.2.2.2.1 c.2.2.2.2.1 c.2.2.2.2.2.1 c.2.2.2.2.2.2.1 c.2.2.2.2.2.2.2.1 c.2.2.2.2.2.2.2.2.1 c.2.2.2.2.2.2.2.2.2.1 c.2.2.2.2.2.2.2.2.2.2.1 c.2.2.2.2.2.2.2.2.2.2.2.1 c.2.2.2.2.2.2.2.2.2.2.2.2.1 c.2.2.2.2.2.2.2.2.2.2.2.2.2.1 c.2.2.2.2.2.2.2.2.2.2.2.2.2.2.1 c.2.2.2.2.2.2.2.2.2.2.2.2.2.2.2.1 c.2.2.2.2.2.2.2.2.2.2.2.2.2.2.2.2.1 c.2.2.2.2.2.2.2.2.2.2.2.2.2.2.2.2.2.1 c.2.2.2.2.2.2.2.2.2.2.2.2.2.2.2.2.2.2.1 c.2.2.2.2.2.2.2.2.2.2.2.2.2.2.2.2.2.2.2.1 c.2.2.2.2.2.2.2.2.2.2.2.2.2.2.2.2.2.2.2.2.1 c.2.2.2.2.2.2.2.2.2.2.2.2.2.2.2.2.2.2.2.2.2.1 c.2.2.2.2.2.2.2.2.2.2.2.2.2.2.2.2.2.2.2.2.2.2.1 c.2.2.2.2.2.2.2.2.2.2.2.2.2.2.2.2.2.2.2.2.2.2.2.1 c.2.2.2.2.2.2.2.2.2.2.2.2.2.2.2.2.2.2.2.2.2.2.2.2.1 c.2.2.2.2.2.2.2.2.2.2.2.2.2.2.2.2.2.2.2.2.2.2.2.2.2.1 c.2.2.2.2.2.2.2.2.2.2.2.2.2.2.2.2.2.2.2.2.2.2.2.2.2.2.1 c.2.2.2.2.2.2.2.2.2.2.2.2.2.2.2.2.2.2.2.2.2.2.2.2.2.2.2.1 c.2.2.2.2.2.2.2.2.2.2.2.2.2.2.2.2.2.2.2.2.2.2.2.2.2.2.2.2.1 c.2.2.2.2.2.2.2.2.2.2.2.2.2.2.2.2.2.2.2.2.2.2.2.2.2.2.2.2.2.1 c.2.2.2.2.2.2.2.2.2.2.2.2.2.2.2.2.2.2.2.2.2.2.2.2.2.2.2.2.2.2.1 c.2.2.2.2.2.2.2.2.2.2.2.2.2.2.2.2.2.2.2.2.2.2.2.2.2.2.2.2.2.2.2.1 c.2.2.2.2.2.2.2.2.2.2.2.2.2.2.2.2.2.2.2.2.2.2.2.2.2.2.2.2.2.2.2.2.1 c.2.2.2.2.2.2.2.2.2.2.2.2.2.2.2.2.2.2.2.2.2.2.2.2.2.2.2.2.2.2.2.2.2.1 c.2.2.2.2.2.2.2.2.2.2.2.2.2.2.2.2.2.2.2.2.2.2.2.2.2.2.2.2.2.2.2.2.2.2.1 c.2.2.2.2.2.2.2.2.2.2.2.2.2.2.2.2.2.2.2.2.2.2.2.2.2.2.2.2.2.2.2.2.2.2.2.1 c.2.2.2.2.2.2.2.2.2.2.2.2.2.2.2.2.2.2.2.2.2.2.2.2.2.2.2.2.2.2.2.2.2.2.2.2.1 c.2.2.2.2.2.2.2.2.2.2.2.2.2.2.2.2.2.2.2.2.2.2.2.2.2.2.2.2.2.2.2.2.2.2.2.2.2.1 c.2.2.2.2.2.2.2.2.2.2.2.2.2.2.2.2.2.2.2.2.2.2.2.2.2.2.2.2.2.2.2.2.2.2.2.2.2.2.1 c.2.2.2.2.2.2.2.2.2.2.2.2.2.2.2.2.2.2.2.2.2.2.2.2.2.2.2.2.2.2.2.2.2.2.2.2.2.2.2 p.1 p.2 (fun v0 v1 => nx (v0, v1)) (fun v0 => ex v0)
def i_LeaveRollout_L0 (a0_7 : Int) (a0_11 : Int) (a0_15 : List Int) (a0_16 : List Int) (a0_17 : Int) (a0_18 : List EndpointV) (a0_19 : Int) (a0_20 : List Int) (a0_21 : Int) (a0_22 : Bool) (a0_23 : Int) (a0_24 : Int) (a0_25 : List DialedV) (a0_26 : List LoggedV) (a0_27 : Int) (a0_28 : Int) (a0_29 : Int) (a0_33 : Int) (a0_35 : Int) (a0_37 : Int) (a0_38 : Bool) (a0_39 : Int) (a0_40 : Int) (a0_43 : Int) (a0_44 : Int) (a0_45 : Int) (a0_49 : Int) (a0_51 : Int) (a0_53 : Int) (a0_54 : Bool) (a0_55 : Int) (a0_56 : Int) (a0_59 : Int) (a0_60 : Int) (a0_61 : Int) (a0_63 : List Int) (a0_64 : List Int) (a0_65 : List Int) (a0_66 : List DialedV) (a0_67 : List LoggedV) (n : Nat) (a0_13 : Int) (a0_62 : List EndpointV) : Option ((List EndpointV)) := @loopF (Int × Int × (List Int) × (List Int) × Int × (List EndpointV) × Int × (List Int) × Int × Bool × Int × Int × (List DialedV) × (List LoggedV) × Int × Int × Int × Int × Int × Int × Bool × Int × Int × Int × Int × Int × Int × Int × Int × Bool × Int × Int × Int × Int × Int × (List Int) × (List Int) × (List Int) × (List DialedV) × (List LoggedV)) (Int × (List EndpointV)) ((List EndpointV)) (i_LeaveRollout_W0 _) (a0_7, a0_11, a0_15, a0_16, a0_17, a0_18, a0_19, a0_20, a0_21, a0_22, a0_23, a0_24, a0_25, a0_26, a0_27, a0_28, a0_29, a0_33, a0_35, a0_37, a0_38, a0_39, a0_40, a0_43, a0_44, a0_45, a0_49, a0_51, a0_53, a0_54, a0_55, a0_56, a0_59, a0_60, a0_61, a0_63, a0_64, a0_65, a0_66, a0_67) n (a0_13, a0_62)
def i_LeaveRollout_E0 : Env Tryz.prog (0, 48) (bodyOf Tryz.f9) := ⟨[i_BestCommon_e, i_copyWorld_e, i_without_e], [], [], []⟩
theorem i_LeaveRollout_b0 : BodyOk T i_LeaveRollout_E0 [0, 1, 0, 1, 1] i_LeaveRollout_S0 i_LeaveRollout_W0 := fun R c p nx ex => by kernel_rfl
def i_LeaveRollout (w : WorldV) : Option WorldV :=
  bnd (i_copyWorld w) fun y1 =>
  bnd (i_LeaveRollout_L0 w.Rollout.Version ((y1.Ends.length : Nat) : Int) w.Server w.Tags w.Key w.Ends w.Rollout.Version w.Rollout.Stages w.Rollout.At w.Rollout.Off w.Least w.Percent w.Stage w.Log w.Now w.Hurt w.Reached 0 0 0 false 0 0 0 0 0 y1.Key y1.Rollout.Version y1.Rollout.At y1.Rollout.Off y1.Least y1.Percent y1.Now y1.Hurt y1.Reached y1.Server y1.Tags y1.Rollout.Stages y1.Stage y1.Log big 0 y1.Ends) fun y4 =>
  some (⟨y1.Server, y1.Tags, y1.Key, y4, y1.Rollout, y1.Least, y1.Percent, [], y1.Log, y1.Now, y1.Hurt, y1.Reached⟩ : WorldV)
theorem i_LeaveRollout_c : FnC Tryz.prog 9 [.v (.st .world)] [.st .world] (fun x => i_LeaveRollout x) :=
  FnC.of (body := bodyOf Tryz.f9) (N := (0, 48)) tabOk tabB mixed Tryz.func9 (by kernel_rfl) (by kernel_rfl) (fun _ => by kernel_rfl) ⟨[i_BestCommon_e, i_copyWorld_e, i_without_e], [], [⟨[0, 1, 0, 1, 1], LoopE.of tabOk tabB mixed i_LeaveRollout_E0 [0, 1, 0, 1, 1] (by kernel_rfl) _ _ i_LeaveRollout_b0⟩], []⟩ (fun _ => by kernel_rfl) (fun x => by kernel_rfl)
def i_LeaveRollout_e : Entry Tryz.prog := .of i_LeaveRollout_c

/- slices.IndexFunc[[][]int,[]int] -/
def g_IndexFunc_int_B0 {R : Type} (a0_1 : List (List Int)) (a0_3 : FnP) (a0_5 : Int) (a0_7 : Int) (a0_9 : Int) (nx : Int → Option R) (x0 : Int → Option R) (x1 : Option R) : Option R :=
  fork (decide (a0_9 < a0_7)) (need (0 ≤ a0_9 ∧ a0_9 < ((a0_1.length : Nat) : Int)) (
  bnd (a0_3 [(false, [.sl (.int .i64) (a0_1.getD a0_9.toNat (dflt (.sl (.int .i64))))])]) fun y1 => fork y1 (x0 a0_9) (nx (w64 (a0_9 + 1))))) (x1)
def g_IndexFunc_int_S0 : LoopS := ⟨⟨[(0, false, [.ro]), (1, false, [.fn]), (4, false, [.val]), (7, false, [.val]), (8, false, [.val])], []⟩, [some 0, some 1, some 2, some 3, none], [.v (.sl (.sl (.int .i64))), .fn, .v (.int .i64), .v (.int .i64)], [.v (.int .i64)],
  [⟨.ret, ⟨[(4, false, [.val])], []⟩, [none], [.v (.int .i64)]⟩, ⟨.exit 0, ⟨[(4, false, [.val])], []⟩, [some 2], []⟩]⟩
def g_IndexFunc_int_W0 : LoopB g_IndexFunc_int_S0 := fun R c p nx ex => g_IndexFunc_int_B0 c.1 c.2.1 c.2.2.1 c.2.2.2 p (fun v0 => nx v0) (fun v0 => ex (.inl v0)) (ex (.inr ()))
def g_IndexFunc_int_L0 (a0_1 : List (List Int)) (a0_3 : FnP) (a0_5 : Int) (a0_7 : Int) (n : Nat) (a0_9 : Int) : Option (Int ⊕ Unit) := @loopF ((List (List Int)) × FnP × Int × Int) Int (Int ⊕ Unit) (g_IndexFunc_int_W0 _) (a0_1, a0_3, a0_5, a0_7) n a0_9
def g_IndexFunc_int_E0 : Env Tryz.prog (0, 19) (bodyOf Tryz.f127) := ⟨[], [], [], []⟩
theorem g_IndexFunc_int_b0 : BodyOk T g_IndexFunc_int_E0 [0, 1, 0, 1] g_IndexFunc_int_S0 g_IndexFunc_int_W0 := fun R c p nx ex => by kernel_rfl
def g_IndexFunc_int (s : List (List Int)) (f : FnP) : Option Int :=
  bnd (g_IndexFunc_int_L0 s f 0 ((s.length : Nat) : Int) big 0) (sum2 (fun y2 => some y2) (fun _ => some (-1)))
theorem g_IndexFunc_int_c : FnC Tryz.prog 127 [.v (.sl (.sl (.int .i64))), .fn] [.int .i64] (fun x => g_IndexFunc_int x.1 x.2) :=
  FnC.of (body := bodyOf Tryz.f127) (N := (0, 19)) tabOk tabB mixed Tryz.func127 (by kernel_rfl) (by kernel_rfl) (fun _ => by kernel_rfl) ⟨[], [], [⟨[0, 1, 0, 1], LoopE.of tabOk tabB mixed g_IndexFunc_int_E0 [0, 1, 0, 1] (by kernel_rfl) _ _ g_IndexFunc_int_b0⟩], []⟩ (fun _ => by kernel_rfl) (fun x => by kernel_rfl)
def g_IndexFunc_int_e : Entry Tryz.prog := .of g_IndexFunc_int_c

/- slices.ContainsFunc[[][]int,[]int] -/
def g_ContainsFunc_int (s : List (List Int)) (f : FnP) : Option Bool :=
  bnd (g_IndexFunc_int s f) fun y1 => some (decide (y1 ≥ 0))
theorem g_ContainsFunc_int_c : FnC Tryz.prog 93 [.v (.sl (.sl (.int .i64))), .fn] [.bool] (fun x => g_ContainsFunc_int x.1 x.2) :=
  FnC.of (body := bodyOf Tryz.f93) (N := (0, 9)) tabOk tabB mixed Tryz.func93 (by kernel_rfl) (by kernel_rfl) (fun _ => by kernel_rfl) ⟨[g_IndexFunc_int_e], [], [], []⟩ (fun _ => by kernel_rfl) (fun x => by kernel_rfl)
def g_ContainsFunc_int_e : Entry Tryz.prog := .of g_ContainsFunc_int_c

/- impl.AllReach$1 -/
def i_AllReach_1 (l : List Int) (p1 : List Int) : Option Bool :=
  bnd (i_BestCommon p1 l) fun y1 => some (y1 == 0)
theorem i_AllReach_1_c : FnC Tryz.prog 94 [.v (.sl (.int .i64)), .rptr (.sl (.int .i64))] [.bool] (fun x => i_AllReach_1 x.1 x.2) :=
  FnC.of (body := bodyOf Tryz.f94) (N := (0, 8)) tabOk tabB mixed Tryz.func94 (by kernel_rfl) (by kernel_rfl) (fun _ => by kernel_rfl) ⟨[i_BestCommon_e], [], [], []⟩ (fun _ => by kernel_rfl) (fun x => by kernel_rfl)
def i_AllReach_1_k : CloE Tryz.prog := .one (k := 94) (t := .sl (.int .i64)) (cts := [.sl (.int .i64)]) ⟨_, Tryz.func94, by kernel_rfl, by kernel_rfl⟩ (fun x c => i_AllReach_1 x c) (fun x c r h => i_AllReach_1_c (x, c) r h)

/- impl.AllReach -/
def i_AllReach (server : List Int) (lists : List (List Int)) : Option Bool :=
  bnd (i_AreVersions server) fun y1 => fork y1 (bnd (g_ContainsFunc_int lists (fnp1 (.sl (.int .i64)) fun x => i_AllReach_1 x server)) fun y2 => some (!y2)) (some false)
theorem i_AllReach_c : FnC Tryz.prog 46 [.v (.sl (.int .i64)), .v (.sl (.sl (.int .i64)))] [.bool] (fun x => i_AllReach x.1 x.2) :=
  FnC.of (body := bodyOf Tryz.f46) (N := (0, 13)) tabOk tabB mixed Tryz.func46 (by kernel_rfl) (by kernel_rfl) (fun _ => by kernel_rfl) ⟨[i_AreVersions_e, g_ContainsFunc_int_e], [i_AllReach_1_k], [], []⟩ (fun _ => by kernel_rfl) (fun x => by kernel_rfl)
def i_AllReach_e : Entry Tryz.prog := .of i_AllReach_c
def i_AllReach_k : CloE Tryz.prog := .two (k := 46) (t := .sl (.int .i64)) (u := .sl (.sl (.int .i64))) (cts := []) ⟨_, Tryz.func46, by kernel_rfl, by kernel_rfl⟩ (fun x y c => i_AllReach x y) (fun x y c r h => i_AllReach_c (x, y) r h)

/- impl.ListsOf -/
def i_ListsOf_B0 {R : Type} (a0_5 : List EndpointV) (a0_7 : Int) (a0_9 : Int) (a0_10 : List (List Int)) (nx : Int → List (List Int) → Option R) (x0 : List (List Int) → Option R) : Option R :=
  fork (decide (a0_9 < a0_7)) (need (0 ≤ a0_9 ∧ a0_9 < ((a0_5.length : Nat) : Int)) (
  need ((((([] : List Int).length + ((a0_5.getD a0_9.toNat (dflt (.st .endpoint))).Versions).length : Nat)) : Int) * ((8 : Nat) : Int) ≤ 140737488355328) (
  need ((((a0_10.length + ([(([] : List Int) ++ ((a0_5.getD a0_9.toNat (dflt (.st .endpoint))).Versions))] : List (List Int)).length : Nat)) : Int) * ((24 : Nat) : Int) ≤ 140737488355328) (
  nx (w64 (a0_9 + 1)) (a0_10 ++ ([(([] : List Int) ++ ((a0_5.getD a0_9.toNat (dflt (.st .endpoint))).Versions))] : List (List Int))))))) (x0 a0_10)
def i_ListsOf_S0 : LoopS := ⟨⟨[(2, false, [.nil (.sl (.int .i64))]), (3, false, [.tr 1000000]), (8, false, [.ro]), (9, false, [.val]), (10, false, [.val])], [(1000000, .tree)]⟩, [some 0, some 1, none, none], [.v (.sl (.st .endpoint)), .v (.int .i64)], [.v (.int .i64), .v (.sl (.sl (.int .i64)))],
  [⟨.exit 0, ⟨[(2, false, [.nil (.sl (.int .i64))]), (3, false, [.tr 2000000])], [(2000000, .tree)]⟩, [none], [.v (.sl (.sl (.int .i64)))]⟩]⟩
def i_ListsOf_W0 : LoopB i_ListsOf_S0 := fun R c p nx ex => i_ListsOf_B0 c.1 c.2 p.1 p.2 (fun v0 v1 => nx (v0, v1)) (fun v0 => ex v0)
def i_ListsOf_L0 (a0_5 : List EndpointV) (a0_7 : Int) (n : Nat) (a0_9 : Int) (a0_10 : List (List Int)) : Option ((List (List Int))) := @loopF ((List EndpointV) × Int) (Int × (List (List Int))) ((List (List Int))) (i_ListsOf_W0 _) (a0_5, a0_7) n (a0_9, a0_10)
def i_ListsOf_E0 : Env Tryz.prog (0, 23) (bodyOf Tryz.f47) := ⟨[], [], [], []⟩
theorem i_ListsOf_b0 : BodyOk T i_ListsOf_E0 [0, 1, 0, 1, 1] i_ListsOf_S0 i_ListsOf_W0 := fun R c p nx ex => by kernel_rfl
def i_ListsOf (w : WorldV) : Option (List (List Int)) :=
  bnd (i_ListsOf_L0 w.Ends ((w.Ends.length : Nat) : Int) big 0 ([] : List (List Int))) fun y1 => some y1
theorem i_ListsOf_c : FnC Tryz.prog 47 [.v (.st .world)] [.sl (.sl (.int .i64))] (fun x => i_ListsOf x) :=
  FnC.of (body := bodyOf Tryz.f47) (N := (0, 23)) tabOk tabB mixed Tryz.func47 (by kernel_rfl) (by kernel_rfl) (fun _ => by kernel_rfl) ⟨[], [], [⟨[0, 1, 0, 1, 1], LoopE.of tabOk tabB mixed i_ListsOf_E0 [0, 1, 0, 1, 1] (by kernel_rfl) _ _ i_ListsOf_b0⟩], []⟩ (fun _ => by kernel_rfl) (fun x => by kernel_rfl)
def i_ListsOf_e : Entry Tryz.prog := .of i_ListsOf_c

/- slices.IndexFunc[[]int,int] -/
def g_IndexFunc_int_156_B0 {R : Type} (a0_1 : List Int) (a0_3 : FnP) (a0_5 : Int) (a0_7 : Int) (a0_9 : Int) (nx : Int → Option R) (x0 : Int → Option R) (x1 : Option R) : Option R :=
  fork (decide (a0_9 < a0_7)) (need (0 ≤ a0_9 ∧ a0_9 < ((a0_1.length : Nat) : Int)) (
  bnd (a0_3 [(false, [.val (.int .i64 (a0_1.getD a0_9.toNat (dflt (.int .i64))))])]) fun y1 => fork y1 (x0 a0_9) (nx (w64 (a0_9 + 1))))) (x1)
def g_IndexFunc_int_156_S0 : LoopS := ⟨⟨[(0, false, [.ro]), (1, false, [.fn]), (4, false, [.val]), (7, false, [.val]), (8, false, [.val])], []⟩, [some 0, some 1, some 2, some 3, none], [.v (.sl (.int .i64)), .fn, .v (.int .i64), .v (.int .i64)], [.v (.int .i64)],
  [⟨.ret, ⟨[(4, false, [.val])], []⟩, [none], [.v (.int .i64)]⟩, ⟨.exit 0, ⟨[(4, false, [.val])], []⟩, [some 2], []⟩]⟩
def g_IndexFunc_int_156_W0 : LoopB g_IndexFunc_int_156_S0 := fun R c p nx ex => g_IndexFunc_int_156_B0 c.1 c.2.1 c.2.2.1 c.2.2.2 p (fun v0 => nx v0) (fun v0 => ex (.inl v0)) (ex (.inr ()))
def g_IndexFunc_int_156_L0 (a0_1 : List Int) (a0_3 : FnP) (a0_5 : Int) (a0_7 : Int) (n : Nat) (a0_9 : Int) : Option (Int ⊕ Unit) := @loopF ((List Int) × FnP × Int × Int) Int (Int ⊕ Unit) (g_IndexFunc_int_156_W0 _) (a0_1, a0_3, a0_5, a0_7) n a0_9
def g_IndexFunc_int_156_E0 : Env Tryz.prog (0, 19) (bodyOf Tryz.f156) := ⟨[], [], [], []⟩
theorem g_IndexFunc_int_156_b0 : BodyOk T g_IndexFunc_int_156_E0 [0, 1, 0, 1] g_IndexFunc_int_156_S0 g_IndexFunc_int_156_W0 := fun R c p nx ex => by kernel_rfl
def g_IndexFunc_int_156 (s : List Int) (f : FnP) : Option Int :=
  bnd (g_IndexFunc_int_156_L0 s f 0 ((s.length : Nat) : Int) big 0) (sum2 (fun y2 => some y2) (fun _ => some (-1)))
theorem g_IndexFunc_int_156_c : FnC Tryz.prog 156 [.v (.sl (.int .i64)), .fn] [.int .i64] (fun x => g_IndexFunc_int_156 x.1 x.2) :=
  FnC.of (body := bodyOf Tryz.f156) (N := (0, 19)) tabOk tabB mixed Tryz.func156 (by kernel_rfl) (by kernel_rfl) (fun _ => by kernel_rfl) ⟨[], [], [⟨[0, 1, 0, 1], LoopE.of tabOk tabB mixed g_IndexFunc_int_156_E0 [0, 1, 0, 1] (by kernel_rfl) _ _ g_IndexFunc_int_156_b0⟩], []⟩ (fun _ => by kernel_rfl) (fun x => by kernel_rfl)
def g_IndexFunc_int_156_e : Entry Tryz.prog := .of g_IndexFunc_int_156_c

/- slices.ContainsFunc[[]int,int] -/
def g_ContainsFunc_int_128 (s : List Int) (f : FnP) : Option Bool :=
  bnd (g_IndexFunc_int_156 s f) fun y1 => some (decide (y1 ≥ 0))
theorem g_ContainsFunc_int_128_c : FnC Tryz.prog 128 [.v (.sl (.int .i64)), .fn] [.bool] (fun x => g_ContainsFunc_int_128 x.1 x.2) :=
  FnC.of (body := bodyOf Tryz.f128) (N := (0, 9)) tabOk tabB mixed Tryz.func128 (by kernel_rfl) (by kernel_rfl) (fun _ => by kernel_rfl) ⟨[g_IndexFunc_int_156_e], [], [], []⟩ (fun _ => by kernel_rfl) (fun x => by kernel_rfl)
def g_ContainsFunc_int_128_e : Entry Tryz.prog := .of g_ContainsFunc_int_128_c

/- impl.areNumbers$1 -/
def i_areNumbers_1 (n : Int) (p1 : Int) (p2 : Int) : Option Bool :=
  bnd (i_InRange n p1 p2) fun y1 => some (!y1)
theorem i_areNumbers_1_c : FnC Tryz.prog 129 [.v (.int .i64), .rptr (.int .i64), .rptr (.int .i64)] [.bool] (fun x => i_areNumbers_1 x.1 x.2.1 x.2.2) :=
  FnC.of (body := bodyOf Tryz.f129) (N := (0, 10)) tabOk tabB mixed Tryz.func129 (by kernel_rfl) (by kernel_rfl) (fun _ => by kernel_rfl) ⟨[i_InRange_e], [], [], []⟩ (fun _ => by kernel_rfl) (fun x => by kernel_rfl)
def i_areNumbers_1_k : CloE Tryz.prog := .one (k := 129) (t := .int .i64) (cts := [.int .i64, .int .i64]) ⟨_, Tryz.func129, by kernel_rfl, by kernel_rfl⟩ (fun x c => i_areNumbers_1 x c.1 c.2) (fun x c r h => i_areNumbers_1_c (x, c) r h)

/- impl.areNumbers -/
def i_areNumbers (l : List Int) (low : Int) (high : Int) : Option Bool :=
  bnd (g_ContainsFunc_int_128 l (fnp1 (.int .i64) fun x => i_areNumbers_1 x low high)) fun y1 => some (!y1)
theorem i_areNumbers_c : FnC Tryz.prog 95 [.v (.sl (.int .i64)), .v (.int .i64), .v (.int .i64)] [.bool] (fun x => i_areNumbers x.1 x.2.1 x.2.2) :=
  FnC.of (body := bodyOf Tryz.f95) (N := (0, 11)) tabOk tabB mixed Tryz.func95 (by kernel_rfl) (by kernel_rfl) (fun _ => by kernel_rfl) ⟨[g_ContainsFunc_int_128_e], [i_areNumbers_1_k], [], []⟩ (fun _ => by kernel_rfl) (fun x => by kernel_rfl)
def i_areNumbers_e : Entry Tryz.prog := .of i_areNumbers_c

/- impl.areTags -/
def i_areTags_B0 {R : Type} (a0_1 : List Int) (a0_3 : Bool) (a0_5 : List Int) (a0_7 : Int) (a0_9 : Int) (nx : Int → Option R) (x0 : Bool → Option R) (x1 : Option R) : Option R :=
  fork (decide (a0_9 < a0_7)) (need (0 ≤ a0_9 ∧ a0_9 < ((a0_5.length : Nat) : Int)) (fork (decide (a0_9 > 0)) (
  need (0 ≤ (w64 (a0_9 - 1)) ∧ (w64 (a0_9 - 1)) < ((a0_1.length : Nat) : Int)) (
  fork (decide ((a0_1.getD ((w64 (a0_9 - 1)).toNat) (dflt (.int .i64))) ≥ (a0_5.getD a0_9.toNat (dflt (.int .i64))))) (x0 false) (nx (w64 (a0_9 + 1))))) (
  nx (w64 (a0_9 + 1))))) (x1)
def i_areTags_S0 : LoopS := ⟨⟨[(0, false, [.ro]), (2, false, [.val]), (5, false, [.ro]), (6, false, [.val]), (7, false, [.val])], []⟩, [some 0, some 1, some 2, some 3, none], [.v (.sl (.int .i64)), .v (.bool), .v (.sl (.int .i64)), .v (.int .i64)], [.v (.int .i64)],
  [⟨.ret, ⟨[(2, false, [.val])], []⟩, [none], [.v (.bool)]⟩, ⟨.exit 0, ⟨[(0, false, [.ro]), (2, false, [.val])], []⟩, [some 0, some 1], []⟩]⟩
def i_areTags_W0 : LoopB i_areTags_S0 := fun R c p nx ex => i_areTags_B0 c.1 c.2.1 c.2.2.1 c.2.2.2 p (fun v0 => nx v0) (fun v0 => ex (.inl v0)) (ex (.inr ()))
def i_areTags_L0 (a0_1 : List Int) (a0_3 : Bool) (a0_5 : List Int) (a0_7 : Int) (n : Nat) (a0_9 : Int) : Option (Bool ⊕ Unit) := @loopF ((List Int) × Bool × (List Int) × Int) Int (Bool ⊕ Unit) (i_areTags_W0 _) (a0_1, a0_3, a0_5, a0_7) n a0_9
def i_areTags_E0 : Env Tryz.prog (0, 26) (bodyOf Tryz.f48) := ⟨[i_areNumbers_e], [], [], []⟩
theorem i_areTags_b0 : BodyOk T i_areTags_E0 [0, 1, 0, 1] i_areTags_S0 i_areTags_W0 := fun R c p nx ex => by kernel_rfl
def i_areTags (l : List Int) : Option Bool :=
  bnd (i_areTags_L0 l false l ((l.length : Nat) : Int) big 0) (sum2 (fun y1 => some y1) (fun _ => bnd (i_areNumbers l 0 255) fun y3 => some y3))
theorem i_areTags_c : FnC Tryz.prog 48 [.v (.sl (.int .i64))] [.bool] (fun x => i_areTags x) :=
  FnC.of (body := bodyOf Tryz.f48) (N := (0, 26)) tabOk tabB mixed Tryz.func48 (by kernel_rfl) (by kernel_rfl) (fun _ => by kernel_rfl) ⟨[i_areNumbers_e], [], [⟨[0, 1, 0, 1], LoopE.of tabOk tabB mixed i_areTags_E0 [0, 1, 0, 1] (by kernel_rfl) _ _ i_areTags_b0⟩], []⟩ (fun _ => by kernel_rfl) (fun x => by kernel_rfl)
def i_areTags_e : Entry Tryz.prog := .of i_areTags_c
def i_areTags_k : CloE Tryz.prog := .one (k := 48) (t := .sl (.int .i64)) (cts := []) ⟨_, Tryz.func48, by kernel_rfl, by kernel_rfl⟩ (fun x c => i_areTags x) (fun x c r h => i_areTags_c x r h)

/- impl.IsValidKey -/
def i_IsValidKey (key : Int) : Option Bool :=
  bnd (i_InRange key 1 2147483646) fun y1 => some y1
theorem i_IsValidKey_c : FnC Tryz.prog 49 [.v (.int .i64)] [.bool] (fun x => i_IsValidKey x) :=
  FnC.of (body := bodyOf Tryz.f49) (N := (0, 5)) tabOk tabB mixed Tryz.func49 (by kernel_rfl) (by kernel_rfl) (fun _ => by kernel_rfl) ⟨[i_InRange_e], [], [], []⟩ (fun _ => by kernel_rfl) (fun x => by kernel_rfl)
def i_IsValidKey_e : Entry Tryz.prog := .of i_IsValidKey_c
def i_IsValidKey_k : CloE Tryz.prog := .one (k := 49) (t := .int .i64) (cts := []) ⟨_, Tryz.func49, by kernel_rfl, by kernel_rfl⟩ (fun x c => i_IsValidKey x) (fun x c r h => i_IsValidKey_c x r h)

/- impl.Endpoint] -/
def g_IndexFunc_Endpoint_B0 {R : Type} (a0_1 : List EndpointV) (a0_3 : FnP) (a0_5 : Int) (a0_7 : Int) (a0_9 : Int) (nx : Int → Option R) (x0 : Int → Option R) (x1 : Option R) : Option R :=
  fork (decide (a0_9 < a0_7)) (need (0 ≤ a0_9 ∧ a0_9 < ((a0_1.length : Nat) : Int)) (
  bnd (a0_3 [(true, [.sl (.int .i64) ((a0_1.getD a0_9.toNat (dflt (.st .endpoint))).Versions), .sl (.int .i64) ((a0_1.getD a0_9.toNat (dflt (.st .endpoint))).Tags), .sl (.st .box) ((a0_1.getD a0_9.toNat (dflt (.st .endpoint))).Path), .val (.int .i64 ((a0_1.getD a0_9.toNat (dflt (.st .endpoint))).Class))])]) fun y1 =>
  fork y1 (x0 a0_9) (nx (w64 (a0_9 + 1))))) (x1)
def g_IndexFunc_Endpoint_S0 : LoopS := ⟨⟨[(0, false, [.ro]), (1, false, [.fn]), (4, false, [.val]), (7, false, [.val]), (8, false, [.val])], []⟩, [some 0, some 1, some 2, some 3, none], [.v (.sl (.st .endpoint)), .fn, .v (.int .i64), .v (.int .i64)], [.v (.int .i64)],
  [⟨.ret, ⟨[(4, false, [.val])], []⟩, [none], [.v (.int .i64)]⟩, ⟨.exit 0, ⟨[(4, false, [.val])], []⟩, [some 2], []⟩]⟩
def g_IndexFunc_Endpoint_W0 : LoopB g_IndexFunc_Endpoint_S0 := fun R c p nx ex => g_IndexFunc_Endpoint_B0 c.1 c.2.1 c.2.2.1 c.2.2.2 p (fun v0 => nx v0) (fun v0 => ex (.inl v0)) (ex (.inr ()))
def g_IndexFunc_Endpoint_L0 (a0_1 : List EndpointV) (a0_3 : FnP) (a0_5 : Int) (a0_7 : Int) (n : Nat) (a0_9 : Int) : Option (Int ⊕ Unit) := @loopF ((List EndpointV) × FnP × Int × Int) Int (Int ⊕ Unit) (g_IndexFunc_Endpoint_W0 _) (a0_1, a0_3, a0_5, a0_7) n a0_9
def g_IndexFunc_Endpoint_E0 : Env Tryz.prog (0, 19) (bodyOf Tryz.f96) := ⟨[], [], [], []⟩
theorem g_IndexFunc_Endpoint_b0 : BodyOk T g_IndexFunc_Endpoint_E0 [0, 1, 0, 1] g_IndexFunc_Endpoint_S0 g_IndexFunc_Endpoint_W0 := fun R c p nx ex => by kernel_rfl
def g_IndexFunc_Endpoint (s : List EndpointV) (f : FnP) : Option Int :=
  bnd (g_IndexFunc_Endpoint_L0 s f 0 ((s.length : Nat) : Int) big 0) (sum2 (fun y2 => some y2) (fun _ => some (-1)))
theorem g_IndexFunc_Endpoint_c : FnC Tryz.prog 96 [.v (.sl (.st .endpoint)), .fn] [.int .i64] (fun x => g_IndexFunc_Endpoint x.1 x.2) :=
  FnC.of (body := bodyOf Tryz.f96) (N := (0, 19)) tabOk tabB mixed Tryz.func96 (by kernel_rfl) (by kernel_rfl) (fun _ => by kernel_rfl) ⟨[], [], [⟨[0, 1, 0, 1], LoopE.of tabOk tabB mixed g_IndexFunc_Endpoint_E0 [0, 1, 0, 1] (by kernel_rfl) _ _ g_IndexFunc_Endpoint_b0⟩], []⟩ (fun _ => by kernel_rfl) (fun x => by kernel_rfl)
def g_IndexFunc_Endpoint_e : Entry Tryz.prog := .of g_IndexFunc_Endpoint_c

/- impl.Endpoint] -/
def g_ContainsFunc_Endpoint (s : List EndpointV) (f : FnP) : Option Bool :=
  bnd (g_IndexFunc_Endpoint s f) fun y1 => some (decide (y1 ≥ 0))
theorem g_ContainsFunc_Endpoint_c : FnC Tryz.prog 50 [.v (.sl (.st .endpoint)), .fn] [.bool] (fun x => g_ContainsFunc_Endpoint x.1 x.2) :=
  FnC.of (body := bodyOf Tryz.f50) (N := (0, 9)) tabOk tabB mixed Tryz.func50 (by kernel_rfl) (by kernel_rfl) (fun _ => by kernel_rfl) ⟨[g_IndexFunc_Endpoint_e], [], [], []⟩ (fun _ => by kernel_rfl) (fun x => by kernel_rfl)
def g_ContainsFunc_Endpoint_e : Entry Tryz.prog := .of g_ContainsFunc_Endpoint_c

/- impl.Box] -/
def g_IndexFunc_Box_B0 {R : Type} (a0_1 : List BoxV) (a0_3 : FnP) (a0_5 : Int) (a0_7 : Int) (a0_9 : Int) (nx : Int → Option R) (x0 : Int → Option R) (x1 : Option R) : Option R :=
  fork (decide (a0_9 < a0_7)) (need (0 ≤ a0_9 ∧ a0_9 < ((a0_1.length : Nat) : Int)) (
  bnd (a0_3 [(true, [.val (.int .i64 ((a0_1.getD a0_9.toNat (dflt (.st .box))).Limit)), .sl (.int .i64) ((a0_1.getD a0_9.toNat (dflt (.st .box))).Drops), .sl (.int .i64) ((a0_1.getD a0_9.toNat (dflt (.st .box))).Strips), .val (.bool ((a0_1.getD a0_9.toNat (dflt (.st .box))).Lists))])]) fun y1 =>
  fork y1 (x0 a0_9) (nx (w64 (a0_9 + 1))))) (x1)
def g_IndexFunc_Box_S0 : LoopS := ⟨⟨[(0, false, [.ro]), (1, false, [.fn]), (4, false, [.val]), (7, false, [.val]), (8, false, [.val])], []⟩, [some 0, some 1, some 2, some 3, none], [.v (.sl (.st .box)), .fn, .v (.int .i64), .v (.int .i64)], [.v (.int .i64)],
  [⟨.ret, ⟨[(4, false, [.val])], []⟩, [none], [.v (.int .i64)]⟩, ⟨.exit 0, ⟨[(4, false, [.val])], []⟩, [some 2], []⟩]⟩
def g_IndexFunc_Box_W0 : LoopB g_IndexFunc_Box_S0 := fun R c p nx ex => g_IndexFunc_Box_B0 c.1 c.2.1 c.2.2.1 c.2.2.2 p (fun v0 => nx v0) (fun v0 => ex (.inl v0)) (ex (.inr ()))
def g_IndexFunc_Box_L0 (a0_1 : List BoxV) (a0_3 : FnP) (a0_5 : Int) (a0_7 : Int) (n : Nat) (a0_9 : Int) : Option (Int ⊕ Unit) := @loopF ((List BoxV) × FnP × Int × Int) Int (Int ⊕ Unit) (g_IndexFunc_Box_W0 _) (a0_1, a0_3, a0_5, a0_7) n a0_9
def g_IndexFunc_Box_E0 : Env Tryz.prog (0, 19) (bodyOf Tryz.f108) := ⟨[], [], [], []⟩
theorem g_IndexFunc_Box_b0 : BodyOk T g_IndexFunc_Box_E0 [0, 1, 0, 1] g_IndexFunc_Box_S0 g_IndexFunc_Box_W0 := fun R c p nx ex => by kernel_rfl
def g_IndexFunc_Box (s : List BoxV) (f : FnP) : Option Int :=
  bnd (g_IndexFunc_Box_L0 s f 0 ((s.length : Nat) : Int) big 0) (sum2 (fun y2 => some y2) (fun _ => some (-1)))
theorem g_IndexFunc_Box_c : FnC Tryz.prog 108 [.v (.sl (.st .box)), .fn] [.int .i64] (fun x => g_IndexFunc_Box x.1 x.2) :=
  FnC.of (body := bodyOf Tryz.f108) (N := (0, 19)) tabOk tabB mixed Tryz.func108 (by kernel_rfl) (by kernel_rfl) (fun _ => by kernel_rfl) ⟨[], [], [⟨[0, 1, 0, 1], LoopE.of tabOk tabB mixed g_IndexFunc_Box_E0 [0, 1, 0, 1] (by kernel_rfl) _ _ g_IndexFunc_Box_b0⟩], []⟩ (fun _ => by kernel_rfl) (fun x => by kernel_rfl)
def g_IndexFunc_Box_e : Entry Tryz.prog := .of g_IndexFunc_Box_c

/- impl.Box] -/
def g_ContainsFunc_Box (s : List BoxV) (f : FnP) : Option Bool :=
  bnd (g_IndexFunc_Box s f) fun y1 => some (decide (y1 ≥ 0))
theorem g_ContainsFunc_Box_c : FnC Tryz.prog 70 [.v (.sl (.st .box)), .fn] [.bool] (fun x => g_ContainsFunc_Box x.1 x.2) :=
  FnC.of (body := bodyOf Tryz.f70) (N := (0, 9)) tabOk tabB mixed Tryz.func70 (by kernel_rfl) (by kernel_rfl) (fun _ => by kernel_rfl) ⟨[g_IndexFunc_Box_e], [], [], []⟩ (fun _ => by kernel_rfl) (fun x => by kernel_rfl)
def g_ContainsFunc_Box_e : Entry Tryz.prog := .of g_ContainsFunc_Box_c

/- impl.IsReserved -/
def i_IsReserved (tag : Int) : Option Bool :=
  bnd (i_InRange tag 0 255) fun y1 => fork y1 (need ((16 : Int) ≠ 0) (some ((tag.tmod 16) == 10))) (some false)
theorem i_IsReserved_c : FnC Tryz.prog 130 [.v (.int .i64)] [.bool] (fun x => i_IsReserved x) :=
  FnC.of (body := bodyOf Tryz.f130) (N := (0, 10)) tabOk tabB mixed Tryz.func130 (by kernel_rfl) (by kernel_rfl) (fun _ => by kernel_rfl) ⟨[i_InRange_e], [], [], []⟩ (fun _ => by kernel_rfl) (fun x => by kernel_rfl)
def i_IsReserved_e : Entry Tryz.prog := .of i_IsReserved_c
def i_IsReserved_k : CloE Tryz.prog := .one (k := 130) (t := .int .i64) (cts := []) ⟨_, Tryz.func130, by kernel_rfl, by kernel_rfl⟩ (fun x c => i_IsReserved x) (fun x c r h => i_IsReserved_c x r h)

/- impl.IsHardened -/
def i_IsHardened (refused : List Int) : Option Bool :=
  bnd (g_ContainsFunc_int_128 refused (fnp1 (.int .i64) fun x => i_IsReserved x)) fun y1 => some y1
theorem i_IsHardened_c : FnC Tryz.prog 97 [.v (.sl (.int .i64))] [.bool] (fun x => i_IsHardened x) :=
  FnC.of (body := bodyOf Tryz.f97) (N := (0, 5)) tabOk tabB mixed Tryz.func97 (by kernel_rfl) (by kernel_rfl) (fun _ => by kernel_rfl) ⟨[g_ContainsFunc_int_128_e], [i_IsReserved_k], [], []⟩ (fun _ => by kernel_rfl) (fun x => by kernel_rfl)
def i_IsHardened_e : Entry Tryz.prog := .of i_IsHardened_c
def i_IsHardened_k : CloE Tryz.prog := .one (k := 97) (t := .sl (.int .i64)) (cts := []) ⟨_, Tryz.func97, by kernel_rfl, by kernel_rfl⟩ (fun x c => i_IsHardened x) (fun x c r h => i_IsHardened_c x r h)

/- impl.IsBox -/
def i_IsBox (b : BoxV) : Option Bool :=
  bnd (i_InRange b.Limit 0 9) fun y1 => fork y1 (fork (decide (((b.Drops.length : Nat) : Int) ≤ 6)) (fork (decide (((b.Strips.length : Nat) : Int) ≤ 6)) (
  bnd (i_areNumbers b.Drops 0 255) fun y2 => fork y2 (bnd (i_areNumbers b.Strips 0 255) fun y3 => some y3) (some false)) (some false)) (some false)) (some false
 )
theorem i_IsBox_c : FnC Tryz.prog 99 [.v (.st .box)] [.bool] (fun x => i_IsBox x) :=
  FnC.of (body := bodyOf Tryz.f99) (N := (0, 28)) tabOk tabB mixed Tryz.func99 (by kernel_rfl) (by kernel_rfl) (fun _ => by kernel_rfl) ⟨[i_InRange_e, i_areNumbers_e], [], [], []⟩ (fun _ => by kernel_rfl) (fun x => by kernel_rfl)
def i_IsBox_e : Entry Tryz.prog := .of i_IsBox_c
def i_IsBox_k : CloE Tryz.prog := .one (k := 99) (t := .st .box) (cts := []) ⟨_, Tryz.func99, by kernel_rfl, by kernel_rfl⟩ (fun x c => i_IsBox x) (fun x c r h => i_IsBox_c x r h)

/- impl.IsEndpoint$1 -/
def i_IsEndpoint_1 (b : BoxV) : Option Bool :=
  bnd (i_IsBox b) fun y1 => some (!y1)
theorem i_IsEndpoint_1_c : FnC Tryz.prog 98 [.v (.st .box)] [.bool] (fun x => i_IsEndpoint_1 x) :=
  FnC.of (body := bodyOf Tryz.f98) (N := (0, 6)) tabOk tabB mixed Tryz.func98 (by kernel_rfl) (by kernel_rfl) (fun _ => by kernel_rfl) ⟨[i_IsBox_e], [], [], []⟩ (fun _ => by kernel_rfl) (fun x => by kernel_rfl)
def i_IsEndpoint_1_e : Entry Tryz.prog := .of i_IsEndpoint_1_c
def i_IsEndpoint_1_k : CloE Tryz.prog := .one (k := 98) (t := .st .box) (cts := []) ⟨_, Tryz.func98, by kernel_rfl, by kernel_rfl⟩ (fun x c => i_IsEndpoint_1 x) (fun x c r h => i_IsEndpoint_1_c x r h)

/- impl.IsEndpoint -/
def i_IsEndpoint (p0 : EndpointV) : Option Bool :=
  bnd (i_AreVersions p0.Versions) fun y1 => fork y1 (fork (decide (((p0.Tags.length : Nat) : Int) ≤ 5)) (bnd (i_areTags p0.Tags) fun y2 => fork y2 (
  bnd (i_IsHardened p0.Tags) fun y3 => fork (!y3) (fork (decide (((p0.Path.length : Nat) : Int) ≤ 4)) (
  bnd (g_ContainsFunc_Box p0.Path (fnp1 (.st .box) fun x => i_IsEndpoint_1 x)) fun y4 => fork (!y4) (bnd (i_InRange p0.Class 0 5) fun y5 => some y5) (some false)) (
  some false)) (some false)) (some false)) (some false)) (some false)
theorem i_IsEndpoint_c : FnC Tryz.prog 52 [.v (.st .endpoint)] [.bool] (fun x => i_IsEndpoint x) :=
  FnC.of (body := bodyOf Tryz.f52) (N := (0, 40)) tabOk tabB mixed Tryz.func52 (by kernel_rfl) (by kernel_rfl) (fun _ => by kernel_rfl) ⟨[i_areTags_e, i_InRange_e, i_AreVersions_e, g_ContainsFunc_Box_e, i_IsHardened_e], [i_IsEndpoint_1_k], [], []⟩ (fun _ => by kernel_rfl) (fun x => by kernel_rfl)
def i_IsEndpoint_e : Entry Tryz.prog := .of i_IsEndpoint_c
def i_IsEndpoint_k : CloE Tryz.prog := .one (k := 52) (t := .st .endpoint) (cts := []) ⟨_, Tryz.func52, by kernel_rfl, by kernel_rfl⟩ (fun x c => i_IsEndpoint x) (fun x c r h => i_IsEndpoint_c x r h)

/- impl.IsWorld$1 -/
def i_IsWorld_1 (p0 : EndpointV) : Option Bool :=
  bnd (i_IsEndpoint p0) fun y1 => some (!y1)
theorem i_IsWorld_1_c : FnC Tryz.prog 51 [.v (.st .endpoint)] [.bool] (fun x => i_IsWorld_1 x) :=
  FnC.of (body := bodyOf Tryz.f51) (N := (0, 6)) tabOk tabB mixed Tryz.func51 (by kernel_rfl) (by kernel_rfl) (fun _ => by kernel_rfl) ⟨[i_IsEndpoint_e], [], [], []⟩ (fun _ => by kernel_rfl) (fun x => by kernel_rfl)
def i_IsWorld_1_e : Entry Tryz.prog := .of i_IsWorld_1_c
def i_IsWorld_1_k : CloE Tryz.prog := .one (k := 51) (t := .st .endpoint) (cts := []) ⟨_, Tryz.func51, by kernel_rfl, by kernel_rfl⟩ (fun x c => i_IsWorld_1 x) (fun x c r h => i_IsWorld_1_c x r h)

/- impl.IsWorld -/
def i_IsWorld (w : WorldV) : Option Bool :=
  bnd (i_ListsOf w) fun y1 => bnd (i_AllReach w.Server y1) fun y2 => fork (!y2) (some false) (bnd (i_areTags w.Tags) fun y3 => fork (!y3) (some false) (
  bnd (i_IsValidKey w.Key) fun y4 => fork (!y4) (some false) (fork (decide (((w.Ends.length : Nat) : Int) > 6)) (some false) (
  bnd (g_ContainsFunc_Endpoint w.Ends (fnp1 (.st .endpoint) fun x => i_IsWorld_1 x)) fun y5 => fork y5 (some false) (bnd (i_IsRollout w.Rollout) fun y6 => fork (!y6) (
  some false) (bnd (g_Contains_int w.Server w.Rollout.Version) fun y7 => fork (!y7) (some false) (bnd (i_InRange w.Least 1 100) fun y8 => fork (!y8) (some false) (
  bnd (i_InRange w.Percent 0 100) fun y9 => fork (!y9) (some false) (fork (decide (((w.Stage.length : Nat) : Int) ≤ 60)) (
  fork (decide (((w.Log.length : Nat) : Int) ≤ 60)) (bnd (i_InRange w.Now 0 10000) fun y10 => fork y10 (bnd (i_InRange w.Hurt 0 ((w.Log.length : Nat) : Int)) fun y11 =>
  fork y11 (bnd (i_InRange w.Reached 0 ((w.Rollout.Stages.length : Nat) : Int)) fun y12 => some y12) (some false)) (some false)) (some false)) (some false)))
 )))))))
theorem i_IsWorld_c : FnC Tryz.prog 10 [.v (.st .world)] [.bool] (fun x => i_IsWorld x) :=
  FnC.of (body := bodyOf Tryz.f10) (N := (0, 90)) tabOk tabB mixed Tryz.func10 (by kernel_rfl) (by kernel_rfl) (fun _ => by kernel_rfl) ⟨[i_IsRollout_e, i_AllReach_e, i_ListsOf_e, i_areTags_e, i_IsValidKey_e, g_ContainsFunc_Endpoint_e, g_Contains_int_e, i_InRange_e], [i_IsWorld_1_k], [], []⟩ (fun _ => by kernel_rfl) (fun x => by kernel_rfl)
def i_IsWorld_e : Entry Tryz.prog := .of i_IsWorld_c
def i_IsWorld_k : CloE Tryz.prog := .one (k := 10) (t := .st .world) (cts := []) ⟨_, Tryz.func10, by kernel_rfl, by kernel_rfl⟩ (fun x c => i_IsWorld x) (fun x c r h => i_IsWorld_c x r h)

/- impl.hasEnd -/
def i_hasEnd (w : WorldV) (i : Int) : Option Bool :=
  bnd (i_InRange i 0 (w64 (((w.Ends.length : Nat) : Int) - 1))) fun y1 => some y1
theorem i_hasEnd_c : FnC Tryz.prog 74 [.v (.st .world), .v (.int .i64)] [.bool] (fun x => i_hasEnd x.1 x.2) :=
  FnC.of (body := bodyOf Tryz.f74) (N := (0, 11)) tabOk tabB mixed Tryz.func74 (by kernel_rfl) (by kernel_rfl) (fun _ => by kernel_rfl) ⟨[i_InRange_e], [], [], []⟩ (fun _ => by kernel_rfl) (fun x => by kernel_rfl)
def i_hasEnd_e : Entry Tryz.prog := .of i_hasEnd_c
def i_hasEnd_k : CloE Tryz.prog := .two (k := 74) (t := .st .world) (u := .int .i64) (cts := []) ⟨_, Tryz.func74, by kernel_rfl, by kernel_rfl⟩ (fun x y c => i_hasEnd x y) (fun x y c r h => i_hasEnd_c (x, y) r h)

/- impl.IsOnNew -/
def i_IsOnNew (w : WorldV) (i : Int) : Option Bool :=
  bnd (i_hasEnd w i) fun y1 => fork y1 (bnd (i_IsIn w.Rollout i ((w.Ends.length : Nat) : Int)) fun y2 => fork y2 (need (0 ≤ i ∧ i < ((w.Ends.length : Nat) : Int)) (
  bnd (g_Contains_int ((w.Ends.getD i.toNat (dflt (.st .endpoint))).Versions) w.Rollout.Version) fun y3 => some y3)) (some false)) (some false)
theorem i_IsOnNew_c : FnC Tryz.prog 32 [.v (.st .world), .v (.int .i64)] [.bool] (fun x => i_IsOnNew x.1 x.2) :=
  FnC.of (body := bodyOf Tryz.f32) (N := (0, 29)) tabOk tabB mixed Tryz.func32 (by kernel_rfl) (by kernel_rfl) (fun _ => by kernel_rfl) ⟨[i_IsIn_e, g_Contains_int_e, i_hasEnd_e], [], [], []⟩ (fun _ => by kernel_rfl) (fun x => by kernel_rfl)
def i_IsOnNew_e : Entry Tryz.prog := .of i_IsOnNew_c
def i_IsOnNew_k : CloE Tryz.prog := .two (k := 32) (t := .st .world) (u := .int .i64) (cts := []) ⟨_, Tryz.func32, by kernel_rfl, by kernel_rfl⟩ (fun x y c => i_IsOnNew x y) (fun x y c r h => i_IsOnNew_c (x, y) r h)

/- impl.OnNewCount -/
def i_OnNewCount_B0 {R : Type} (a0_3 : Int) (a0_7 : Int) (a0_11 : List Int) (a0_12 : List Int) (a0_13 : Int) (a0_14 : List EndpointV) (a0_15 : Int) (a0_16 : List Int) (a0_17 : Int) (a0_18 : Bool) (a0_19 : Int) (a0_20 : Int) (a0_21 : List DialedV) (a0_22 : List LoggedV) (a0_23 : Int) (a0_24 : Int) (a0_25 : Int) (a0_5 : Int) (a0_9 : Int) (nx : Int → Int → Option R) (x0 : Int → Option R) : Option R :=
  fork (decide (a0_9 < a0_7)) (
  bnd (i_IsOnNew (⟨a0_11, a0_12, a0_13, a0_14, (⟨a0_15, a0_16, a0_17, a0_18⟩ : RolloutV), a0_19, a0_20, a0_21, a0_22, a0_23, a0_24, a0_25⟩ : WorldV) a0_9) fun y1 =>
  fork y1 (nx (w64 (a0_5 + 1)) (w64 (a0_9 + 1))) (nx a0_5 (w64 (a0_9 + 1)))) (x0 a0_5)
def i_OnNewCount_S0 : LoopS := ⟨⟨[(1, false, [.bp 1000000 0]), (2, false, [.val]), (3, false, [.val]), (7, false, [.val]), (8, false, [.val])], [(1000000, .box [.ro, .ro, .val, .ro, .val, .ro, .val, .val, .val, .val, .ro, .ro, .val, .val, .val])]⟩, [some 0, none, some 1, none, some 2, some 3, some 4, some 5, some 6, some 7, some 8, some 9, some 10, some 11, some 12, some 13, some 14, some 15, some 16], [.v (.int .i64), .v (.int .i64), .v (.sl (.int .i64)), .v (.sl (.int .i64)), .v (.int .i64), .v (.sl (.st .endpoint)), .v (.int .i64), .v (.sl (.int .i64)), .v (.int .i64), .v (.bool), .v (.int .i64), .v (.int .i64), .v (.sl (.st .dialed)), .v (.sl (.st .logged)), .v (.int .i64), .v (.int .i64), .v (.int .i64)], [.v (.int .i64), .v (.int .i64)],
  [⟨.exit 0, ⟨[(2, false, [.val]), (3, false, [.val])], []⟩, [some 0, none], [.v (.int .i64)]⟩]⟩
def i_OnNewCount_W0 : LoopB i_OnNewCount_S0 := fun R c p nx ex => i_OnNewCount_B0 c.1 c.2.1 c.2.2.1 c.2.2.2.1 c.2.2.2.2.1 c.2.2.2.2.2.1 c.2.2.2.2.2.2.1 c.2.2.2.2.2.2.2.1 c.2.2.2.2.2.2.2.2.1 c.2.2.2.2.2.2.2.2.2.1 c.2.2.2.2.2.2.2.2.2.2.1 c.2.2.2.2.2.2.2.2.2.2.2.1 c.2.2.2.2.2.2.2.2.2.2.2.2.1 c.2.2.2.2.2.2.2.2.2.2.2.2.2.1 c.2.2.2.2.2.2.2.2.2.2.2.2.2.2.1 c.2.2.2.2.2.2.2.2.2.2.2.2.2.2.2.1 c.2.2.2.2.2.2.2.2.2.2.2.2.2.2.2.2 p.1 p.2 (fun v0 v1 => nx (v0, v1)) (fun v0 => ex v0)
def i_OnNewCount_L0 (a0_3 : Int) (a0_7 : Int) (a0_11 : List Int) (a0_12 : List Int) (a0_13 : Int) (a0_14 : List EndpointV) (a0_15 : Int) (a0_16 : List Int) (a0_17 : Int) (a0_18 : Bool) (a0_19 : Int) (a0_20 : Int) (a0_21 : List DialedV) (a0_22 : List LoggedV) (a0_23 : Int) (a0_24 : Int) (a0_25 : Int) (n : Nat) (a0_5 : Int) (a0_9 : Int) : Option Int := @loopF (Int × Int × (List Int) × (List Int) × Int × (List EndpointV) × Int × (List Int) × Int × Bool × Int × Int × (List DialedV) × (List LoggedV) × Int × Int × Int) (Int × Int) Int (i_OnNewCount_W0 _) (a0_3, a0_7, a0_11, a0_12, a0_13, a0_14, a0_15, a0_16, a0_17, a0_18, a0_19, a0_20, a0_21, a0_22, a0_23, a0_24, a0_25) n (a0_5, a0_9)
def i_OnNewCount_E0 : Env Tryz.prog (0, 18) (bodyOf Tryz.f13) := ⟨[i_IsOnNew_e], [], [], []⟩
theorem i_OnNewCount_b0 : BodyOk T i_OnNewCount_E0 [0, 1, 0, 1, 1] i_OnNewCount_S0 i_OnNewCount_W0 := fun R c p nx ex => by kernel_rfl
def i_OnNewCount (w : WorldV) : Option Int :=
  bnd (i_OnNewCount_L0 0 ((w.Ends.length : Nat) : Int) w.Server w.Tags w.Key w.Ends w.Rollout.Version w.Rollout.Stages w.Rollout.At w.Rollout.Off w.Least w.Percent w.Stage w.Log w.Now w.Hurt w.Reached big 0 0) fun y2 =>
  some y2
theorem i_OnNewCount_c : FnC Tryz.prog 13 [.v (.st .world)] [.int .i64] (fun x => i_OnNewCount x) :=
  FnC.of (body := bodyOf Tryz.f13) (N := (0, 18)) tabOk tabB mixed Tryz.func13 (by kernel_rfl) (by kernel_rfl) (fun _ => by kernel_rfl) ⟨[i_IsOnNew_e], [], [⟨[0, 1, 0, 1, 1], LoopE.of tabOk tabB mixed i_OnNewCount_E0 [0, 1, 0, 1, 1] (by kernel_rfl) _ _ i_OnNewCount_b0⟩], []⟩ (fun _ => by kernel_rfl) (fun x => by kernel_rfl)
def i_OnNewCount_e : Entry Tryz.prog := .of i_OnNewCount_c

/- impl.HasVersion -/
def i_HasVersion_B0 {R : Type} (a0_1 : Int) (a0_7 : List EndpointV) (a0_9 : Int) (a0_11 : Int) (a0_12 : List Int) (nx : Int → List Int → Option R) (x0 : List Int → Option R) : Option R :=
  fork (decide (a0_11 < a0_9)) (need (0 ≤ a0_11 ∧ a0_11 < ((a0_7.length : Nat) : Int)) (
  bnd (g_Contains_int ((a0_7.getD a0_11.toNat (dflt (.st .endpoint))).Versions) a0_1) fun y1 => fork y1 (
  need ((((a0_12.length + ([a0_11] : List Int).length : Nat)) : Int) * ((8 : Nat) : Int) ≤ 140737488355328) (nx (w64 (a0_11 + 1)) (a0_12 ++ ([a0_11] : List Int)))) (
  nx (w64 (a0_11 + 1)) a0_12))) (x0 a0_12)
def i_HasVersion_S0 : LoopS := ⟨⟨[(1, false, [.val]), (4, false, [.nil (.int .i64)]), (5, false, [.tr 1000000]), (10, false, [.ro]), (11, false, [.val]), (12, false, [.val])], [(1000000, .tree)]⟩, [some 0, some 1, some 2, none, none], [.v (.int .i64), .v (.sl (.st .endpoint)), .v (.int .i64)], [.v (.int .i64), .v (.sl (.int .i64))],
  [⟨.exit 0, ⟨[(4, false, [.nil (.int .i64)]), (5, false, [.tr 2000000])], [(2000000, .tree)]⟩, [none], [.v (.sl (.int .i64))]⟩]⟩
def i_HasVersion_W0 : LoopB i_HasVersion_S0 := fun R c p nx ex => i_HasVersion_B0 c.1 c.2.1 c.2.2 p.1 p.2 (fun v0 v1 => nx (v0, v1)) (fun v0 => ex v0)
def i_HasVersion_L0 (a0_1 : Int) (a0_7 : List EndpointV) (a0_9 : Int) (n : Nat) (a0_11 : Int) (a0_12 : List Int) : Option ((List Int)) := @loopF (Int × (List EndpointV) × Int) (Int × (List Int)) ((List Int)) (i_HasVersion_W0 _) (a0_1, a0_7, a0_9) n (a0_11, a0_12)
def i_HasVersion_E0 : Env Tryz.prog (0, 27) (bodyOf Tryz.f15) := ⟨[g_Contains_int_e], [], [], []⟩
theorem i_HasVersion_b0 : BodyOk T i_HasVersion_E0 [0, 1, 0, 1, 1] i_HasVersion_S0 i_HasVersion_W0 := fun R c p nx ex => by kernel_rfl
def i_HasVersion (w : WorldV) (v : Int) : Option (List Int) :=
  bnd (i_HasVersion_L0 v w.Ends ((w.Ends.length : Nat) : Int) big 0 ([] : List Int)) fun y2 => some y2
theorem i_HasVersion_c : FnC Tryz.prog 15 [.v (.st .world), .v (.int .i64)] [.sl (.int .i64)] (fun x => i_HasVersion x.1 x.2) :=
  FnC.of (body := bodyOf Tryz.f15) (N := (0, 27)) tabOk tabB mixed Tryz.func15 (by kernel_rfl) (by kernel_rfl) (fun _ => by kernel_rfl) ⟨[g_Contains_int_e], [], [⟨[0, 1, 0, 1, 1], LoopE.of tabOk tabB mixed i_HasVersion_E0 [0, 1, 0, 1, 1] (by kernel_rfl) _ _ i_HasVersion_b0⟩], []⟩ (fun _ => by kernel_rfl) (fun x => by kernel_rfl)
def i_HasVersion_e : Entry Tryz.prog := .of i_HasVersion_c

/- laws.contains -/
def w_contains_B0 {R : Type} (a0_1 : List Int) (a0_3 : Int) (a0_5 : Bool) (a0_7 : Int) (nx : Int → Option R) (x0 : Bool → Option R) (x1 : Option R) : Option R :=
  fork (decide (a0_7 < ((a0_1.length : Nat) : Int))) (need (0 ≤ a0_7 ∧ a0_7 < ((a0_1.length : Nat) : Int)) (fork ((a0_1.getD a0_7.toNat (dflt (.int .i64))) == a0_3) (
  x0 true) (nx (w64 (a0_7 + 1))))) (x1)
def w_contains_S0 : LoopS := ⟨⟨[(0, false, [.ro]), (1, false, [.val]), (4, false, [.val]), (5, false, [.val])], []⟩, [some 0, some 1, some 2, none], [.v (.sl (.int .i64)), .v (.int .i64), .v (.bool)], [.v (.int .i64)],
  [⟨.ret, ⟨[(4, false, [.val])], []⟩, [none], [.v (.bool)]⟩, ⟨.exit 0, ⟨[(4, false, [.val])], []⟩, [some 2], []⟩]⟩
def w_contains_W0 : LoopB w_contains_S0 := fun R c p nx ex => w_contains_B0 c.1 c.2.1 c.2.2 p (fun v0 => nx v0) (fun v0 => ex (.inl v0)) (ex (.inr ()))
def w_contains_L0 (a0_1 : List Int) (a0_3 : Int) (a0_5 : Bool) (n : Nat) (a0_7 : Int) : Option (Bool ⊕ Unit) := @loopF ((List Int) × Int × Bool) Int (Bool ⊕ Unit) (w_contains_W0 _) (a0_1, a0_3, a0_5) n a0_7
def w_contains_E0 : Env Tryz.prog (0, 18) (bodyOf Tryz.f33) := ⟨[], [], [], []⟩
theorem w_contains_b0 : BodyOk T w_contains_E0 [0, 1, 0, 1] w_contains_S0 w_contains_W0 := fun R c p nx ex => by kernel_rfl
def w_contains (l : List Int) (n : Int) : Option Bool :=
  bnd (w_contains_L0 l n false big 0) (sum2 (fun y1 => some y1) (fun _ => some false))
theorem w_contains_c : FnC Tryz.prog 33 [.v (.sl (.int .i64)), .v (.int .i64)] [.bool] (fun x => w_contains x.1 x.2) :=
  FnC.of (body := bodyOf Tryz.f33) (N := (0, 18)) tabOk tabB mixed Tryz.func33 (by kernel_rfl) (by kernel_rfl) (fun _ => by kernel_rfl) ⟨[], [], [⟨[0, 1, 0, 1], LoopE.of tabOk tabB mixed w_contains_E0 [0, 1, 0, 1] (by kernel_rfl) _ _ w_contains_b0⟩], []⟩ (fun _ => by kernel_rfl) (fun x => by kernel_rfl)
def w_contains_e : Entry Tryz.prog := .of w_contains_c
def w_contains_k : CloE Tryz.prog := .two (k := 33) (t := .sl (.int .i64)) (u := .int .i64) (cts := []) ⟨_, Tryz.func33, by kernel_rfl, by kernel_rfl⟩ (fun x y c => w_contains x y) (fun x y c r h => w_contains_c (x, y) r h)

/- laws.left -/
def w_left_B0 {R : Type} (a0_1 : List Int) (a0_3 : List Int) (a0_9 : Int) (a0_10 : List Int) (nx : Int → List Int → Option R) (x0 : List Int → Option R) : Option R :=
  fork (decide (a0_9 < ((a0_1.length : Nat) : Int))) (need (0 ≤ a0_9 ∧ a0_9 < ((a0_1.length : Nat) : Int)) (
  bnd (w_contains a0_3 (a0_1.getD a0_9.toNat (dflt (.int .i64)))) fun y1 => fork (!y1) (need (0 ≤ a0_9 ∧ a0_9 < ((a0_1.length : Nat) : Int)) (
  need ((((a0_10.length + ([(a0_1.getD a0_9.toNat (dflt (.int .i64)))] : List Int).length : Nat)) : Int) * ((8 : Nat) : Int) ≤ 140737488355328) (
  nx (w64 (a0_9 + 1)) (a0_10 ++ ([(a0_1.getD a0_9.toNat (dflt (.int .i64)))] : List Int))))) (nx (w64 (a0_9 + 1)) a0_10))) (x0 a0_10)
def w_left_S0 : LoopS := ⟨⟨[(0, false, [.ro]), (1, false, [.ro]), (4, false, [.nil (.int .i64)]), (5, false, [.tr 1000000]), (6, false, [.val])], [(1000000, .tree)]⟩, [some 0, some 1, none, none], [.v (.sl (.int .i64)), .v (.sl (.int .i64))], [.v (.int .i64), .v (.sl (.int .i64))],
  [⟨.exit 0, ⟨[(4, false, [.nil (.int .i64)]), (5, false, [.tr 2000000])], [(2000000, .tree)]⟩, [none], [.v (.sl (.int .i64))]⟩]⟩
def w_left_W0 : LoopB w_left_S0 := fun R c p nx ex => w_left_B0 c.1 c.2 p.1 p.2 (fun v0 v1 => nx (v0, v1)) (fun v0 => ex v0)
def w_left_L0 (a0_1 : List Int) (a0_3 : List Int) (n : Nat) (a0_9 : Int) (a0_10 : List Int) : Option ((List Int)) := @loopF ((List Int) × (List Int)) (Int × (List Int)) ((List Int)) (w_left_W0 _) (a0_1, a0_3) n (a0_9, a0_10)
def w_left_E0 : Env Tryz.prog (0, 29) (bodyOf Tryz.f16) := ⟨[w_contains_e], [], [], []⟩
theorem w_left_b0 : BodyOk T w_left_E0 [0, 1, 0, 1, 1] w_left_S0 w_left_W0 := fun R c p nx ex => by kernel_rfl
def w_left (l : List Int) (lost : List Int) : Option (List Int) :=
  bnd (w_left_L0 l lost big 0 ([] : List Int)) fun y2 => some y2
theorem w_left_c : FnC Tryz.prog 16 [.v (.sl (.int .i64)), .v (.sl (.int .i64))] [.sl (.int .i64)] (fun x => w_left x.1 x.2) :=
  FnC.of (body := bodyOf Tryz.f16) (N := (0, 29)) tabOk tabB mixed Tryz.func16 (by kernel_rfl) (by kernel_rfl) (fun _ => by kernel_rfl) ⟨[w_contains_e], [], [⟨[0, 1, 0, 1, 1], LoopE.of tabOk tabB mixed w_left_E0 [0, 1, 0, 1, 1] (by kernel_rfl) _ _ w_left_b0⟩], []⟩ (fun _ => by kernel_rfl) (fun x => by kernel_rfl)
def w_left_e : Entry Tryz.prog := .of w_left_c

/- laws.within -/
def w_within_B0 {R : Type} (a0_1 : List Int) (a0_3 : List Int) (a0_5 : Bool) (a0_7 : Int) (nx : Int → Option R) (x0 : Bool → Option R) (x1 : Option R) : Option R :=
  fork (decide (a0_7 < ((a0_1.length : Nat) : Int))) (need (0 ≤ a0_7 ∧ a0_7 < ((a0_1.length : Nat) : Int)) (
  bnd (w_contains a0_3 (a0_1.getD a0_7.toNat (dflt (.int .i64)))) fun y1 => fork (!y1) (x0 false) (nx (w64 (a0_7 + 1))))) (x1)
def w_within_S0 : LoopS := ⟨⟨[(0, false, [.ro]), (1, false, [.ro]), (4, false, [.val]), (5, false, [.val])], []⟩, [some 0, some 1, some 2, none], [.v (.sl (.int .i64)), .v (.sl (.int .i64)), .v (.bool)], [.v (.int .i64)],
  [⟨.ret, ⟨[(4, false, [.val])], []⟩, [none], [.v (.bool)]⟩, ⟨.exit 0, ⟨[(4, false, [.val])], []⟩, [some 2], []⟩]⟩
def w_within_W0 : LoopB w_within_S0 := fun R c p nx ex => w_within_B0 c.1 c.2.1 c.2.2 p (fun v0 => nx v0) (fun v0 => ex (.inl v0)) (ex (.inr ()))
def w_within_L0 (a0_1 : List Int) (a0_3 : List Int) (a0_5 : Bool) (n : Nat) (a0_7 : Int) : Option (Bool ⊕ Unit) := @loopF ((List Int) × (List Int) × Bool) Int (Bool ⊕ Unit) (w_within_W0 _) (a0_1, a0_3, a0_5) n a0_7
def w_within_E0 : Env Tryz.prog (0, 19) (bodyOf Tryz.f18) := ⟨[w_contains_e], [], [], []⟩
theorem w_within_b0 : BodyOk T w_within_E0 [0, 1, 0, 1] w_within_S0 w_within_W0 := fun R c p nx ex => by kernel_rfl
def w_within (a : List Int) (b : List Int) : Option Bool :=
  bnd (w_within_L0 a b false big 0) (sum2 (fun y2 => some y2) (fun _ => some true))
theorem w_within_c : FnC Tryz.prog 18 [.v (.sl (.int .i64)), .v (.sl (.int .i64))] [.bool] (fun x => w_within x.1 x.2) :=
  FnC.of (body := bodyOf Tryz.f18) (N := (0, 19)) tabOk tabB mixed Tryz.func18 (by kernel_rfl) (by kernel_rfl) (fun _ => by kernel_rfl) ⟨[w_contains_e], [], [⟨[0, 1, 0, 1], LoopE.of tabOk tabB mixed w_within_E0 [0, 1, 0, 1] (by kernel_rfl) _ _ w_within_b0⟩], []⟩ (fun _ => by kernel_rfl) (fun x => by kernel_rfl)
def w_within_e : Entry Tryz.prog := .of w_within_c
def w_within_k : CloE Tryz.prog := .two (k := 18) (t := .sl (.int .i64)) (u := .sl (.int .i64)) (cts := []) ⟨_, Tryz.func18, by kernel_rfl, by kernel_rfl⟩ (fun x y c => w_within x y) (fun x y c r h => w_within_c (x, y) r h)

/- laws.FnStages -/
def w_FnStages_B0 {R : Type} (a0_1 : Bool) (a0_15 : Int) (a0_17 : Int) (a0_19 : Int) (a0_20 : Bool) (a0_21 : Int) (a0_22 : Int) (a0_25 : Int) (a0_26 : Int) (a0_27 : Int) (a0_31 : Int) (a0_33 : Int) (a0_35 : Int) (a0_36 : Bool) (a0_37 : Int) (a0_38 : Int) (a0_41 : Int) (a0_42 : Int) (a0_43 : Int) (a0_47 : Int) (a0_49 : Int) (a0_51 : Int) (a0_52 : Bool) (a0_53 : Int) (a0_54 : Int) (a0_57 : Int) (a0_58 : Int) (a0_59 : Int) (a0_60 : List Int) (a0_61 : List Int) (a0_62 : List Int) (a0_63 : List EndpointV) (a0_64 : List Int) (a0_65 : List DialedV) (a0_66 : List LoggedV) (a0_67 : List Int) (a0_68 : List Int) (a0_69 : List EndpointV) (a0_70 : List Int) (a0_71 : List DialedV) (a0_72 : List LoggedV) (a0_73 : List Int) (a0_74 : List Int) (a0_75 : List EndpointV) (a0_76 : List Int) (a0_77 : List DialedV) (a0_78 : List LoggedV) (a0_11 : Int) (nx : Int → Option R) (x0 : Bool → Option R) (x1 : Option R) : Option R :=
  fork (decide (a0_11 < ((a0_60.length : Nat) : Int))) (need (0 ≤ a0_11 ∧ a0_11 < ((a0_60.length : Nat) : Int)) (
  need (0 ≤ (a0_60.getD a0_11.toNat (dflt (.int .i64))) ∧ (a0_60.getD a0_11.toNat (dflt (.int .i64))) < ((a0_75.length : Nat) : Int)) (
  bnd (w_left ((a0_75.getD ((a0_60.getD a0_11.toNat (dflt (.int .i64))).toNat) (dflt (.st .endpoint))).Versions) ([a0_17] : List Int)) fun y14 =>
  bnd (i_BestCommon a0_61 y14) fun y15 => fork (decide (y15 > 0)) (x0 false) (nx (w64 (a0_11 + 1)))))) (x1)
def w_FnStages_S0 : LoopS := ⟨⟨[(2, false, [.val]), (3, false, [.bp 1000000 0]), (4, false, [.bp 1000001 0]), (5, false, [.bp 1000002 0]), (6, false, [.tr 1000003]), (7, false, [.val])], [(1000000, .box [.tr 1000004, .tr 1000005, .val, .tr 1000006, .val, .tr 1000007, .val, .val, .val, .val, .tr 1000008, .tr 1000009, .val, .val, .val]), (1000001, .box [.tr 1000010, .tr 1000011, .val, .tr 1000012, .val, .tr 1000013, .val, .val, .val, .val, .tr 1000014, .tr 1000015, .val, .val, .val]), (1000002, .box [.tr 1000016, .tr 1000017, .val, .tr 1000018, .val, .tr 1000019, .val, .val, .val, .val, .tr 1000020, .tr 1000021, .val, .val, .val]), (1000003, .tree), (1000004, .tree), (1000005, .tree), (1000006, .tree), (1000007, .tree), (1000008, .tree), (1000009, .tree), (1000010, .tree), (1000011, .tree), (1000012, .tree), (1000013, .tree), (1000014, .tree), (1000015, .tree), (1000016, .tree), (1000017, .tree), (1000018, .tree), (1000019, .tree), (1000020, .tree), (1000021, .tree)]⟩, [some 0, none, some 1, some 2, some 3, some 4, some 5, some 6, some 7, some 8, some 9, some 10, some 11, some 12, some 13, some 14, some 15, some 16, some 17, some 18, some 19, some 20, some 21, some 22, some 23, some 24, some 25, some 26, some 27, some 28, some 29, some 30, some 31, some 32, some 33, some 34, some 35, some 36, some 37, some 38, some 39, some 40, some 41, some 42, some 43, some 44, some 45, some 46], [.v (.bool), .v (.int .i64), .v (.int .i64), .v (.int .i64), .v (.bool), .v (.int .i64), .v (.int .i64), .v (.int .i64), .v (.int .i64), .v (.int .i64), .v (.int .i64), .v (.int .i64), .v (.int .i64), .v (.bool), .v (.int .i64), .v (.int .i64), .v (.int .i64), .v (.int .i64), .v (.int .i64), .v (.int .i64), .v (.int .i64), .v (.int .i64), .v (.bool), .v (.int .i64), .v (.int .i64), .v (.int .i64), .v (.int .i64), .v (.int .i64), .v (.sl (.int .i64)), .v (.sl (.int .i64)), .v (.sl (.int .i64)), .v (.sl (.st .endpoint)), .v (.sl (.int .i64)), .v (.sl (.st .dialed)), .v (.sl (.st .logged)), .v (.sl (.int .i64)), .v (.sl (.int .i64)), .v (.sl (.st .endpoint)), .v (.sl (.int .i64)), .v (.sl (.st .dialed)), .v (.sl (.st .logged)), .v (.sl (.int .i64)), .v (.sl (.int .i64)), .v (.sl (.st .endpoint)), .v (.sl (.int .i64)), .v (.sl (.st .dialed)), .v (.sl (.st .logged))], [.v (.int .i64)],
  [⟨.ret, ⟨[(2, false, [.val])], []⟩, [none], [.v (.bool)]⟩, ⟨.exit 0, ⟨[(2, false, [.val]), (3, false, [.bp 2001000 0]), (4, false, [.bp 2001001 0]), (6, false, [.tr 2001002])], [(2001000, .box [.tr 2001003, .tr 2001004, .val, .tr 2001005, .val, .tr 2001006, .val, .val, .val, .val, .tr 2001007, .tr 2001008, .val, .val, .val]), (2001001, .box [.tr 2001009, .tr 2001010, .val, .tr 2001011, .val, .tr 2001012, .val, .val, .val, .val, .tr 2001013, .tr 2001014, .val, .val, .val]), (2001002, .tree), (2001003, .tree), (2001004, .tree), (2001005, .tree), (2001006, .tree), (2001007, .tree), (2001008, .tree), (2001009, .tree), (2001010, .tree), (2001011, .tree), (2001012, .tree), (2001013, .tree), (2001014, .tree)]⟩, [some 0, some 1, some 2, some 3, some 4, some 5, some 6, some 7, some 8, some 9, some 10, some 11, some 12, some 13, some 14, some 15, some 16, some 17, some 18, some 28, some 29, some 30, some 31, some 32, some 33, some 34, some 35, some 36, some 37, some 38, some 39, some 40], []⟩]⟩
def w_FnStages_W0 : LoopB w_FnStages_S0 := fun R c p nx ex => w_FnStages_B0 c.1 c.2.1 c.2.2.1 c.2.2.2.1 c.2.2.2.2.1 c.2.2.2.2.2.1 c.2.2.2.2.2.2.1 c.2.2.2.2.2.2.2.1 c.2.2.2.2.2.2.2.2.1 c.2.2.2.2.2.2.2.2.2.1 c.2.2.2.2.2.2.2.2.2.2.1 c.2.2.2.2.2.2.2.2.2.2.2.1 c.2.2.2.2.2.2.2.2.2.2.2.2.1 c.2.2.2.2.2.2.2.2.2.2.2.2.2.1 c.2.2.2.2.2.2.2.2.2.2.2.2.2.2.1 c.2.2.2.2.2.2.2.2.2.2.2.2.2.2.2.1 c.2.2.2.2.2.2.2.2.2.2.2.2.2.2.2.2.1 c.2.2.2.2.2.2.2.2.2.2.2.2.2.2.2.2.2.1 c.2.2.2.2.2.2.2.2.2.2.2.2.2.2.2.2.2.2.1 c.2.2.2.2.2.2.2.2.2.2.2.2.2.2.2.2.2.2.2.1 c.2.2.2.2.2.2.2.2.2.2.2.2.2.2.2.2.2.2.2.2.1 c.2.2.2.2.2.2.2.2.2.2.2.2.2.2.2.2.2.2.2.2.2.1 c.2.2.2.2.2.2.2.2.2.2.2.2.2.2.2.2.2.2.2.2.2.2.1 c.2.2.2.2.2.2.2.2.2.2.2.2.2.2.2.2.2.2.2.2.2.2.2.1 c.2.2.2.2.2.2.2.2.2.2.2.2.2.2.2.2.2.2.2.2.2.2.2.2.1 c.2.2.2.2.2.2.2.2.2.2.2.2.2.2.2.2.2.2.2.2.2.2.2.2.2.1 c.2.2.2.2.2.2.2.2.2.2.2.2.2.2.2.2.2.2.2.2.2.2.2.2.2.2.1 c.2.2.2.2.2.2.2.2.2.2.2.2.2.2.2.2.2.2.2.2.2.2.2.2.2.2.2.1 c.2.2.2.2.2.2.2.2.2.2.2.2.2.2.2.2.2.2.2.2.2.2.2.2.2.2.2.2.1 c.2.2.2.2.2.2.2.2.2.2.2.2.2.2.2.2.2.2.2.2.2.2.2.2.2.2.2.2.2.1 c.2.2.2.2.2.2.2.2.2.2.2.2.2.2.2.2.2.2.2.2.2.2.2.2.2.2.2.2.2.2.1 c.2.2.2.2.2.2.2.2.2.2.2.2.2.2.2.2.2.2.2.2.2.2.2.2.2.2.2.2.2.2.2.1 c.2.2.2.2.2.2.2.2.2.2.2.2.2.2.2.2.2.2.2.2.2.2.2.2.2.2.2.2.2.2.2.2.1 c.2.2.2.2.2.2.2.2.2.2.2.2.2.2.2.2.2.2.2.2.2.2.2.2.2.2.2.2.2.2.2.2.2.1 c.2.2.2.2.2.2.2.2.2.2.2.2.2.2.2.2.2.2.2.2.2.2.2.2.2.2.2.2.2.2.2.2.2.2.1 c.2.2.2.2.2.2.2.2.2.2.2.2.2.2.2.2.2.2.2.2.2.2.2.2.2.2.2.2.2.2.2.2.2.2.2.1 c.2.2.2.2.2.2.2.2.2.2.2.2.2.2.2.2.2.2.2.2.2.2.2.2.2.2.2.2.2.2.2.2.2.2.2.2.1 c.2.2.2.2.2.2.2.2.2.2.2.2.2.2.2.2.2.2.2.2.2.2.2.2.2.2.2.2.2.2.2.2.2.2.2.2.2.1 c.2.2.2.2.2.2.2.2.2.2.2.2.2.2.2.2.2.2.2.2.2.2.2.2.2.2.2.2.2.2.2.2.2.2.2.2.2.2.1 c.2.2.2.2.2.2.2.2.2.2.2.2.2.2.2.2.2.2.2.2.2.2.2.2.2.2.2.2.2.2.2.2.2.2.2.2.2.2.2.1 c.2.2.2.2.2.2.2.2.2.2.2.2.2.2.2.2.2.2.2.2.2.2.2.2.2.2.2.2.2.2.2.2.2.2.2.2.2.2.2.2.1 c.2.2.2.2.2.2.2.2.2.2.2.2.2.2.2.2.2.2.2.2.2.2.2.2.2.2.2.2.2.2.2.2.2.2.2.2.2.2.2.2.2.1 c.2.2.2.2.2.2.2.2.2.2.2.2.2.2.2.2.2.2.2.2.2.2.2.2.2.2.2.2.2.2.2.2.2.2.2.2.2.2.2.2.2.2.1 c.2.2.2.2.2.2.2.2.2.2.2.2.2.2.2.2.2.2.2.2.2.2.2.2.2.2.2.2.2.2.2.2.2.2.2.2.2.2.2.2.2.2.2.1 c.2.2.2.2.2.2.2.2.2.2.2.2.2.2.2.2.2.2.2.2.2.2.2.2.2.2.2.2.2.2.2.2.2.2.2.2.2.2.2.2.2.2.2.2.1 c.2.2.2.2.2.2.2.2.2.2.2.2.2.2.2.2.2.2.2.2.2.2.2.2.2.2.2.2.2.2.2.2.2.2.2.2.2.2.2.2.2.2.2.2.2.1 c.2.2.2.2.2.2.2.2.2.2.2.2.2.2.2.2.2.2.2.2.2.2.2.2.2.2.2.2.2.2.2.2.2.2.2.2.2.2.2.2.2.2.2.2.2.2 p (fun v0 => nx v0) (fun v0 => ex (.inl v0)) (ex (.inr ()))
def w_FnStages_L0 (a0_1 : Bool) (a0_15 : Int) (a0_17 : Int) (a0_19 : Int) (a0_20 : Bool) (a0_21 : Int) (a0_22 : Int) (a0_25 : Int) (a0_26 : Int) (a0_27 : Int) (a0_31 : Int) (a0_33 : Int) (a0_35 : Int) (a0_36 : Bool) (a0_37 : Int) (a0_38 : Int) (a0_41 : Int) (a0_42 : Int) (a0_43 : Int) (a0_47 : Int) (a0_49 : Int) (a0_51 : Int) (a0_52 : Bool) (a0_53 : Int) (a0_54 : Int) (a0_57 : Int) (a0_58 : Int) (a0_59 : Int) (a0_60 : List Int) (a0_61 : List Int) (a0_62 : List Int) (a0_63 : List EndpointV) (a0_64 : List Int) (a0_65 : List DialedV) (a0_66 : List LoggedV) (a0_67 : List Int) (a0_68 : List Int) (a0_69 : List EndpointV) (a0_70 : List Int) (a0_71 : List DialedV) (a0_72 : List LoggedV) (a0_73 : List Int) (a0_74 : List Int) (a0_75 : List EndpointV) (a0_76 : List Int) (a0_77 : List DialedV) (a0_78 : List LoggedV) (n : Nat) (a0_11 : Int) : Option (Bool ⊕ Unit) := @loopF (Bool × Int × Int × Int × Bool × Int × Int × Int × Int × Int × Int × Int × Int × Bool × Int × Int × Int × Int × Int × Int × Int × Int × Bool × Int × Int × Int × Int × Int × (List Int) × (List Int) × (List Int) × (List EndpointV) × (List Int) × (List DialedV) × (List LoggedV) × (List Int) × (List Int) × (List EndpointV) × (List Int) × (List DialedV) × (List LoggedV) × (List Int) × (List Int) × (List EndpointV) × (List Int) × (List DialedV) × (List LoggedV)) Int (Bool ⊕ Unit) (w_FnStages_W0 _) (a0_1, a0_15, a0_17, a0_19, a0_20, a0_21, a0_22, a0_25, a0_26, a0_27, a0_31, a0_33, a0_35, a0_36, a0_37, a0_38, a0_41, a0_42, a0_43, a0_47, a0_49, a0_51, a0_52, a0_53, a0_54, a0_57, a0_58, a0_59, a0_60, a0_61, a0_62, a0_63, a0_64, a0_65, a0_66, a0_67, a0_68, a0_69, a0_70, a0_71, a0_72, a0_73, a0_74, a0_75, a0_76, a0_77, a0_78) n a0_11
def w_FnStages_E0 : Env Tryz.prog (0, 108) (bodyOf Tryz.f3) := ⟨[w_big_e, s_DrawEnterStage_e, i_EnterStage_e, i_LeaveRollout_e, i_IsWorld_e, s_IsWorld_e, i_IsRollout_e, i_OnNewCount_e, i_CountIn_e, i_HasVersion_e, w_left_e, i_BestCommon_e, w_within_e], [], [], []⟩
theorem w_FnStages_b0 : BodyOk T w_FnStages_E0 [0, 1, 0, 1, 1, 1, 1, 1, 1, 1, 1] w_FnStages_S0 w_FnStages_W0 := fun R c p nx ex => by kernel_rfl
def w_FnStages_B1 {R : Type} (a1_1 : Bool) (a1_15 : Int) (a1_17 : Int) (a1_19 : Int) (a1_20 : Bool) (a1_21 : Int) (a1_22 : Int) (a1_25 : Int) (a1_26 : Int) (a1_27 : Int) (a1_31 : Int) (a1_33 : Int) (a1_35 : Int) (a1_36 : Bool) (a1_37 : Int) (a1_38 : Int) (a1_41 : Int) (a1_42 : Int) (a1_43 : Int) (a1_47 : Int) (a1_49 : Int) (a1_51 : Int) (a1_52 : Bool) (a1_53 : Int) (a1_54 : Int) (a1_57 : Int) (a1_58 : Int) (a1_59 : Int) (a1_60 : List Int) (a1_61 : List Int) (a1_62 : List Int) (a1_63 : List EndpointV) (a1_64 : List Int) (a1_65 : List DialedV) (a1_66 : List LoggedV) (a1_67 : List Int) (a1_68 : List Int) (a1_69 : List EndpointV) (a1_70 : List Int) (a1_71 : List DialedV) (a1_72 : List LoggedV) (a1_73 : List Int) (a1_74 : List Int) (a1_75 : List EndpointV) (a1_76 : List Int) (a1_77 : List DialedV) (a1_78 : List LoggedV) (a1_11 : Int) (nx : Int → Option R) (x0 : Bool → Option R) (x1 : Option R) : Option R :=
  fork (decide (a1_11 < ((a1_60.length : Nat) : Int))) (need (0 ≤ a1_11 ∧ a1_11 < ((a1_60.length : Nat) : Int)) (
  need (0 ≤ (a1_60.getD a1_11.toNat (dflt (.int .i64))) ∧ (a1_60.getD a1_11.toNat (dflt (.int .i64))) < ((a1_75.length : Nat) : Int)) (
  bnd (w_left ((a1_75.getD ((a1_60.getD a1_11.toNat (dflt (.int .i64))).toNat) (dflt (.st .endpoint))).Versions) ([a1_17] : List Int)) fun y23 =>
  bnd (i_BestCommon a1_61 y23) fun y24 => fork (decide (y24 > 0)) (x0 false) (nx (w64 (a1_11 + 1)))))) (x1)
def w_FnStages_S1 : LoopS := ⟨⟨[(2, false, [.val]), (3, false, [.bp 1010000 0]), (4, false, [.bp 1010001 0]), (5, false, [.bp 1010002 0]), (6, false, [.tr 1010003]), (7, false, [.val])], [(1010000, .box [.tr 1010004, .tr 1010005, .val, .tr 1010006, .val, .tr 1010007, .val, .val, .val, .val, .tr 1010008, .tr 1010009, .val, .val, .val]), (1010001, .box [.tr 1010010, .tr 1010011, .val, .tr 1010012, .val, .tr 1010013, .val, .val, .val, .val, .tr 1010014, .tr 1010015, .val, .val, .val]), (1010002, .box [.tr 1010016, .tr 1010017, .val, .tr 1010018, .val, .tr 1010019, .val, .val, .val, .val, .tr 1010020, .tr 1010021, .val, .val, .val]), (1010003, .tree), (1010004, .tree), (1010005, .tree), (1010006, .tree), (1010007, .tree), (1010008, .tree), (1010009, .tree), (1010010, .tree), (1010011, .tree), (1010012, .tree), (1010013, .tree), (1010014, .tree), (1010015, .tree), (1010016, .tree), (1010017, .tree), (1010018, .tree), (1010019, .tree), (1010020, .tree), (1010021, .tree)]⟩, [some 0, none, some 1, some 2, some 3, some 4, some 5, some 6, some 7, some 8, some 9, some 10, some 11, some 12, some 13, some 14, some 15, some 16, some 17, some 18, some 19, some 20, some 21, some 22, some 23, some 24, some 25, some 26, some 27, some 28, some 29, some 30, some 31, some 32, some 33, some 34, some 35, some 36, some 37, some 38, some 39, some 40, some 41, some 42, some 43, some 44, some 45, some 46], [.v (.bool), .v (.int .i64), .v (.int .i64), .v (.int .i64), .v (.bool), .v (.int .i64), .v (.int .i64), .v (.int .i64), .v (.int .i64), .v (.int .i64), .v (.int .i64), .v (.int .i64), .v (.int .i64), .v (.bool), .v (.int .i64), .v (.int .i64), .v (.int .i64), .v (.int .i64), .v (.int .i64), .v (.int .i64), .v (.int .i64), .v (.int .i64), .v (.bool), .v (.int .i64), .v (.int .i64), .v (.int .i64), .v (.int .i64), .v (.int .i64), .v (.sl (.int .i64)), .v (.sl (.int .i64)), .v (.sl (.int .i64)), .v (.sl (.st .endpoint)), .v (.sl (.int .i64)), .v (.sl (.st .dialed)), .v (.sl (.st .logged)), .v (.sl (.int .i64)), .v (.sl (.int .i64)), .v (.sl (.st .endpoint)), .v (.sl (.int .i64)), .v (.sl (.st .dialed)), .v (.sl (.st .logged)), .v (.sl (.int .i64)), .v (.sl (.int .i64)), .v (.sl (.st .endpoint)), .v (.sl (.int .i64)), .v (.sl (.st .dialed)), .v (.sl (.st .logged))], [.v (.int .i64)],
  [⟨.ret, ⟨[(2, false, [.val])], []⟩, [none], [.v (.bool)]⟩, ⟨.exit 0, ⟨[(2, false, [.val]), (3, false, [.bp 2011000 0]), (4, false, [.bp 2011001 0]), (6, false, [.tr 2011002])], [(2011000, .box [.tr 2011003, .tr 2011004, .val, .tr 2011005, .val, .tr 2011006, .val, .val, .val, .val, .tr 2011007, .tr 2011008, .val, .val, .val]), (2011001, .box [.tr 2011009, .tr 2011010, .val, .tr 2011011, .val, .tr 2011012, .val, .val, .val, .val, .tr 2011013, .tr 2011014, .val, .val, .val]), (2011002, .tree), (2011003, .tree), (2011004, .tree), (2011005, .tree), (2011006, .tree), (2011007, .tree), (2011008, .tree), (2011009, .tree), (2011010, .tree), (2011011, .tree), (2011012, .tree), (2011013, .tree), (2011014, .tree)]⟩, [some 0, some 1, some 2, some 3, some 4, some 5, some 6, some 7, some 8, some 9, some 10, some 11, some 12, some 13, some 14, some 15, some 16, some 17, some 18, some 28, some 29, some 30, some 31, some 32, some 33, some 34, some 35, some 36, some 37, some 38, some 39, some 40], []⟩]⟩
def w_FnStages_W1 : LoopB w_FnStages_S1 := fun R c p nx ex => w_FnStages_B1 c.1 c.2.1 c.2.2.1 c.2.2.2.1 c.2.2.2.2.1 c.2.2.2.2.2.1 c.2.2.2.2.2.2.1 c.2.2.2.2.2.2.2.1 c.2.2.2.2.2.2.2.2.1 c.2.2.2.2.2.2.2.2.2.1 c.2.2.2.2.2.2.2.2.2.2.1 c.2.2.2.2.2.2.2.2.2.2.2.1 c.2.2.2.2.2.2.2.2.2.2.2.2.1 c.2.2.2.2.2.2.2.2.2.2.2.2.2.1 c.2.2.2.2.2.2.2.2.2.2.2.2.2.2.1 c.2.2.2.2.2.2.2.2.2.2.2.2.2.2.2.1 c.2.2.2.2.2.2.2.2.2.2.2.2.2.2.2.2.1 c.2.2.2.2.2.2.2.2.2.2.2.2.2.2.2.2.2.1 c.2.2.2.2.2.2.2.2.2.2.2.2.2.2.2.2.2.2.1 c.2.2.2.2.2.2.2.2.2.2.2.2.2.2.2.2.2.2.2.1 c.2.2.2.2.2.2.2.2.2.2.2.2.2.2.2.2.2.2.2.2.1 c.2.2.2.2.2.2.2.2.2.2.2.2.2.2.2.2.2.2.2.2.2.1 c.2.2.2.2.2.2.2.2.2.2.2.2.2.2.2.2.2.2.2.2.2.2.1 c.2.2.2.2.2.2.2.2.2.2.2.2.2.2.2.2.2.2.2.2.2.2.2.1 c.2.2.2.2.2.2.2.2.2.2.2.2.2.2.2.2.2.2.2.2.2.2.2.2.1 c.2.2.2.2.2.2.2.2.2.2.2.2.2.2.2.2.2.2.2.2.2.2.2.2.2.1 c.2.2.2.2.2.2.2.2.2.2.2.2.2.2.2.2.2.2.2.2.2.2.2.2.2.2.1 c.2.2.2.2.2.2.2.2.2.2.2.2.2.2.2.2.2.2.2.2.2.2.2.2.2.2.2.1 c.2.2.2.2.2.2.2.2.2.2.2.2.2.2.2.2.2.2.2.2.2.2.2.2.2.2.2.2.1 c.2.2.2.2.2.2.2.2.2.2.2.2.2.2.2.2.2.2.2.2.2.2.2.2.2.2.2.2.2.1 c.2.2.2.2.2.2.2.2.2.2.2.2.2.2.2.2.2.2.2.2.2.2.2.2.2.2.2.2.2.2.1 c.2.2.2.2.2.2.2.2.2.2.2.2.2.2.2.2.2.2.2.2.2.2.2.2.2.2.2.2.2.2.2.1 c.2.2.2.2.2.2.2.2.2.2.2.2.2.2.2.2.2.2.2.2.2.2.2.2.2.2.2.2.2.2.2.2.1 c.2.2.2.2.2.2.2.2.2.2.2.2.2.2.2.2.2.2.2.2.2.2.2.2.2.2.2.2.2.2.2.2.2.1 c.2.2.2.2.2.2.2.2.2.2.2.2.2.2.2.2.2.2.2.2.2.2.2.2.2.2.2.2.2.2.2.2.2.2.1 c.2.2.2.2.2.2.2.2.2.2.2.2.2.2.2.2.2.2.2.2.2.2.2.2.2.2.2.2.2.2.2.2.2.2.2.1 c.2.2.2.2.2.2.2.2.2.2.2.2.2.2.2.2.2.2.2.2.2.2.2.2.2.2.2.2.2.2.2.2.2.2.2.2.1 c.2.2.2.2.2.2.2.2.2.2.2.2.2.2.2.2.2.2.2.2.2.2.2.2.2.2.2.2.2.2.2.2.2.2.2.2.2.1 c.2.2.2.2.2.2.2.2.2.2.2.2.2.2.2.2.2.2.2.2.2.2.2.2.2.2.2.2.2.2.2.2.2.2.2.2.2.2.1 c.2.2.2.2.2.2.2.2.2.2.2.2.2.2.2.2.2.2.2.2.2.2.2.2.2.2.2.2.2.2.2.2.2.2.2.2.2.2.2.1 c.2.2.2.2.2.2.2.2.2.2.2.2.2.2.2.2.2.2.2.2.2.2.2.2.2.2.2.2.2.2.2.2.2.2.2.2.2.2.2.2.1 c.2.2.2.2.2.2.2.2.2.2.2.2.2.2.2.2.2.2.2.2.2.2.2.2.2.2.2.2.2.2.2.2.2.2.2.2.2.2.2.2.2.1 c.2.2.2.2.2.2.2.2.2.2.2.2.2.2.2.2.2.2.2.2.2.2.2.2.2.2.2.2.2.2.2.2.2.2.2.2.2.2.2.2.2.2.1 c.2.2.2.2.2.2.2.2.2.2.2.2.2.2.2.2.2.2.2.2.2.2.2.2.2.2.2.2.2.2.2.2.2.2.2.2.2.2.2.2.2.2.2.1 c.2.2.2.2.2.2.2.2.2.2.2.2.2.2.2.2.2.2.2.2.2.2.2.2.2.2.2.2.2.2.2.2.2.2.2.2.2.2.2.2.2.2.2.2.1 c.2.2.2.2.2.2.2.2.2.2.2.2.2.2.2.2.2.2.2.2.2.2.2.2.2.2.2.2.2.2.2.2.2.2.2.2.2.2.2.2.2.2.2.2.2.1 c.2.2.2.2.2.2.2.2.2.2.2.2.2.2.2.2.2.2.2.2.2.2.2.2.2.2.2.2.2.2.2.2.2.2.2.2.2.2.2.2.2.2.2.2.2.2 p (fun v0 => nx v0) (fun v0 => ex (.inl v0)) (ex (.inr ()))
def w_FnStages_L1 (a1_1 : Bool) (a1_15 : Int) (a1_17 : Int) (a1_19 : Int) (a1_20 : Bool) (a1_21 : Int) (a1_22 : Int) (a1_25 : Int) (a1_26 : Int) (a1_27 : Int) (a1_31 : Int) (a1_33 : Int) (a1_35 : Int) (a1_36 : Bool) (a1_37 : Int) (a1_38 : Int) (a1_41 : Int) (a1_42 : Int) (a1_43 : Int) (a1_47 : Int) (a1_49 : Int) (a1_51 : Int) (a1_52 : Bool) (a1_53 : Int) (a1_54 : Int) (a1_57 : Int) (a1_58 : Int) (a1_59 : Int) (a1_60 : List Int) (a1_61 : List Int) (a1_62 : List Int) (a1_63 : List EndpointV) (a1_64 : List Int) (a1_65 : List DialedV) (a1_66 : List LoggedV) (a1_67 : List Int) (a1_68 : List Int) (a1_69 : List EndpointV) (a1_70 : List Int) (a1_71 : List DialedV) (a1_72 : List LoggedV) (a1_73 : List Int) (a1_74 : List Int) (a1_75 : List EndpointV) (a1_76 : List Int) (a1_77 : List DialedV) (a1_78 : List LoggedV) (n : Nat) (a1_11 : Int) : Option (Bool ⊕ Unit) := @loopF (Bool × Int × Int × Int × Bool × Int × Int × Int × Int × Int × Int × Int × Int × Bool × Int × Int × Int × Int × Int × Int × Int × Int × Bool × Int × Int × Int × Int × Int × (List Int) × (List Int) × (List Int) × (List EndpointV) × (List Int) × (List DialedV) × (List LoggedV) × (List Int) × (List Int) × (List EndpointV) × (List Int) × (List DialedV) × (List LoggedV) × (List Int) × (List Int) × (List EndpointV) × (List Int) × (List DialedV) × (List LoggedV)) Int (Bool ⊕ Unit) (w_FnStages_W1 _) (a1_1, a1_15, a1_17, a1_19, a1_20, a1_21, a1_22, a1_25, a1_26, a1_27, a1_31, a1_33, a1_35, a1_36, a1_37, a1_38, a1_41, a1_42, a1_43, a1_47, a1_49, a1_51, a1_52, a1_53, a1_54, a1_57, a1_58, a1_59, a1_60, a1_61, a1_62, a1_63, a1_64, a1_65, a1_66, a1_67, a1_68, a1_69, a1_70, a1_71, a1_72, a1_73, a1_74, a1_75, a1_76, a1_77, a1_78) n a1_11
def w_FnStages_E1 : Env Tryz.prog (0, 108) (bodyOf Tryz.f3) := ⟨[w_big_e, s_DrawEnterStage_e, i_EnterStage_e, i_LeaveRollout_e, i_IsWorld_e, s_IsWorld_e, i_IsRollout_e, i_OnNewCount_e, i_CountIn_e, i_HasVersion_e, w_left_e, i_BestCommon_e, w_within_e], [], [⟨[0, 1, 0, 1, 1, 1, 1, 1, 1, 1, 1], LoopE.of tabOk tabB mixed w_FnStages_E0 [0, 1, 0, 1, 1, 1, 1, 1, 1, 1, 1] (by kernel_rfl) _ _ w_FnStages_b0⟩], []⟩
theorem w_FnStages_b1 : BodyOk T w_FnStages_E1 [0, 1, 0, 1, 1, 1, 1, 1, 1, 1, 1] w_FnStages_S1 w_FnStages_W1 := fun R c p nx ex => by kernel_rfl
def w_FnStages_B2 {R : Type} (a2_1 : Bool) (a2_15 : Int) (a2_17 : Int) (a2_19 : Int) (a2_20 : Bool) (a2_21 : Int) (a2_22 : Int) (a2_25 : Int) (a2_26 : Int) (a2_27 : Int) (a2_31 : Int) (a2_33 : Int) (a2_35 : Int) (a2_36 : Bool) (a2_37 : Int) (a2_38 : Int) (a2_41 : Int) (a2_42 : Int) (a2_43 : Int) (a2_47 : Int) (a2_49 : Int) (a2_51 : Int) (a2_52 : Bool) (a2_53 : Int) (a2_54 : Int) (a2_57 : Int) (a2_58 : Int) (a2_59 : Int) (a2_60 : List Int) (a2_61 : List Int) (a2_62 : List Int) (a2_63 : List EndpointV) (a2_64 : List Int) (a2_65 : List DialedV) (a2_66 : List LoggedV) (a2_67 : List Int) (a2_68 : List Int) (a2_69 : List EndpointV) (a2_70 : List Int) (a2_71 : List DialedV) (a2_72 : List LoggedV) (a2_73 : List Int) (a2_74 : List Int) (a2_75 : List EndpointV) (a2_76 : List Int) (a2_77 : List DialedV) (a2_78 : List LoggedV) (a2_11 : Int) (nx : Int → Option R) (x0 : Bool → Option R) (x1 : Option R) : Option R :=
  fork (decide (a2_11 < ((a2_60.length : Nat) : Int))) (need (0 ≤ a2_11 ∧ a2_11 < ((a2_60.length : Nat) : Int)) (
  need (0 ≤ (a2_60.getD a2_11.toNat (dflt (.int .i64))) ∧ (a2_60.getD a2_11.toNat (dflt (.int .i64))) < ((a2_75.length : Nat) : Int)) (
  bnd (w_left ((a2_75.getD ((a2_60.getD a2_11.toNat (dflt (.int .i64))).toNat) (dflt (.st .endpoint))).Versions) ([a2_17] : List Int)) fun y32 =>
  bnd (i_BestCommon a2_61 y32) fun y33 => fork (decide (y33 > 0)) (x0 false) (nx (w64 (a2_11 + 1)))))) (x1)
def w_FnStages_S2 : LoopS := ⟨⟨[(2, false, [.val]), (3, false, [.bp 1020000 0]), (4, false, [.bp 1020001 0]), (5, false, [.bp 1020002 0]), (6, false, [.tr 1020003]), (7, false, [.val])], [(1020000, .box [.tr 1020004, .tr 1020005, .val, .tr 1020006, .val, .tr 1020007, .val, .val, .val, .val, .tr 1020008, .tr 1020009, .val, .val, .val]), (1020001, .box [.tr 1020010, .tr 1020011, .val, .tr 1020012, .val, .tr 1020013, .val, .val, .val, .val, .tr 1020014, .tr 1020015, .val, .val, .val]), (1020002, .box [.tr 1020016, .tr 1020017, .val, .tr 1020018, .val, .tr 1020019, .val, .val, .val, .val, .tr 1020020, .tr 1020021, .val, .val, .val]), (1020003, .tree), (1020004, .tree), (1020005, .tree), (1020006, .tree), (1020007, .tree), (1020008, .tree), (1020009, .tree), (1020010, .tree), (1020011, .tree), (1020012, .tree), (1020013, .tree), (1020014, .tree), (1020015, .tree), (1020016, .tree), (1020017, .tree), (1020018, .tree), (1020019, .tree), (1020020, .tree), (1020021, .tree)]⟩, [some 0, none, some 1, some 2, some 3, some 4, some 5, some 6, some 7, some 8, some 9, some 10, some 11, some 12, some 13, some 14, some 15, some 16, some 17, some 18, some 19, some 20, some 21, some 22, some 23, some 24, some 25, some 26, some 27, some 28, some 29, some 30, some 31, some 32, some 33, some 34, some 35, some 36, some 37, some 38, some 39, some 40, some 41, some 42, some 43, some 44, some 45, some 46], [.v (.bool), .v (.int .i64), .v (.int .i64), .v (.int .i64), .v (.bool), .v (.int .i64), .v (.int .i64), .v (.int .i64), .v (.int .i64), .v (.int .i64), .v (.int .i64), .v (.int .i64), .v (.int .i64), .v (.bool), .v (.int .i64), .v (.int .i64), .v (.int .i64), .v (.int .i64), .v (.int .i64), .v (.int .i64), .v (.int .i64), .v (.int .i64), .v (.bool), .v (.int .i64), .v (.int .i64), .v (.int .i64), .v (.int .i64), .v (.int .i64), .v (.sl (.int .i64)), .v (.sl (.int .i64)), .v (.sl (.int .i64)), .v (.sl (.st .endpoint)), .v (.sl (.int .i64)), .v (.sl (.st .dialed)), .v (.sl (.st .logged)), .v (.sl (.int .i64)), .v (.sl (.int .i64)), .v (.sl (.st .endpoint)), .v (.sl (.int .i64)), .v (.sl (.st .dialed)), .v (.sl (.st .logged)), .v (.sl (.int .i64)), .v (.sl (.int .i64)), .v (.sl (.st .endpoint)), .v (.sl (.int .i64)), .v (.sl (.st .dialed)), .v (.sl (.st .logged))], [.v (.int .i64)],
  [⟨.ret, ⟨[(2, false, [.val])], []⟩, [none], [.v (.bool)]⟩, ⟨.exit 0, ⟨[(2, false, [.val]), (3, false, [.bp 2021000 0]), (4, false, [.bp 2021001 0]), (6, false, [.tr 2021002])], [(2021000, .box [.tr 2021003, .tr 2021004, .val, .tr 2021005, .val, .tr 2021006, .val, .val, .val, .val, .tr 2021007, .tr 2021008, .val, .val, .val]), (2021001, .box [.tr 2021009, .tr 2021010, .val, .tr 2021011, .val, .tr 2021012, .val, .val, .val, .val, .tr 2021013, .tr 2021014, .val, .val, .val]), (2021002, .tree), (2021003, .tree), (2021004, .tree), (2021005, .tree), (2021006, .tree), (2021007, .tree), (2021008, .tree), (2021009, .tree), (2021010, .tree), (2021011, .tree), (2021012, .tree), (2021013, .tree), (2021014, .tree)]⟩, [some 0, some 1, some 2, some 3, some 4, some 5, some 6, some 7, some 8, some 9, some 10, some 11, some 12, some 13, some 14, some 15, some 16, some 17, some 18, some 28, some 29, some 30, some 31, some 32, some 33, some 34, some 35, some 36, some 37, some 38, some 39, some 40], []⟩]⟩
def w_FnStages_W2 : LoopB w_FnStages_S2 := fun R c p nx ex => w_FnStages_B2 c.1 c.2.1 c.2.2.1 c.2.2.2.1 c.2.2.2.2.1 c.2.2.2.2.2.1 c.2.2.2.2.2.2.1 c.2.2.2.2.2.2.2.1 c.2.2.2.2.2.2.2.2.1 c.2.2.2.2.2.2.2.2.2.1 c.2.2.2.2.2.2.2.2.2.2.1 c.2.2.2.2.2.2.2.2.2.2.2.1 c.2.2.2.2.2.2.2.2.2.2.2.2.1 c.2.2.2.2.2.2.2.2.2.2.2.2.2.1 c.2.2.2.2.2.2.2.2.2.2.2.2.2.2.1 c.2.2.2.2.2.2.2.2.2.2.2.2.2.2.2.1 c.2.2.2.2.2.2.2.2.2.2.2.2.2.2.2.2.1 c.2.2.2.2.2.2.2.2.2.2.2.2.2.2.2.2.2.1 c.2.2.2.2.2.2.2.2.2.2.2.2.2.2.2.2.2.2.1 c.2.2.2.2.2.2.2.2.2.2.2.2.2.2.2.2.2.2.2.1 c.2.2.2.2.2.2.2.2.2.2.2.2.2.2.2.2.2.2.2.2.1 c.2.2.2.2.2.2.2.2.2.2.2.2.2.2.2.2.2.2.2.2.2.1 c.2.2.2.2.2.2.2.2.2.2.2.2.2.2.2.2.2.2.2.2.2.2.1 c.2.2.2.2.2.2.2.2.2.2.2.2.2.2.2.2.2.2.2.2.2.2.2.1 c.2.2.2.2.2.2.2.2.2.2.2.2.2.2.2.2.2.2.2.2.2.2.2.2.1 c.2.2.2.2.2.2.2.2.2.2.2.2.2.2.2.2.2.2.2.2.2.2.2.2.2.1 c.2.2.2.2.2.2.2.2.2.2.2.2.2.2.2.2.2.2.2.2.2.2.2.2.2.2.1 c.2.2.2.2.2.2.2.2.2.2.2.2.2.2.2.2.2.2.2.2.2.2.2.2.2.2.2.1 c.2.2.2.2.2.2.2.2.2.2.2.2.2.2.2.2.2.2.2.2.2.2.2.2.2.2.2.2.1 c.2.2.2.2.2.2.2.2.2.2.2.2.2.2.2.2.2.2.2.2.2.2.2.2.2.2.2.2.2.1 c.2.2.2.2.2.2.2.2.2.2.2.2.2.2.2.2.2.2.2.2.2.2.2.2.2.2.2.2.2.2.1 c.2.2.2.2.2.2.2.2.2.2.2.2.2.2.2.2.2.2.2.2.2.2.2.2.2.2.2.2.2.2.2.1 c.2.2.2.2.2.2.2.2.2.2.2.2.2.2.2.2.2.2.2.2.2.2.2.2.2.2.2.2.2.2.2.2.1 c.2.2.2.2.2.2.2.2.2.2.2.2.2.2.2.2.2.2.2.2.2.2.2.2.2.2.2.2.2.2.2.2.2.1 c.2.2.2.2.2.2.2.2.2.2.2.2.2.2.2.2.2.2.2.2.2.2.2.2.2.2.2.2.2.2.2.2.2.2.1 c.2.2.2.2.2.2.2.2.2.2.2.2.2.2.2.2.2.2.2.2.2.2.2.2.2.2.2.2.2.2.2.2.2.2.2.1 c.2.2.2.2.2.2.2.2.2.2.2.2.2.2.2.2.2.2.2.2.2.2.2.2.2.2.2.2.2.2.2.2.2.2.2.2.1 c.2.2.2.2.2.2.2.2.2.2.2.2.2.2.2.2.2.2.2.2.2.2.2.2.2.2.2.2.2.2.2.2.2.2.2.2.2.1 c.2.2.2.2.2.2.2.2.2.2.2.2.2.2.2.2.2.2.2.2.2.2.2.2.2.2.2.2.2.2.2.2.2.2.2.2.2.2.1 c.2.2.2.2.2.2.2.2.2.2.2.2.2.2.2.2.2.2.2.2.2.2.2.2.2.2.2.2.2.2.2.2.2.2.2.2.2.2.2.1 c.2.2.2.2.2.2.2.2.2.2.2.2.2.2.2.2.2.2.2.2.2.2.2.2.2.2.2.2.2.2.2.2.2.2.2.2.2.2.2.2.1 c.2.2.2.2.2.2.2.2.2.2.2.2.2.2.2.2.2.2.2.2.2.2.2.2.2.2.2.2.2.2.2.2.2.2.2.2.2.2.2.2.2.1 c.2.2.2.2.2.2.2.2.2.2.2.2.2.2.2.2.2.2.2.2.2.2.2.2.2.2.2.2.2.2.2.2.2.2.2.2.2.2.2.2.2.2.1 c.2.2.2.2.2.2.2.2.2.2.2.2.2.2.2.2.2.2.2.2.2.2.2.2.2.2.2.2.2.2.2.2.2.2.2.2.2.2.2.2.2.2.2.1 c.2.2.2.2.2.2.2.2.2.2.2.2.2.2.2.2.2.2.2.2.2.2.2.2.2.2.2.2.2.2.2.2.2.2.2.2.2.2.2.2.2.2.2.2.1 c.2.2.2.2.2.2.2.2.2.2.2.2.2.2.2.2.2.2.2.2.2.2.2.2.2.2.2.2.2.2.2.2.2.2.2.2.2.2.2.2.2.2.2.2.2.1 c.2.2.2.2.2.2.2.2.2.2.2.2.2.2.2.2.2.2.2.2.2.2.2.2.2.2.2.2.2.2.2.2.2.2.2.2.2.2.2.2.2.2.2.2.2.2 p (fun v0 => nx v0) (fun v0 => ex (.inl v0)) (ex (.inr ()))
def w_FnStages_L2 (a2_1 : Bool) (a2_15 : Int) (a2_17 : Int) (a2_19 : Int) (a2_20 : Bool) (a2_21 : Int) (a2_22 : Int) (a2_25 : Int) (a2_26 : Int) (a2_27 : Int) (a2_31 : Int) (a2_33 : Int) (a2_35 : Int) (a2_36 : Bool) (a2_37 : Int) (a2_38 : Int) (a2_41 : Int) (a2_42 : Int) (a2_43 : Int) (a2_47 : Int) (a2_49 : Int) (a2_51 : Int) (a2_52 : Bool) (a2_53 : Int) (a2_54 : Int) (a2_57 : Int) (a2_58 : Int) (a2_59 : Int) (a2_60 : List Int) (a2_61 : List Int) (a2_62 : List Int) (a2_63 : List EndpointV) (a2_64 : List Int) (a2_65 : List DialedV) (a2_66 : List LoggedV) (a2_67 : List Int) (a2_68 : List Int) (a2_69 : List EndpointV) (a2_70 : List Int) (a2_71 : List DialedV) (a2_72 : List LoggedV) (a2_73 : List Int) (a2_74 : List Int) (a2_75 : List EndpointV) (a2_76 : List Int) (a2_77 : List DialedV) (a2_78 : List LoggedV) (n : Nat) (a2_11 : Int) : Option (Bool ⊕ Unit) := @loopF (Bool × Int × Int × Int × Bool × Int × Int × Int × Int × Int × Int × Int × Int × Bool × Int × Int × Int × Int × Int × Int × Int × Int × Bool × Int × Int × Int × Int × Int × (List Int) × (List Int) × (List Int) × (List EndpointV) × (List Int) × (List DialedV) × (List LoggedV) × (List Int) × (List Int) × (List EndpointV) × (List Int) × (List DialedV) × (List LoggedV) × (List Int) × (List Int) × (List EndpointV) × (List Int) × (List DialedV) × (List LoggedV)) Int (Bool ⊕ Unit) (w_FnStages_W2 _) (a2_1, a2_15, a2_17, a2_19, a2_20, a2_21, a2_22, a2_25, a2_26, a2_27, a2_31, a2_33, a2_35, a2_36, a2_37, a2_38, a2_41, a2_42, a2_43, a2_47, a2_49, a2_51, a2_52, a2_53, a2_54, a2_57, a2_58, a2_59, a2_60, a2_61, a2_62, a2_63, a2_64, a2_65, a2_66, a2_67, a2_68, a2_69, a2_70, a2_71, a2_72, a2_73, a2_74, a2_75, a2_76, a2_77, a2_78) n a2_11
def w_FnStages_E2 : Env Tryz.prog (0, 108) (bodyOf Tryz.f3) := ⟨[w_big_e, s_DrawEnterStage_e, i_EnterStage_e, i_LeaveRollout_e, i_IsWorld_e, s_IsWorld_e, i_IsRollout_e, i_OnNewCount_e, i_CountIn_e, i_HasVersion_e, w_left_e, i_BestCommon_e, w_within_e], [], [⟨[0, 1, 0, 1, 1, 1, 1, 1, 1, 1, 1], LoopE.of tabOk tabB mixed w_FnStages_E0 [0, 1, 0, 1, 1, 1, 1, 1, 1, 1, 1] (by kernel_rfl) _ _ w_FnStages_b0⟩, ⟨[0, 1, 0, 1, 1, 1, 1, 1, 1, 1, 1], LoopE.of tabOk tabB mixed w_FnStages_E1 [0, 1, 0, 1, 1, 1, 1, 1, 1, 1, 1] (by kernel_rfl) _ _ w_FnStages_b1⟩], []⟩
theorem w_FnStages_b2 : BodyOk T w_FnStages_E2 [0, 1, 0, 1, 1, 1, 1, 1, 1, 1, 1] w_FnStages_S2 w_FnStages_W2 := fun R c p nx ex => by kernel_rfl
def w_FnStages_B3 {R : Type} (a3_1 : Bool) (a3_15 : Int) (a3_17 : Int) (a3_19 : Int) (a3_20 : Bool) (a3_21 : Int) (a3_22 : Int) (a3_25 : Int) (a3_26 : Int) (a3_27 : Int) (a3_31 : Int) (a3_33 : Int) (a3_35 : Int) (a3_36 : Bool) (a3_37 : Int) (a3_38 : Int) (a3_41 : Int) (a3_42 : Int) (a3_43 : Int) (a3_47 : Int) (a3_49 : Int) (a3_51 : Int) (a3_52 : Bool) (a3_53 : Int) (a3_54 : Int) (a3_57 : Int) (a3_58 : Int) (a3_59 : Int) (a3_60 : List Int) (a3_61 : List Int) (a3_62 : List Int) (a3_63 : List EndpointV) (a3_64 : List Int) (a3_65 : List DialedV) (a3_66 : List LoggedV) (a3_67 : List Int) (a3_68 : List Int) (a3_69 : List EndpointV) (a3_70 : List Int) (a3_71 : List DialedV) (a3_72 : List LoggedV) (a3_73 : List Int) (a3_74 : List Int) (a3_75 : List EndpointV) (a3_76 : List Int) (a3_77 : List DialedV) (a3_78 : List LoggedV) (a3_11 : Int) (nx : Int → Option R) (x0 : Bool → Option R) (x1 : Option R) : Option R :=
  fork (decide (a3_11 < ((a3_60.length : Nat) : Int))) (need (0 ≤ a3_11 ∧ a3_11 < ((a3_60.length : Nat) : Int)) (
  need (0 ≤ (a3_60.getD a3_11.toNat (dflt (.int .i64))) ∧ (a3_60.getD a3_11.toNat (dflt (.int .i64))) < ((a3_75.length : Nat) : Int)) (
  bnd (w_left ((a3_75.getD ((a3_60.getD a3_11.toNat (dflt (.int .i64))).toNat) (dflt (.st .endpoint))).Versions) ([a3_17] : List Int)) fun y44 =>
  bnd (i_BestCommon a3_61 y44) fun y45 => fork (decide (y45 > 0)) (x0 false) (nx (w64 (a3_11 + 1)))))) (x1)
def w_FnStages_S3 : LoopS := ⟨⟨[(2, false, [.val]), (3, false, [.bp 1030000 0]), (4, false, [.bp 1030001 0]), (5, false, [.bp 1030002 0]), (6, false, [.tr 1030003]), (7, false, [.val])], [(1030000, .box [.tr 1030004, .tr 1030005, .val, .tr 1030006, .val, .tr 1030007, .val, .val, .val, .val, .tr 1030008, .tr 1030009, .val, .val, .val]), (1030001, .box [.tr 1030010, .tr 1030011, .val, .tr 1030012, .val, .tr 1030013, .val, .val, .val, .val, .tr 1030014, .tr 1030015, .val, .val, .val]), (1030002, .box [.tr 1030016, .tr 1030017, .val, .tr 1030018, .val, .tr 1030019, .val, .val, .val, .val, .tr 1030020, .tr 1030021, .val, .val, .val]), (1030003, .tree), (1030004, .tree), (1030005, .tree), (1030006, .tree), (1030007, .tree), (1030008, .tree), (1030009, .tree), (1030010, .tree), (1030011, .tree), (1030012, .tree), (1030013, .tree), (1030014, .tree), (1030015, .tree), (1030016, .tree), (1030017, .tree), (1030018, .tree), (1030019, .tree), (1030020, .tree), (1030021, .tree)]⟩, [some 0, none, some 1, some 2, some 3, some 4, some 5, some 6, some 7, some 8, some 9, some 10, some 11, some 12, some 13, some 14, some 15, some 16, some 17, some 18, some 19, some 20, some 21, some 22, some 23, some 24, some 25, some 26, some 27, some 28, some 29, some 30, some 31, some 32, some 33, some 34, some 35, some 36, some 37, some 38, some 39, some 40, some 41, some 42, some 43, some 44, some 45, some 46], [.v (.bool), .v (.int .i64), .v (.int .i64), .v (.int .i64), .v (.bool), .v (.int .i64), .v (.int .i64), .v (.int .i64), .v (.int .i64), .v (.int .i64), .v (.int .i64), .v (.int .i64), .v (.int .i64), .v (.bool), .v (.int .i64), .v (.int .i64), .v (.int .i64), .v (.int .i64), .v (.int .i64), .v (.int .i64), .v (.int .i64), .v (.int .i64), .v (.bool), .v (.int .i64), .v (.int .i64), .v (.int .i64), .v (.int .i64), .v (.int .i64), .v (.sl (.int .i64)), .v (.sl (.int .i64)), .v (.sl (.int .i64)), .v (.sl (.st .endpoint)), .v (.sl (.int .i64)), .v (.sl (.st .dialed)), .v (.sl (.st .logged)), .v (.sl (.int .i64)), .v (.sl (.int .i64)), .v (.sl (.st .endpoint)), .v (.sl (.int .i64)), .v (.sl (.st .dialed)), .v (.sl (.st .logged)), .v (.sl (.int .i64)), .v (.sl (.int .i64)), .v (.sl (.st .endpoint)), .v (.sl (.int .i64)), .v (.sl (.st .dialed)), .v (.sl (.st .logged))], [.v (.int .i64)],
  [⟨.ret, ⟨[(2, false, [.val])], []⟩, [none], [.v (.bool)]⟩, ⟨.exit 0, ⟨[(2, false, [.val]), (3, false, [.bp 2031000 0]), (4, false, [.bp 2031001 0]), (6, false, [.tr 2031002])], [(2031000, .box [.tr 2031003, .tr 2031004, .val, .tr 2031005, .val, .tr 2031006, .val, .val, .val, .val, .tr 2031007, .tr 2031008, .val, .val, .val]), (2031001, .box [.tr 2031009, .tr 2031010, .val, .tr 2031011, .val, .tr 2031012, .val, .val, .val, .val, .tr 2031013, .tr 2031014, .val, .val, .val]), (2031002, .tree), (2031003, .tree), (2031004, .tree), (2031005, .tree), (2031006, .tree), (2031007, .tree), (2031008, .tree), (2031009, .tree), (2031010, .tree), (2031011, .tree), (2031012, .tree), (2031013, .tree), (2031014, .tree)]⟩, [some 0, some 1, some 2, some 3, some 4, some 5, some 6, some 7, some 8, some 9, some 10, some 11, some 12, some 13, some 14, some 15, some 16, some 17, some 18, some 28, some 29, some 30, some 31, some 32, some 33, some 34, some 35, some 36, some 37, some 38, some 39, some 40], []⟩]⟩
def w_FnStages_W3 : LoopB w_FnStages_S3 := fun R c p nx ex => w_FnStages_B3 c.1 c.2.1 c.2.2.1 c.2.2.2.1 c.2.2.2.2.1 c.2.2.2.2.2.1 c.2.2.2.2.2.2.1 c.2.2.2.2.2.2.2.1 c.2.2.2.2.2.2.2.2.1 c.2.2.2.2.2.2.2.2.2.1 c.2.2.2.2.2.2.2.2.2.2.1 c.2.2.2.2.2.2.2.2.2.2.2.1 c.2.2.2.2.2.2.2.2.2.2.2.2.1 c.2.2.2.2.2.2.2.2.2.2.2.2.2.1 c.2.2.2.2.2.2.2.2.2.2.2.2.2.2.1 c.2.2.2.2.2.2.2.2.2.2.2.2.2.2.2.1 c.2.2.2.2.2.2.2.2.2.2.2.2.2.2.2.2.1 c.2.2.2.2.2.2.2.2.2.2.2.2.2.2.2.2.2.1 c.2.2.2.2.2.2.2.2.2.2.2.2.2.2.2.2.2.2.1 c.2.2.2.2.2.2.2.2.2.2.2.2.2.2.2.2.2.2.2.1 c.2.2.2.2.2.2.2.2.2.2.2.2.2.2.2.2.2.2.2.2.1 c.2.2.2.2.2.2.2.2.2.2.2.2.2.2.2.2.2.2.2.2.2.1 c.2.2.2.2.2.2.2.2.2.2.2.2.2.2.2.2.2.2.2.2.2.2.1 c.2.2.2.2.2.2.2.2.2.2.2.2.2.2.2.2.2.2.2.2.2.2.2.1 c.2.2.2.2.2.2.2.2.2.2.2.2.2.2.2.2.2.2.2.2.2.2.2.2.1 c.2.2.2.2.2.2.2.2.2.2.2.2.2.2.2.2.2.2.2.2.2.2.2.2.2.1 c.2.2.2.2.2.2.2.2.2.2.2.2.2.2.2.2.2.2.2.2.2.2.2.2.2.2.1 c.2.2.2.2.2.2.2.2.2.2.2.2.2.2.2.2.2.2.2.2.2.2.2.2.2.2.2.1 c.2.2.2.2.2.2.2.2.2.2.2.2.2.2.2.2.2.2.2.2.2.2.2.2.2.2.2.2.1 c.2.2.2.2.2.2.2.2.2.2.2.2.2.2.2.2.2.2.2.2.2.2.2.2.2.2.2.2.2.1 c.2.2.2.2.2.2.2.2.2.2.2.2.2.2.2.2.2.2.2.2.2.2.2.2.2.2.2.2.2.2.1 c.2.2.2.2.2.2.2.2.2.2.2.2.2.2.2.2.2.2.2.2.2.2.2.2.2.2.2.2.2.2.2.1 c.2.2.2.2.2.2.2.2.2.2.2.2.2.2.2.2.2.2.2.2.2.2.2.2.2.2.2.2.2.2.2.2.1 c.2.2.2.2.2.2.2.2.2.2.2.2.2.2.2.2.2.2.2.2.2.2.2.2.2.2.2.2.2.2.2.2.2.1 c.2.2.2.2.2.2.2.2.2.2.2.2.2.2.2.2.2.2.2.2.2.2.2.2.2.2.2.2.2.2.2.2.2.2.1 c.2.2.2.2.2.2.2.2.2.2.2.2.2.2.2.2.2.2.2.2.2.2.2.2.2.2.2.2.2.2.2.2.2.2.2.1 c.2.2.2.2.2.2.2.2.2.2.2.2.2.2.2.2.2.2.2.2.2.2.2.2.2.2.2.2.2.2.2.2.2.2.2.2.1 c.2.2.2.2.2.2.2.2.2.2.2.2.2.2.2.2.2.2.2.2.2.2.2.2.2.2.2.2.2.2.2.2.2.2.2.2.2.1 c.2.2.2.2.2.2.2.2.2.2.2.2.2.2.2.2.2.2.2.2.2.2.2.2.2.2.2.2.2.2.2.2.2.2.2.2.2.2.1 c.2.2.2.2.2.2.2.2.2.2.2.2.2.2.2.2.2.2.2.2.2.2.2.2.2.2.2.2.2.2.2.2.2.2.2.2.2.2.2.1 c.2.2.2.2.2.2.2.2.2.2.2.2.2.2.2.2.2.2.2.2.2.2.2.2.2.2.2.2.2.2.2.2.2.2.2.2.2.2.2.2.1 c.2.2.2.2.2.2.2.2.2.2.2.2.2.2.2.2.2.2.2.2.2.2.2.2.2.2.2.2.2.2.2.2.2.2.2.2.2.2.2.2.2.1 c.2.2.2.2.2.2.2.2.2.2.2.2.2.2.2.2.2.2.2.2.2.2.2.2.2.2.2.2.2.2.2.2.2.2.2.2.2.2.2.2.2.2.1 c.2.2.2.2.2.2.2.2.2.2.2.2.2.2.2.2.2.2.2.2.2.2.2.2.2.2.2.2.2.2.2.2.2.2.2.2.2.2.2.2.2.2.2.1 c.2.2.2.2.2.2.2.2.2.2.2.2.2.2.2.2.2.2.2.2.2.2.2.2.2.2.2.2.2.2.2.2.2.2.2.2.2.2.2.2.2.2.2.2.1 c.2.2.2.2.2.2.2.2.2.2.2.2.2.2.2.2.2.2.2.2.2.2.2.2.2.2.2.2.2.2.2.2.2.2.2.2.2.2.2.2.2.2.2.2.2.1 c.2.2.2.2.2.2.2.2.2.2.2.2.2.2.2.2.2.2.2.2.2.2.2.2.2.2.2.2.2.2.2.2.2.2.2.2.2.2.2.2.2.2.2.2.2.2 p (fun v0 => nx v0) (fun v0 => ex (.inl v0)) (ex (.inr ()))
def w_FnStages_L3 (a3_1 : Bool) (a3_15 : Int) (a3_17 : Int) (a3_19 : Int) (a3_20 : Bool) (a3_21 : Int) (a3_22 : Int) (a3_25 : Int) (a3_26 : Int) (a3_27 : Int) (a3_31 : Int) (a3_33 : Int) (a3_35 : Int) (a3_36 : Bool) (a3_37 : Int) (a3_38 : Int) (a3_41 : Int) (a3_42 : Int) (a3_43 : Int) (a3_47 : Int) (a3_49 : Int) (a3_51 : Int) (a3_52 : Bool) (a3_53 : Int) (a3_54 : Int) (a3_57 : Int) (a3_58 : Int) (a3_59 : Int) (a3_60 : List Int) (a3_61 : List Int) (a3_62 : List Int) (a3_63 : List EndpointV) (a3_64 : List Int) (a3_65 : List DialedV) (a3_66 : List LoggedV) (a3_67 : List Int) (a3_68 : List Int) (a3_69 : List EndpointV) (a3_70 : List Int) (a3_71 : List DialedV) (a3_72 : List LoggedV) (a3_73 : List Int) (a3_74 : List Int) (a3_75 : List EndpointV) (a3_76 : List Int) (a3_77 : List DialedV) (a3_78 : List LoggedV) (n : Nat) (a3_11 : Int) : Option (Bool ⊕ Unit) := @loopF (Bool × Int × Int × Int × Bool × Int × Int × Int × Int × Int × Int × Int × Int × Bool × Int × Int × Int × Int × Int × Int × Int × Int × Bool × Int × Int × Int × Int × Int × (List Int) × (List Int) × (List Int) × (List EndpointV) × (List Int) × (List DialedV) × (List LoggedV) × (List Int) × (List Int) × (List EndpointV) × (List Int) × (List DialedV) × (List LoggedV) × (List Int) × (List Int) × (List EndpointV) × (List Int) × (List DialedV) × (List LoggedV)) Int (Bool ⊕ Unit) (w_FnStages_W3 _) (a3_1, a3_15, a3_17, a3_19, a3_20, a3_21, a3_22, a3_25, a3_26, a3_27, a3_31, a3_33, a3_35, a3_36, a3_37, a3_38, a3_41, a3_42, a3_43, a3_47, a3_49, a3_51, a3_52, a3_53, a3_54, a3_57, a3_58, a3_59, a3_60, a3_61, a3_62, a3_63, a3_64, a3_65, a3_66, a3_67, a3_68, a3_69, a3_70, a3_71, a3_72, a3_73, a3_74, a3_75, a3_76, a3_77, a3_78) n a3_11
def w_FnStages_E3 : Env Tryz.prog (0, 108) (bodyOf Tryz.f3) := ⟨[w_big_e, s_DrawEnterStage_e, i_EnterStage_e, i_LeaveRollout_e, i_IsWorld_e, s_IsWorld_e, i_IsRollout_e, i_OnNewCount_e, i_CountIn_e, i_HasVersion_e, w_left_e, i_BestCommon_e, w_within_e], [], [⟨[0, 1, 0, 1, 1, 1, 1, 1, 1, 1, 1], LoopE.of tabOk tabB mixed w_FnStages_E0 [0, 1, 0, 1, 1, 1, 1, 1, 1, 1, 1] (by kernel_rfl) _ _ w_FnStages_b0⟩, ⟨[0, 1, 0, 1, 1, 1, 1, 1, 1, 1, 1], LoopE.of tabOk tabB mixed w_FnStages_E1 [0, 1, 0, 1, 1, 1, 1, 1, 1, 1, 1] (by kernel_rfl) _ _ w_FnStages_b1⟩, ⟨[0, 1, 0, 1, 1, 1, 1, 1, 1, 1, 1], LoopE.of tabOk tabB mixed w_FnStages_E2 [0, 1, 0, 1, 1, 1, 1, 1, 1, 1, 1] (by kernel_rfl) _ _ w_FnStages_b2⟩], []⟩
theorem w_FnStages_b3 : BodyOk T w_FnStages_E3 [0, 1, 0, 1, 1, 1, 1, 1, 1, 1, 1] w_FnStages_S3 w_FnStages_W3 := fun R c p nx ex => by kernel_rfl
def w_FnStages_B4 {R : Type} (a4_1 : Bool) (a4_15 : Int) (a4_17 : Int) (a4_19 : Int) (a4_20 : Bool) (a4_21 : Int) (a4_22 : Int) (a4_25 : Int) (a4_26 : Int) (a4_27 : Int) (a4_31 : Int) (a4_33 : Int) (a4_35 : Int) (a4_36 : Bool) (a4_37 : Int) (a4_38 : Int) (a4_41 : Int) (a4_42 : Int) (a4_43 : Int) (a4_47 : Int) (a4_49 : Int) (a4_51 : Int) (a4_52 : Bool) (a4_53 : Int) (a4_54 : Int) (a4_57 : Int) (a4_58 : Int) (a4_59 : Int) (a4_60 : List Int) (a4_61 : List Int) (a4_62 : List Int) (a4_63 : List EndpointV) (a4_64 : List Int) (a4_65 : List DialedV) (a4_66 : List LoggedV) (a4_67 : List Int) (a4_68 : List Int) (a4_69 : List EndpointV) (a4_70 : List Int) (a4_71 : List DialedV) (a4_72 : List LoggedV) (a4_73 : List Int) (a4_74 : List Int) (a4_75 : List EndpointV) (a4_76 : List Int) (a4_77 : List DialedV) (a4_78 : List LoggedV) (a4_11 : Int) (nx : Int → Option R) (x0 : Bool → Option R) (x1 : Option R) : Option R :=
  fork (decide (a4_11 < ((a4_60.length : Nat) : Int))) (need (0 ≤ a4_11 ∧ a4_11 < ((a4_60.length : Nat) : Int)) (
  need (0 ≤ (a4_60.getD a4_11.toNat (dflt (.int .i64))) ∧ (a4_60.getD a4_11.toNat (dflt (.int .i64))) < ((a4_75.length : Nat) : Int)) (
  bnd (w_left ((a4_75.getD ((a4_60.getD a4_11.toNat (dflt (.int .i64))).toNat) (dflt (.st .endpoint))).Versions) ([a4_17] : List Int)) fun y53 =>
  bnd (i_BestCommon a4_61 y53) fun y54 => fork (decide (y54 > 0)) (x0 false) (nx (w64 (a4_11 + 1)))))) (x1)
def w_FnStages_S4 : LoopS := ⟨⟨[(2, false, [.val]), (3, false, [.bp 1040000 0]), (4, false, [.bp 1040001 0]), (5, false, [.bp 1040002 0]), (6, false, [.tr 1040003]), (7, false, [.val])], [(1040000, .box [.tr 1040004, .tr 1040005, .val, .tr 1040006, .val, .tr 1040007, .val, .val, .val, .val, .tr 1040008, .tr 1040009, .val, .val, .val]), (1040001, .box [.tr 1040010, .tr 1040011, .val, .tr 1040012, .val, .tr 1040013, .val, .val, .val, .val, .tr 1040014, .tr 1040015, .val, .val, .val]), (1040002, .box [.tr 1040016, .tr 1040017, .val, .tr 1040018, .val, .tr 1040019, .val, .val, .val, .val, .tr 1040020, .tr 1040021, .val, .val, .val]), (1040003, .tree), (1040004, .tree), (1040005, .tree), (1040006, .tree), (1040007, .tree), (1040008, .tree), (1040009, .tree), (1040010, .tree), (1040011, .tree), (1040012, .tree), (1040013, .tree), (1040014, .tree), (1040015, .tree), (1040016, .tree), (1040017, .tree), (1040018, .tree), (1040019, .tree), (1040020, .tree), (1040021, .tree)]⟩, [some 0, none, some 1, some 2, some 3, some 4, some 5, some 6, some 7, some 8, some 9, some 10, some 11, some 12, some 13, some 14, some 15, some 16, some 17, some 18, some 19, some 20, some 21, some 22, some 23, some 24, some 25, some 26, some 27, some 28, some 29, some 30, some 31, some 32, some 33, some 34, some 35, some 36, some 37, some 38, some 39, some 40, some 41, some 42, some 43, some 44, some 45, some 46], [.v (.bool), .v (.int .i64), .v (.int .i64), .v (.int .i64), .v (.bool), .v (.int .i64), .v (.int .i64), .v (.int .i64), .v (.int .i64), .v (.int .i64), .v (.int .i64), .v (.int .i64), .v (.int .i64), .v (.bool), .v (.int .i64), .v (.int .i64), .v (.int .i64), .v (.int .i64), .v (.int .i64), .v (.int .i64), .v (.int .i64), .v (.int .i64), .v (.bool), .v (.int .i64), .v (.int .i64), .v (.int .i64), .v (.int .i64), .v (.int .i64), .v (.sl (.int .i64)), .v (.sl (.int .i64)), .v (.sl (.int .i64)), .v (.sl (.st .endpoint)), .v (.sl (.int .i64)), .v (.sl (.st .dialed)), .v (.sl (.st .logged)), .v (.sl (.int .i64)), .v (.sl (.int .i64)), .v (.sl (.st .endpoint)), .v (.sl (.int .i64)), .v (.sl (.st .dialed)), .v (.sl (.st .logged)), .v (.sl (.int .i64)), .v (.sl (.int .i64)), .v (.sl (.st .endpoint)), .v (.sl (.int .i64)), .v (.sl (.st .dialed)), .v (.sl (.st .logged))], [.v (.int .i64)],
  [⟨.ret, ⟨[(2, false, [.val])], []⟩, [none], [.v (.bool)]⟩, ⟨.exit 0, ⟨[(2, false, [.val]), (3, false, [.bp 2041000 0]), (4, false, [.bp 2041001 0]), (6, false, [.tr 2041002])], [(2041000, .box [.tr 2041003, .tr 2041004, .val, .tr 2041005, .val, .tr 2041006, .val, .val, .val, .val, .tr 2041007, .tr 2041008, .val, .val, .val]), (2041001, .box [.tr 2041009, .tr 2041010, .val, .tr 2041011, .val, .tr 2041012, .val, .val, .val, .val, .tr 2041013, .tr 2041014, .val, .val, .val]), (2041002, .tree), (2041003, .tree), (2041004, .tree), (2041005, .tree), (2041006, .tree), (2041007, .tree), (2041008, .tree), (2041009, .tree), (2041010, .tree), (2041011, .tree), (2041012, .tree), (2041013, .tree), (2041014, .tree)]⟩, [some 0, some 1, some 2, some 3, some 4, some 5, some 6, some 7, some 8, some 9, some 10, some 11, some 12, some 13, some 14, some 15, some 16, some 17, some 18, some 28, some 29, some 30, some 31, some 32, some 33, some 34, some 35, some 36, some 37, some 38, some 39, some 40], []⟩]⟩
def w_FnStages_W4 : LoopB w_FnStages_S4 := fun R c p nx ex => w_FnStages_B4 c.1 c.2.1 c.2.2.1 c.2.2.2.1 c.2.2.2.2.1 c.2.2.2.2.2.1 c.2.2.2.2.2.2.1 c.2.2.2.2.2.2.2.1 c.2.2.2.2.2.2.2.2.1 c.2.2.2.2.2.2.2.2.2.1 c.2.2.2.2.2.2.2.2.2.2.1 c.2.2.2.2.2.2.2.2.2.2.2.1 c.2.2.2.2.2.2.2.2.2.2.2.2.1 c.2.2.2.2.2.2.2.2.2.2.2.2.2.1 c.2.2.2.2.2.2.2.2.2.2.2.2.2.2.1 c.2.2.2.2.2.2.2.2.2.2.2.2.2.2.2.1 c.2.2.2.2.2.2.2.2.2.2.2.2.2.2.2.2.1 c.2.2.2.2.2.2.2.2.2.2.2.2.2.2.2.2.2.1 c.2.2.2.2.2.2.2.2.2.2.2.2.2.2.2.2.2.2.1 c.2.2.2.2.2.2.2.2.2.2.2.2.2.2.2.2.2.2.2.1 c.2.2.2.2.2.2.2.2.2.2.2.2.2.2.2.2.2.2.2.2.1 c.2.2.2.2.2.2.2.2.2.2.2.2.2.2.2.2.2.2.2.2.2.1 c.2.2.2.2.2.2.2.2.2.2.2.2.2.2.2.2.2.2.2.2.2.2.1 c.2.2.2.2.2.2.2.2.2.2.2.2.2.2.2.2.2.2.2.2.2.2.2.1 c.2.2.2.2.2.2.2.2.2.2.2.2.2.2.2.2.2.2.2.2.2.2.2.2.1 c.2.2.2.2.2.2.2.2.2.2.2.2.2.2.2.2.2.2.2.2.2.2.2.2.2.1 c.2.2.2.2.2.2.2.2.2.2.2.2.2.2.2.2.2.2.2.2.2.2.2.2.2.2.1 c.2.2.2.2.2.2.2.2.2.2.2.2.2.2.2.2.2.2.2.2.2.2.2.2.2.2.2.1 c.2.2.2.2.2.2.2.2.2.2.2.2.2.2.2.2.2.2.2.2.2.2.2.2.2.2.2.2.1 c.2.2.2.2.2.2.2.2.2.2.2.2.2.2.2.2.2.2.2.2.2.2.2.2.2.2.2.2.2.1 c.2.2.2.2.2.2.2.2.2.2.2.2.2.2.2.2.2.2.2.2.2.2.2.2.2.2.2.2.2.2.1 c.2.2.2.2.2.2.2.2.2.2.2.2.2.2.2.2.2.2.2.2.2.2.2.2.2.2.2.2.2.2.2.1 c.2.2.2.2.2.2.2.2.2.2.2.2.2.2.2.2.2.2.2.2.2.2.2.2.2.2.2.2.2.2.2.2.1 c.2.2.2.2.2.2.2.2.2.2.2.2.2.2.2.2.2.2.2.2.2.2.2.2.2.2.2.2.2.2.2.2.2.1 c.2.2.2.2.2.2.2.2.2.2.2.2.2.2.2.2.2.2.2.2.2.2.2.2.2.2.2.2.2.2.2.2.2.2.1 c.2.2.2.2.2.2.2.2.2.2.2.2.2.2.2.2.2.2.2.2.2.2.2.2.2.2.2.2.2.2.2.2.2.2.2.1 c.2.2.2.2.2.2.2.2.2.2.2.2.2.2.2.2.2.2.2.2.2.2.2.2.2.2.2.2.2.2.2.2.2.2.2.2.1 c.2.2.2.2.2.2.2.2.2.2.2.2.2.2.2.2.2.2.2.2.2.2.2.2.2.2.2.2.2.2.2.2.2.2.2.2.2.1 c.2.2.2.2.2.2.2.2.2.2.2.2.2.2.2.2.2.2.2.2.2.2.2.2.2.2.2.2.2.2.2.2.2.2.2.2.2.2.1 c.2.2.2.2.2.2.2.2.2.2.2.2.2.2.2.2.2.2.2.2.2.2.2.2.2.2.2.2.2.2.2.2.2.2.2.2.2.2.2.1 c.2.2.2.2.2.2.2.2.2.2.2.2.2.2.2.2.2.2.2.2.2.2.2.2.2.2.2.2.2.2.2.2.2.2.2.2.2.2.2.2.1 c.2.2.2.2.2.2.2.2.2.2.2.2.2.2.2.2.2.2.2.2.2.2.2.2.2.2.2.2.2.2.2.2.2.2.2.2.2.2.2.2.2.1 c.2.2.2.2.2.2.2.2.2.2.2.2.2.2.2.2.2.2.2.2.2.2.2.2.2.2.2.2.2.2.2.2.2.2.2.2.2.2.2.2.2.2.1 c.2.2.2.2.2.2.2.2.2.2.2.2.2.2.2.2.2.2.2.2.2.2.2.2.2.2.2.2.2.2.2.2.2.2.2.2.2.2.2.2.2.2.2.1 c.2.2.2.2.2.2.2.2.2.2.2.2.2.2.2.2.2.2.2.2.2.2.2.2.2.2.2.2.2.2.2.2.2.2.2.2.2.2.2.2.2.2.2.2.1 c.2.2.2.2.2.2.2.2.2.2.2.2.2.2.2.2.2.2.2.2.2.2.2.2.2.2.2.2.2.2.2.2.2.2.2.2.2.2.2.2.2.2.2.2.2.1 c.2.2.2.2.2.2.2.2.2.2.2.2.2.2.2.2.2.2.2.2.2.2.2.2.2.2.2.2.2.2.2.2.2.2.2.2.2.2.2.2.2.2.2.2.2.2 p (fun v0 => nx v0) (fun v0 => ex (.inl v0)) (ex (.inr ()))
def w_FnStages_L4 (a4_1 : Bool) (a4_15 : Int) (a4_17 : Int) (a4_19 : Int) (a4_20 : Bool) (a4_21 : Int) (a4_22 : Int) (a4_25 : Int) (a4_26 : Int) (a4_27 : Int) (a4_31 : Int) (a4_33 : Int) (a4_35 : Int) (a4_36 : Bool) (a4_37 : Int) (a4_38 : Int) (a4_41 : Int) (a4_42 : Int) (a4_43 : Int) (a4_47 : Int) (a4_49 : Int) (a4_51 : Int) (a4_52 : Bool) (a4_53 : Int) (a4_54 : Int) (a4_57 : Int) (a4_58 : Int) (a4_59 : Int) (a4_60 : List Int) (a4_61 : List Int) (a4_62 : List Int) (a4_63 : List EndpointV) (a4_64 : List Int) (a4_65 : List DialedV) (a4_66 : List LoggedV) (a4_67 : List Int) (a4_68 : List Int) (a4_69 : List EndpointV) (a4_70 : List Int) (a4_71 : List DialedV) (a4_72 : List LoggedV) (a4_73 : List Int) (a4_74 : List Int) (a4_75 : List EndpointV) (a4_76 : List Int) (a4_77 : List DialedV) (a4_78 : List LoggedV) (n : Nat) (a4_11 : Int) : Option (Bool ⊕ Unit) := @loopF (Bool × Int × Int × Int × Bool × Int × Int × Int × Int × Int × Int × Int × Int × Bool × Int × Int × Int × Int × Int × Int × Int × Int × Bool × Int × Int × Int × Int × Int × (List Int) × (List Int) × (List Int) × (List EndpointV) × (List Int) × (List DialedV) × (List LoggedV) × (List Int) × (List Int) × (List EndpointV) × (List Int) × (List DialedV) × (List LoggedV) × (List Int) × (List Int) × (List EndpointV) × (List Int) × (List DialedV) × (List LoggedV)) Int (Bool ⊕ Unit) (w_FnStages_W4 _) (a4_1, a4_15, a4_17, a4_19, a4_20, a4_21, a4_22, a4_25, a4_26, a4_27, a4_31, a4_33, a4_35, a4_36, a4_37, a4_38, a4_41, a4_42, a4_43, a4_47, a4_49, a4_51, a4_52, a4_53, a4_54, a4_57, a4_58, a4_59, a4_60, a4_61, a4_62, a4_63, a4_64, a4_65, a4_66, a4_67, a4_68, a4_69, a4_70, a4_71, a4_72, a4_73, a4_74, a4_75, a4_76, a4_77, a4_78) n a4_11
def w_FnStages_E4 : Env Tryz.prog (0, 108) (bodyOf Tryz.f3) := ⟨[w_big_e, s_DrawEnterStage_e, i_EnterStage_e, i_LeaveRollout_e, i_IsWorld_e, s_IsWorld_e, i_IsRollout_e, i_OnNewCount_e, i_CountIn_e, i_HasVersion_e, w_left_e, i_BestCommon_e, w_within_e], [], [⟨[0, 1, 0, 1, 1, 1, 1, 1, 1, 1, 1], LoopE.of tabOk tabB mixed w_FnStages_E0 [0, 1, 0, 1, 1, 1, 1, 1, 1, 1, 1] (by kernel_rfl) _ _ w_FnStages_b0⟩, ⟨[0, 1, 0, 1, 1, 1, 1, 1, 1, 1, 1], LoopE.of tabOk tabB mixed w_FnStages_E1 [0, 1, 0, 1, 1, 1, 1, 1, 1, 1, 1] (by kernel_rfl) _ _ w_FnStages_b1⟩, ⟨[0, 1, 0, 1, 1, 1, 1, 1, 1, 1, 1], LoopE.of tabOk tabB mixed w_FnStages_E2 [0, 1, 0, 1, 1, 1, 1, 1, 1, 1, 1] (by kernel_rfl) _ _ w_FnStages_b2⟩, ⟨[0, 1, 0, 1, 1, 1, 1, 1, 1, 1, 1], LoopE.of tabOk tabB mixed w_FnStages_E3 [0, 1, 0, 1, 1, 1, 1, 1, 1, 1, 1] (by kernel_rfl) _ _ w_FnStages_b3⟩], []⟩
theorem w_FnStages_b4 : BodyOk T w_FnStages_E4 [0, 1, 0, 1, 1, 1, 1, 1, 1, 1, 1] w_FnStages_S4 w_FnStages_W4 := fun R c p nx ex => by kernel_rfl
def w_FnStages_B5 {R : Type} (a5_1 : Bool) (a5_15 : Int) (a5_17 : Int) (a5_19 : Int) (a5_20 : Bool) (a5_21 : Int) (a5_22 : Int) (a5_25 : Int) (a5_26 : Int) (a5_27 : Int) (a5_31 : Int) (a5_33 : Int) (a5_35 : Int) (a5_36 : Bool) (a5_37 : Int) (a5_38 : Int) (a5_41 : Int) (a5_42 : Int) (a5_43 : Int) (a5_47 : Int) (a5_49 : Int) (a5_51 : Int) (a5_52 : Bool) (a5_53 : Int) (a5_54 : Int) (a5_57 : Int) (a5_58 : Int) (a5_59 : Int) (a5_60 : List Int) (a5_61 : List Int) (a5_62 : List Int) (a5_63 : List EndpointV) (a5_64 : List Int) (a5_65 : List DialedV) (a5_66 : List LoggedV) (a5_67 : List Int) (a5_68 : List Int) (a5_69 : List EndpointV) (a5_70 : List Int) (a5_71 : List DialedV) (a5_72 : List LoggedV) (a5_73 : List Int) (a5_74 : List Int) (a5_75 : List EndpointV) (a5_76 : List Int) (a5_77 : List DialedV) (a5_78 : List LoggedV) (a5_11 : Int) (nx : Int → Option R) (x0 : Bool → Option R) (x1 : Option R) : Option R :=
  fork (decide (a5_11 < ((a5_60.length : Nat) : Int))) (need (0 ≤ a5_11 ∧ a5_11 < ((a5_60.length : Nat) : Int)) (
  need (0 ≤ (a5_60.getD a5_11.toNat (dflt (.int .i64))) ∧ (a5_60.getD a5_11.toNat (dflt (.int .i64))) < ((a5_75.length : Nat) : Int)) (
  bnd (w_left ((a5_75.getD ((a5_60.getD a5_11.toNat (dflt (.int .i64))).toNat) (dflt (.st .endpoint))).Versions) ([a5_17] : List Int)) fun y62 =>
  bnd (i_BestCommon a5_61 y62) fun y63 => fork (decide (y63 > 0)) (x0 false) (nx (w64 (a5_11 + 1)))))) (x1)
def w_FnStages_S5 : LoopS := ⟨⟨[(2, false, [.val]), (3, false, [.bp 1050000 0]), (4, false, [.bp 1050001 0]), (5, false, [.bp 1050002 0]), (6, false, [.tr 1050003]), (7, false, [.val])], [(1050000, .box [.tr 1050004, .tr 1050005, .val, .tr 1050006, .val, .tr 1050007, .val, .val, .val, .val, .tr 1050008, .tr 1050009, .val, .val, .val]), (1050001, .box [.tr 1050010, .tr 1050011, .val, .tr 1050012, .val, .tr 1050013, .val, .val, .val, .val, .tr 1050014, .tr 1050015, .val, .val, .val]), (1050002, .box [.tr 1050016, .tr 1050017, .val, .tr 1050018, .val, .tr 1050019, .val, .val, .val, .val, .tr 1050020, .tr 1050021, .val, .val, .val]), (1050003, .tree), (1050004, .tree), (1050005, .tree), (1050006, .tree), (1050007, .tree), (1050008, .tree), (1050009, .tree), (1050010, .tree), (1050011, .tree), (1050012, .tree), (1050013, .tree), (1050014, .tree), (1050015, .tree), (1050016, .tree), (1050017, .tree), (1050018, .tree), (1050019, .tree), (1050020, .tree), (1050021, .tree)]⟩, [some 0, none, some 1, some 2, some 3, some 4, some 5, some 6, some 7, some 8, some 9, some 10, some 11, some 12, some 13, some 14, some 15, some 16, some 17, some 18, some 19, some 20, some 21, some 22, some 23, some 24, some 25, some 26, some 27, some 28, some 29, some 30, some 31, some 32, some 33, some 34, some 35, some 36, some 37, some 38, some 39, some 40, some 41, some 42, some 43, some 44, some 45, some 46], [.v (.bool), .v (.int .i64), .v (.int .i64), .v (.int .i64), .v (.bool), .v (.int .i64), .v (.int .i64), .v (.int .i64), .v (.int .i64), .v (.int .i64), .v (.int .i64), .v (.int .i64), .v (.int .i64), .v (.bool), .v (.int .i64), .v (.int .i64), .v (.int .i64), .v (.int .i64), .v (.int .i64), .v (.int .i64), .v (.int .i64), .v (.int .i64), .v (.bool), .v (.int .i64), .v (.int .i64), .v (.int .i64), .v (.int .i64), .v (.int .i64), .v (.sl (.int .i64)), .v (.sl (.int .i64)), .v (.sl (.int .i64)), .v (.sl (.st .endpoint)), .v (.sl (.int .i64)), .v (.sl (.st .dialed)), .v (.sl (.st .logged)), .v (.sl (.int .i64)), .v (.sl (.int .i64)), .v (.sl (.st .endpoint)), .v (.sl (.int .i64)), .v (.sl (.st .dialed)), .v (.sl (.st .logged)), .v (.sl (.int .i64)), .v (.sl (.int .i64)), .v (.sl (.st .endpoint)), .v (.sl (.int .i64)), .v (.sl (.st .dialed)), .v (.sl (.st .logged))], [.v (.int .i64)],
  [⟨.ret, ⟨[(2, false, [.val])], []⟩, [none], [.v (.bool)]⟩, ⟨.exit 0, ⟨[(2, false, [.val]), (3, false, [.bp 2051000 0]), (4, false, [.bp 2051001 0]), (6, false, [.tr 2051002])], [(2051000, .box [.tr 2051003, .tr 2051004, .val, .tr 2051005, .val, .tr 2051006, .val, .val, .val, .val, .tr 2051007, .tr 2051008, .val, .val, .val]), (2051001, .box [.tr 2051009, .tr 2051010, .val, .tr 2051011, .val, .tr 2051012, .val, .val, .val, .val, .tr 2051013, .tr 2051014, .val, .val, .val]), (2051002, .tree), (2051003, .tree), (2051004, .tree), (2051005, .tree), (2051006, .tree), (2051007, .tree), (2051008, .tree), (2051009, .tree), (2051010, .tree), (2051011, .tree), (2051012, .tree), (2051013, .tree), (2051014, .tree)]⟩, [some 0, some 1, some 2, some 3, some 4, some 5, some 6, some 7, some 8, some 9, some 10, some 11, some 12, some 13, some 14, some 15, some 16, some 17, some 18, some 28, some 29, some 30, some 31, some 32, some 33, some 34, some 35, some 36, some 37, some 38, some 39, some 40], []⟩]⟩
def w_FnStages_W5 : LoopB w_FnStages_S5 := fun R c p nx ex => w_FnStages_B5 c.1 c.2.1 c.2.2.1 c.2.2.2.1 c.2.2.2.2.1 c.2.2.2.2.2.1 c.2.2.2.2.2.2.1 c.2.2.2.2.2.2.2.1 c.2.2.2.2.2.2.2.2.1 c.2.2.2.2.2.2.2.2.2.1 c.2.2.2.2.2.2.2.2.2.2.1 c.2.2.2.2.2.2.2.2.2.2.2.1 c.2.2.2.2.2.2.2.2.2.2.2.2.1 c.2.2.2.2.2.2.2.2.2.2.2.2.2.1 c.2.2.2.2.2.2.2.2.2.2.2.2.2.2.1 c.2.2.2.2.2.2.2.2.2.2.2.2.2.2.2.1 c.2.2.2.2.2.2.2.2.2.2.2.2.2.2.2.2.1 c.2.2.2.2.2.2.2.2.2.2.2.2.2.2.2.2.2.1 c.2.2.2.2.2.2.2.2.2.2.2.2.2.2.2.2.2.2.1 c.2.2.2.2.2.2.2.2.2.2.2.2.2.2.2.2.2.2.2.1 c.2.2.2.2.2.2.2.2.2.2.2.2.2.2.2.2.2.2.2.2.1 c.2.2.2.2.2.2.2.2.2.2.2.2.2.2.2.2.2.2.2.2.2.1 c.2.2.2.2.2.2.2.2.2.2.2.2.2.2.2.2.2.2.2.2.2.2.1 c.2.2.2.2.2.2.2.2.2.2.2.2.2.2.2.2.2.2.2.2.2.2.2.1 c.2.2.2.2.2.2.2.2.2.2.2.2.2.2.2.2.2.2.2.2.2.2.2.2.1 c.2.2.2.2.2.2.2.2.2.2.2.2.2.2.2.2.2.2.2.2.2.2.2.2.2.1 c.2.2.2.2.2.2.2.2.2.2.2.2.2.2.2.2.2.2.2.2.2.2.2.2.2.2.1 c.2.2.2.2.2.2.2.2.2.2.2.2.2.2.2.2.2.2.2.2.2.2.2.2.2.2.2.1 c.2.2.2.2.2.2.2.2.2.2.2.2.2.2.2.2.2.2.2.2.2.2.2.2.2.2.2.2.1 c.2.2.2.2.2.2.2.2.2.2.2.2.2.2.2.2.2.2.2.2.2.2.2.2.2.2.2.2.2.1 c.2.2.2.2.2.2.2.2.2.2.2.2.2.2.2.2.2.2.2.2.2.2.2.2.2.2.2.2.2.2.1 c.2.2.2.2.2.2.2.2.2.2.2.2.2.2.2.2.2.2.2.2.2.2.2.2.2.2.2.2.2.2.2.1 c.2.2.2.2.2.2.2.2.2.2.2.2.2.2.2.2.2.2.2.2.2.2.2.2.2.2.2.2.2.2.2.2.1 c.2.2.2.2.2.2.2.2.2.2.2.2.2.2.2.2.2.2.2.2.2.2.2.2.2.2.2.2.2.2.2.2.2.1 c.2.2.2.2.2.2.2.2.2.2.2.2.2.2.2.2.2.2.2.2.2.2.2.2.2.2.2.2.2.2.2.2.2.2.1 c.2.2.2.2.2.2.2.2.2.2.2.2.2.2.2.2.2.2.2.2.2.2.2.2.2.2.2.2.2.2.2.2.2.2.2.1 c.2.2.2.2.2.2.2.2.2.2.2.2.2.2.2.2.2.2.2.2.2.2.2.2.2.2.2.2.2.2.2.2.2.2.2.2.1 c.2.2.2.2.2.2.2.2.2.2.2.2.2.2.2.2.2.2.2.2.2.2.2.2.2.2.2.2.2.2.2.2.2.2.2.2.2.1 c.2.2.2.2.2.2.2.2.2.2.2.2.2.2.2.2.2.2.2.2.2.2.2.2.2.2.2.2.2.2.2.2.2.2.2.2.2.2.1 c.2.2.2.2.2.2.2.2.2.2.2.2.2.2.2.2.2.2.2.2.2.2.2.2.2.2.2.2.2.2.2.2.2.2.2.2.2.2.2.1 c.2.2.2.2.2.2.2.2.2.2.2.2.2.2.2.2.2.2.2.2.2.2.2.2.2.2.2.2.2.2.2.2.2.2.2.2.2.2.2.2.1 c.2.2.2.2.2.2.2.2.2.2.2.2.2.2.2.2.2.2.2.2.2.2.2.2.2.2.2.2.2.2.2.2.2.2.2.2.2.2.2.2.2.1 c.2.2.2.2.2.2.2.2.2.2.2.2.2.2.2.2.2.2.2.2.2.2.2.2.2.2.2.2.2.2.2.2.2.2.2.2.2.2.2.2.2.2.1 c.2.2.2.2.2.2.2.2.2.2.2.2.2.2.2.2.2.2.2.2.2.2.2.2.2.2.2.2.2.2.2.2.2.2.2.2.2.2.2.2.2.2.2.1 c.2.2.2.2.2.2.2.2.2.2.2.2.2.2.2.2.2.2.2.2.2.2.2.2.2.2.2.2.2.2.2.2.2.2.2.2.2.2.2.2.2.2.2.2.1 c.2.2.2.2.2.2.2.2.2.2.2.2.2.2.2.2.2.2.2.2.2.2.2.2.2.2.2.2.2.2.2.2.2.2.2.2.2.2.2.2.2.2.2.2.2.1 c.2.2.2.2.2.2.2.2.2.2.2.2.2.2.2.2.2.2.2.2.2.2.2.2.2.2.2.2.2.2.2.2.2.2.2.2.2.2.2.2.2.2.2.2.2.2 p (fun v0 => nx v0) (fun v0 => ex (.inl v0)) (ex (.inr ()))
def w_FnStages_L5 (a5_1 : Bool) (a5_15 : Int) (a5_17 : Int) (a5_19 : Int) (a5_20 : Bool) (a5_21 : Int) (a5_22 : Int) (a5_25 : Int) (a5_26 : Int) (a5_27 : Int) (a5_31 : Int) (a5_33 : Int) (a5_35 : Int) (a5_36 : Bool) (a5_37 : Int) (a5_38 : Int) (a5_41 : Int) (a5_42 : Int) (a5_43 : Int) (a5_47 : Int) (a5_49 : Int) (a5_51 : Int) (a5_52 : Bool) (a5_53 : Int) (a5_54 : Int) (a5_57 : Int) (a5_58 : Int) (a5_59 : Int) (a5_60 : List Int) (a5_61 : List Int) (a5_62 : List Int) (a5_63 : List EndpointV) (a5_64 : List Int) (a5_65 : List DialedV) (a5_66 : List LoggedV) (a5_67 : List Int) (a5_68 : List Int) (a5_69 : List EndpointV) (a5_70 : List Int) (a5_71 : List DialedV) (a5_72 : List LoggedV) (a5_73 : List Int) (a5_74 : List Int) (a5_75 : List EndpointV) (a5_76 : List Int) (a5_77 : List DialedV) (a5_78 : List LoggedV) (n : Nat) (a5_11 : Int) : Option (Bool ⊕ Unit) := @loopF (Bool × Int × Int × Int × Bool × Int × Int × Int × Int × Int × Int × Int × Int × Bool × Int × Int × Int × Int × Int × Int × Int × Int × Bool × Int × Int × Int × Int × Int × (List Int) × (List Int) × (List Int) × (List EndpointV) × (List Int) × (List DialedV) × (List LoggedV) × (List Int) × (List Int) × (List EndpointV) × (List Int) × (List DialedV) × (List LoggedV) × (List Int) × (List Int) × (List EndpointV) × (List Int) × (List DialedV) × (List LoggedV)) Int (Bool ⊕ Unit) (w_FnStages_W5 _) (a5_1, a5_15, a5_17, a5_19, a5_20, a5_21, a5_22, a5_25, a5_26, a5_27, a5_31, a5_33, a5_35, a5_36, a5_37, a5_38, a5_41, a5_42, a5_43, a5_47, a5_49, a5_51, a5_52, a5_53, a5_54, a5_57, a5_58, a5_59, a5_60, a5_61, a5_62, a5_63, a5_64, a5_65, a5_66, a5_67, a5_68, a5_69, a5_70, a5_71, a5_72, a5_73, a5_74, a5_75, a5_76, a5_77, a5_78) n a5_11
def w_FnStages_E5 : Env Tryz.prog (0, 108) (bodyOf Tryz.f3) := ⟨[w_big_e, s_DrawEnterStage_e, i_EnterStage_e, i_LeaveRollout_e, i_IsWorld_e, s_IsWorld_e, i_IsRollout_e, i_OnNewCount_e, i_CountIn_e, i_HasVersion_e, w_left_e, i_BestCommon_e, w_within_e], [], [⟨[0, 1, 0, 1, 1, 1, 1, 1, 1, 1, 1], LoopE.of tabOk tabB mixed w_FnStages_E0 [0, 1, 0, 1, 1, 1, 1, 1, 1, 1, 1] (by kernel_rfl) _ _ w_FnStages_b0⟩, ⟨[0, 1, 0, 1, 1, 1, 1, 1, 1, 1, 1], LoopE.of tabOk tabB mixed w_FnStages_E1 [0, 1, 0, 1, 1, 1, 1, 1, 1, 1, 1] (by kernel_rfl) _ _ w_FnStages_b1⟩, ⟨[0, 1, 0, 1, 1, 1, 1, 1, 1, 1, 1], LoopE.of tabOk tabB mixed w_FnStages_E2 [0, 1, 0, 1, 1, 1, 1, 1, 1, 1, 1] (by kernel_rfl) _ _ w_FnStages_b2⟩, ⟨[0, 1, 0, 1, 1, 1, 1, 1, 1, 1, 1], LoopE.of tabOk tabB mixed w_FnStages_E3 [0, 1, 0, 1, 1, 1, 1, 1, 1, 1, 1] (by kernel_rfl) _ _ w_FnStages_b3⟩, ⟨[0, 1, 0, 1, 1, 1, 1, 1, 1, 1, 1], LoopE.of tabOk tabB mixed w_FnStages_E4 [0, 1, 0, 1, 1, 1, 1, 1, 1, 1, 1] (by kernel_rfl) _ _ w_FnStages_b4⟩], []⟩
theorem w_FnStages_b5 : BodyOk T w_FnStages_E5 [0, 1, 0, 1, 1, 1, 1, 1, 1, 1, 1] w_FnStages_S5 w_FnStages_W5 := fun R c p nx ex => by kernel_rfl
def w_FnStages (code : List Int) : Option Bool :=
  bnd (w_big code) fun y1 => fork y1 (some true) (bnd (s_DrawEnterStage code) fun y2 => bnd (i_EnterStage y2) fun y3 => bnd (i_LeaveRollout y2) fun y4 =>
  bnd (i_IsWorld y2) fun y5 => bnd (s_IsWorld y2) fun y6 => fork (!(y5 == y6)) (some false) (bnd (i_IsWorld y2) fun y7 => fork y7 (bnd (i_IsWorld y3) fun y8 =>
  fork (!y8) (some false) (bnd (i_IsWorld y4) fun y9 => fork (!y9) (some false) (bnd (i_IsRollout y2.Rollout) fun y10 => fork y10 (fork (!y2.Rollout.Off) (
  bnd (i_OnNewCount y3) fun y11 => bnd (i_CountIn y2.Rollout ((y2.Ends.length : Nat) : Int)) fun y12 => fork (y11 != y12) (some false) (
  bnd (i_HasVersion y4 y2.Rollout.Version) fun y13 =>
  bnd (w_FnStages_L0 false y2.Key y2.Rollout.Version y2.Rollout.At y2.Rollout.Off y2.Least y2.Percent y2.Now y2.Hurt y2.Reached y3.Key y3.Rollout.Version y3.Rollout.At y3.Rollout.Off y3.Least y3.Percent y3.Now y3.Hurt y3.Reached y4.Key y4.Rollout.Version y4.Rollout.At y4.Rollout.Off y4.Least y4.Percent y4.Now y4.Hurt y4.Reached y13 y2.Server y2.Tags y2.Ends y2.Rollout.Stages y2.Stage y2.Log y3.Server y3.Tags y3.Ends y3.Rollout.Stages y3.Stage y3.Log y4.Server y4.Tags y4.Ends y4.Rollout.Stages y4.Stage y4.Log big 0)
  (sum2 (fun y16 => some y16) (fun _ => bnd (i_HasVersion y2 y2.Rollout.Version) fun y18 => bnd (w_within y13 y18) fun y19 => fork y19 (
  bnd (i_HasVersion y3 y2.Rollout.Version) fun y20 => bnd (i_HasVersion y2 y2.Rollout.Version) fun y21 =>
  some (decide (((y20.length : Nat) : Int) ≥ ((y21.length : Nat) : Int)))) (some false))))) (bnd (i_HasVersion y4 y2.Rollout.Version) fun y22 =>
  bnd (w_FnStages_L1 false y2.Key y2.Rollout.Version y2.Rollout.At y2.Rollout.Off y2.Least y2.Percent y2.Now y2.Hurt y2.Reached y3.Key y3.Rollout.Version y3.Rollout.At y3.Rollout.Off y3.Least y3.Percent y3.Now y3.Hurt y3.Reached y4.Key y4.Rollout.Version y4.Rollout.At y4.Rollout.Off y4.Least y4.Percent y4.Now y4.Hurt y4.Reached y22 y2.Server y2.Tags y2.Ends y2.Rollout.Stages y2.Stage y2.Log y3.Server y3.Tags y3.Ends y3.Rollout.Stages y3.Stage y3.Log y4.Server y4.Tags y4.Ends y4.Rollout.Stages y4.Stage y4.Log big 0)
  (sum2 (fun y25 => some y25) (fun _ => bnd (i_HasVersion y2 y2.Rollout.Version) fun y27 => bnd (w_within y22 y27) fun y28 => fork y28 (
  bnd (i_HasVersion y3 y2.Rollout.Version) fun y29 => bnd (i_HasVersion y2 y2.Rollout.Version) fun y30 =>
  some (decide (((y29.length : Nat) : Int) ≥ ((y30.length : Nat) : Int)))) (some false))))) (bnd (i_HasVersion y4 y2.Rollout.Version) fun y31 =>
  bnd (w_FnStages_L2 false y2.Key y2.Rollout.Version y2.Rollout.At y2.Rollout.Off y2.Least y2.Percent y2.Now y2.Hurt y2.Reached y3.Key y3.Rollout.Version y3.Rollout.At y3.Rollout.Off y3.Least y3.Percent y3.Now y3.Hurt y3.Reached y4.Key y4.Rollout.Version y4.Rollout.At y4.Rollout.Off y4.Least y4.Percent y4.Now y4.Hurt y4.Reached y31 y2.Server y2.Tags y2.Ends y2.Rollout.Stages y2.Stage y2.Log y3.Server y3.Tags y3.Ends y3.Rollout.Stages y3.Stage y3.Log y4.Server y4.Tags y4.Ends y4.Rollout.Stages y4.Stage y4.Log big 0)
  (sum2 (fun y34 => some y34) (fun _ => bnd (i_HasVersion y2 y2.Rollout.Version) fun y36 => bnd (w_within y31 y36) fun y37 => fork y37 (
  bnd (i_HasVersion y3 y2.Rollout.Version) fun y38 => bnd (i_HasVersion y2 y2.Rollout.Version) fun y39 =>
  some (decide (((y38.length : Nat) : Int) ≥ ((y39.length : Nat) : Int)))) (some false))))))) (bnd (i_IsRollout y2.Rollout) fun y40 => fork y40 (
  fork (!y2.Rollout.Off) (bnd (i_OnNewCount y3) fun y41 => bnd (i_CountIn y2.Rollout ((y2.Ends.length : Nat) : Int)) fun y42 => fork (y41 != y42) (some false) (
  bnd (i_HasVersion y4 y2.Rollout.Version) fun y43 =>
  bnd (w_FnStages_L3 false y2.Key y2.Rollout.Version y2.Rollout.At y2.Rollout.Off y2.Least y2.Percent y2.Now y2.Hurt y2.Reached y3.Key y3.Rollout.Version y3.Rollout.At y3.Rollout.Off y3.Least y3.Percent y3.Now y3.Hurt y3.Reached y4.Key y4.Rollout.Version y4.Rollout.At y4.Rollout.Off y4.Least y4.Percent y4.Now y4.Hurt y4.Reached y43 y2.Server y2.Tags y2.Ends y2.Rollout.Stages y2.Stage y2.Log y3.Server y3.Tags y3.Ends y3.Rollout.Stages y3.Stage y3.Log y4.Server y4.Tags y4.Ends y4.Rollout.Stages y4.Stage y4.Log big 0)
  (sum2 (fun y46 => some y46) (fun _ => bnd (i_HasVersion y2 y2.Rollout.Version) fun y48 => bnd (w_within y43 y48) fun y49 => fork y49 (
  bnd (i_HasVersion y3 y2.Rollout.Version) fun y50 => bnd (i_HasVersion y2 y2.Rollout.Version) fun y51 =>
  some (decide (((y50.length : Nat) : Int) ≥ ((y51.length : Nat) : Int)))) (some false))))) (bnd (i_HasVersion y4 y2.Rollout.Version) fun y52 =>
  bnd (w_FnStages_L4 false y2.Key y2.Rollout.Version y2.Rollout.At y2.Rollout.Off y2.Least y2.Percent y2.Now y2.Hurt y2.Reached y3.Key y3.Rollout.Version y3.Rollout.At y3.Rollout.Off y3.Least y3.Percent y3.Now y3.Hurt y3.Reached y4.Key y4.Rollout.Version y4.Rollout.At y4.Rollout.Off y4.Least y4.Percent y4.Now y4.Hurt y4.Reached y52 y2.Server y2.Tags y2.Ends y2.Rollout.Stages y2.Stage y2.Log y3.Server y3.Tags y3.Ends y3.Rollout.Stages y3.Stage y3.Log y4.Server y4.Tags y4.Ends y4.Rollout.Stages y4.Stage y4.Log big 0)
  (sum2 (fun y55 => some y55) (fun _ => bnd (i_HasVersion y2 y2.Rollout.Version) fun y57 => bnd (w_within y52 y57) fun y58 => fork y58 (
  bnd (i_HasVersion y3 y2.Rollout.Version) fun y59 => bnd (i_HasVersion y2 y2.Rollout.Version) fun y60 =>
  some (decide (((y59.length : Nat) : Int) ≥ ((y60.length : Nat) : Int)))) (some false))))) (bnd (i_HasVersion y4 y2.Rollout.Version) fun y61 =>
  bnd (w_FnStages_L5 false y2.Key y2.Rollout.Version y2.Rollout.At y2.Rollout.Off y2.Least y2.Percent y2.Now y2.Hurt y2.Reached y3.Key y3.Rollout.Version y3.Rollout.At y3.Rollout.Off y3.Least y3.Percent y3.Now y3.Hurt y3.Reached y4.Key y4.Rollout.Version y4.Rollout.At y4.Rollout.Off y4.Least y4.Percent y4.Now y4.Hurt y4.Reached y61 y2.Server y2.Tags y2.Ends y2.Rollout.Stages y2.Stage y2.Log y3.Server y3.Tags y3.Ends y3.Rollout.Stages y3.Stage y3.Log y4.Server y4.Tags y4.Ends y4.Rollout.Stages y4.Stage y4.Log big 0)
  (sum2 (fun y64 => some y64) (fun _ => bnd (i_HasVersion y2 y2.Rollout.Version) fun y66 => bnd (w_within y61 y66) fun y67 => fork y67 (
  bnd (i_HasVersion y3 y2.Rollout.Version) fun y68 => bnd (i_HasVersion y2 y2.Rollout.Version) fun y69 =>
  some (decide (((y68.length : Nat) : Int) ≥ ((y69.length : Nat) : Int)))) (some false)))))))
theorem w_FnStages_c : FnC Tryz.prog 3 [.v (.sl (.int .u8))] [.bool] (fun x => w_FnStages x) :=
  FnC.of (body := bodyOf Tryz.f3) (N := (0, 108)) tabOk tabB mixed Tryz.func3 (by kernel_rfl) (by kernel_rfl) (fun _ => by kernel_rfl) ⟨[w_big_e, s_DrawEnterStage_e, i_EnterStage_e, i_LeaveRollout_e, i_IsWorld_e, s_IsWorld_e, i_IsRollout_e, i_OnNewCount_e, i_CountIn_e, i_HasVersion_e, w_left_e, i_BestCommon_e, w_within_e], [], [⟨[0, 1, 0, 1, 1, 1, 1, 1, 1, 1, 1], LoopE.of tabOk tabB mixed w_FnStages_E0 [0, 1, 0, 1, 1, 1, 1, 1, 1, 1, 1] (by kernel_rfl) _ _ w_FnStages_b0⟩, ⟨[0, 1, 0, 1, 1, 1, 1, 1, 1, 1, 1], LoopE.of tabOk tabB mixed w_FnStages_E1 [0, 1, 0, 1, 1, 1, 1, 1, 1, 1, 1] (by kernel_rfl) _ _ w_FnStages_b1⟩, ⟨[0, 1, 0, 1, 1, 1, 1, 1, 1, 1, 1], LoopE.of tabOk tabB mixed w_FnStages_E2 [0, 1, 0, 1, 1, 1, 1, 1, 1, 1, 1] (by kernel_rfl) _ _ w_FnStages_b2⟩, ⟨[0, 1, 0, 1, 1, 1, 1, 1, 1, 1, 1], LoopE.of tabOk tabB mixed w_FnStages_E3 [0, 1, 0, 1, 1, 1, 1, 1, 1, 1, 1] (by kernel_rfl) _ _ w_FnStages_b3⟩, ⟨[0, 1, 0, 1, 1, 1, 1, 1, 1, 1, 1], LoopE.of tabOk tabB mixed w_FnStages_E4 [0, 1, 0, 1, 1, 1, 1, 1, 1, 1, 1] (by kernel_rfl) _ _ w_FnStages_b4⟩, ⟨[0, 1, 0, 1, 1, 1, 1, 1, 1, 1, 1], LoopE.of tabOk tabB mixed w_FnStages_E5 [0, 1, 0, 1, 1, 1, 1, 1, 1, 1, 1] (by kernel_rfl) _ _ w_FnStages_b5⟩], []⟩ (fun _ => by kernel_rfl) (fun x => by kernel_rfl)
def w_FnStages_e : Entry Tryz.prog := .of w_FnStages_c


end
end Go.Pi

/- The plain laws' words: loops over lists, tests, draws. -/
namespace Go.Pi

@[simp] theorem fork_true {α : Type} (x y : Option α) : fork true x y = x := rfl
@[simp] theorem fork_false {α : Type} (x y : Option α) : fork false x y = y := rfl
theorem fork_eq {α : Type} (b : Bool) (x y : Option α) : fork b x y = if b then x else y := by cases b <;> rfl
@[simp] theorem bnd_some' {α β : Type} (v : α) (k : α → Option β) : bnd (some v) k = k v := rfl
@[simp] theorem need_True {α : Type} (x : Option α) : need True x = x := by simp [need, pb]
theorem need_of {α : Type} {p : Prop} (h : p) (x : Option α) : need p x = x := by simp [need, pb, h]
@[simp] theorem sum2_inl' {α β γ : Type} (f : α → Option γ) (g : β → Option γ) (x : α) : sum2 f g (.inl x) = f x := rfl
@[simp] theorem sum2_inr' {α β γ : Type} (f : α → Option γ) (g : β → Option γ) (x : β) : sum2 f g (.inr x) = g x := rfl

theorem w64_id {x : Int} (h : -9223372036854775808 ≤ x ∧ x ≤ 9223372036854775807) : w64 x = x := by
  show IntKind.i64.wrap x = x
  rw [IntKind.wrap_i64]; omega
theorem w64_nat {n : Nat} (h : n ≤ 9223372036854775807) : w64 (n : Int) = (n : Int) := w64_id (by omega)
theorem w64_succ {n : Nat} (h : n < 9223372036854775807) : w64 ((n : Int) + 1) = ((n + 1 : Nat) : Int) := by rw [w64_id (by omega)]; omega

theorem w64_range (x : Int) : -9223372036854775808 ≤ w64 x ∧ w64 x ≤ 9223372036854775807 := by
  show _ ≤ IntKind.i64.wrap x ∧ IntKind.i64.wrap x ≤ _
  rw [IntKind.wrap_i64]; omega

/-- What a loop over a list comes to. -/
def goL {A S X : Type} (g : Nat → A → S → S ⊕ X) (fin : S → X) : Nat → List A → S → X
  | _, [], s => fin s
  | i, a :: aq, s => match g i a s with
    | .inl s' => goL g fin (i + 1) aq s'
    | .inr x => x

theorem loopL {A C P X S : Type} {B : C → P → (P → Option X) → (X → Option X) → Option X} {c : C} {xs : List A} (st : Nat → S → P) (g : Nat → A → S → S ⊕ X) (fin : S → X) (I : Nat → S → Prop)
    (hs : ∀ (i : Nat) (s : S) (hi : i < xs.length), I i s → (∀ nx ex, B c (st i s) nx ex = (match g i xs[i] s with | .inl s' => nx (st (i + 1) s') | .inr x => ex x)) ∧ ∀ s', g i xs[i] s = .inl s' → I (i + 1) s')
    (he : ∀ s nx ex, I xs.length s → B c (st xs.length s) nx ex = ex (fin s)) :
    ∀ {n : Nat} {s : S} {p0 : P}, p0 = st 0 s → xs.length < n → I 0 s → loopF B c n p0 = some (goL g fin 0 xs s) := by
  have key : ∀ (ys : List A) (i n : Nat) (s : S), xs.drop i = ys → i + ys.length = xs.length → ys.length < n → I i s → loopF B c n (st i s) = some (goL g fin i ys s) := by
    intro ys
    induction ys with
    | nil =>
      intro i n s hd hl hn hI
      cases n with
      | zero => simp at hn
      | succ n =>
        simp at hl
        subst hl
        show B c (st xs.length s) (loopF B c n) some = _
        rw [he _ _ _ hI]; rfl
    | cons a ys ih =>
      intro i n s hd hl hn hI
      cases n with
      | zero => simp at hn
      | succ n =>
        simp at hl hn
        have hi : i < xs.length := by omega
        have ha : xs[i] = a := by
          have := congrArg (·[0]?) hd
          simp only [List.getElem?_drop, Nat.add_zero, List.getElem?_cons_zero] at this
          rw [List.getElem?_eq_getElem hi] at this
          exact Option.some.inj this
        obtain ⟨h1, h2⟩ := hs i s hi hI
        rw [ha] at h1 h2
        show B c (st i s) (loopF B c n) some = _
        rw [h1]
        unfold goL
        cases hg : g i a s with
        | inl s' =>
          simp only
          refine ih (i + 1) n s' ?_ (by omega) hn (h2 s' hg)
          rw [← List.drop_drop, hd]; rfl
        | inr x => rfl
  intro n s p0 hp hn hI
  rw [hp]
  exact key xs 0 n s rfl (by omega) hn hI

theorem big_lt {n : Nat} (h : n ≤ 4611686018427387904) : n < big := by unfold big; omega

/-- All elements pass a test that may see their place. -/
def allI {A : Type} (p : Nat → A → Bool) : Nat → List A → Bool
  | _, [] => true
  | i, a :: aq => p i a && allI p (i + 1) aq
theorem allI_iff {A : Type} {p : Nat → A → Bool} : ∀ {xs : List A} {i : Nat}, allI p i xs = true ↔ ∀ j a, xs[j]? = some a → p (i + j) a = true
  | [], i => by simp [allI]
  | x :: xs, i => by
    rw [allI, Bool.and_eq_true, allI_iff]
    constructor
    · rintro ⟨h1, h2⟩ j a hj
      match j with
      | 0 => simp at hj; subst hj; exact h1
      | j + 1 => have := h2 j a (by simpa using hj); rwa [show i + 1 + j = i + (j + 1) by omega] at this
    · intro h
      refine ⟨h 0 x rfl, fun j a hj => ?_⟩
      have := h (j + 1) a (by simpa using hj)
      rwa [show i + (j + 1) = i + 1 + j by omega] at this
theorem goL_all {A X : Type} {p : Nat → A → Bool} {g : Nat → A → Unit → Unit ⊕ X} {fin : Unit → X} {x0 : X} (hg : ∀ i a, g i a () = if p i a then .inl () else .inr x0) : ∀ {xs : List A} {i : Nat}, goL g fin i xs () = if allI p i xs then fin () else x0
  | [], i => rfl
  | a :: aq, i => by
    unfold goL allI
    rw [hg]
    cases p i a with
    | true => simp only [if_true, Bool.true_and]; exact goL_all hg
    | false => simp

/-- Some element passes a test. -/
theorem goL_any {A X : Type} {p : A → Bool} {g : Nat → A → Unit → Unit ⊕ X} {fin : Unit → X} {x0 : X} (hg : ∀ i a, g i a () = if p a then .inr x0 else .inl ()) : ∀ {xs : List A} {i : Nat}, goL g fin i xs () = if xs.any p then x0 else fin ()
  | [], i => rfl
  | a :: aq, i => by
    unfold goL
    rw [hg, List.any_cons]
    cases p a with
    | true => simp
    | false => simp only [Bool.false_eq_true, if_false, Bool.false_or]; exact goL_any hg

/-- What passes a test is put behind. -/
theorem goL_filter {A B X : Type} {p : A → Bool} {f : A → B} {g : Nat → A → List B → List B ⊕ X} {fin : List B → X} (hg : ∀ i a s, g i a s = .inl (if p a then s ++ [f a] else s)) : ∀ {xs : List A} {i : Nat} {s : List B}, goL g fin i xs s = fin (s ++ (xs.filter p).map f)
  | [], i, s => by simp [goL]
  | a :: aq, i, s => by
    unfold goL
    rw [hg]
    simp only
    rw [goL_filter hg, List.filter_cons]
    cases p a <;> simp
theorem goL_map {A B X : Type} {f : A → B} {g : Nat → A → List B → List B ⊕ X} {fin : List B → X} (hg : ∀ i a s, g i a s = .inl (s ++ [f a])) : ∀ {xs : List A} {i : Nat} {s : List B}, goL g fin i xs s = fin (s ++ xs.map f)
  | [], i, s => by simp [goL]
  | a :: aq, i, s => by
    unfold goL
    rw [hg]
    simp only
    rw [goL_map hg]; simp
/-- The places of what passes. -/
def idxs {A : Type} (p : Nat → A → Bool) : Nat → List A → List Nat
  | _, [] => []
  | i, a :: aq => if p i a then i :: idxs p (i + 1) aq else idxs p (i + 1) aq
theorem goL_idxs {A X : Type} {p : Nat → A → Bool} {g : Nat → A → List Int → List Int ⊕ X} {fin : List Int → X} (hg : ∀ i a s, g i a s = .inl (if p i a then s ++ [(i : Int)] else s)) : ∀ {xs : List A} {i : Nat} {s : List Int}, goL g fin i xs s = fin (s ++ (idxs p i xs).map (Nat.cast))
  | [], i, s => by simp [goL, idxs]
  | a :: aq, i, s => by
    unfold goL idxs
    rw [hg]
    simp only
    rw [goL_idxs hg]
    cases p i a <;> simp
theorem idxs_mem {A : Type} {p : Nat → A → Bool} : ∀ {xs : List A} {i k : Nat}, k ∈ idxs p i xs ↔ ∃ j a, xs[j]? = some a ∧ k = i + j ∧ p k a = true
  | [], i, k => by simp [idxs]
  | x :: xs, i, k => by
    have step : (∃ j a, (x :: xs)[j]? = some a ∧ k = i + j ∧ p k a = true) ↔ (k = i ∧ p i x = true) ∨ ∃ j a, xs[j]? = some a ∧ k = i + 1 + j ∧ p k a = true := by
      constructor
      · rintro ⟨j, a, h1, h2, h3⟩
        match j with
        | 0 => simp at h1; subst h1; rw [h2, Nat.add_zero] at h3; exact .inl ⟨h2, h3⟩
        | j + 1 => exact .inr ⟨j, a, by simpa using h1, by omega, h3⟩
      · rintro (⟨h1, h2⟩ | ⟨j, a, h1, h2, h3⟩)
        · exact ⟨0, x, rfl, h1, by rw [h1]; exact h2⟩
        · exact ⟨j + 1, a, by simpa using h1, by omega, h3⟩
    rw [step, idxs]
    split
    · rename_i hp
      rw [List.mem_cons, idxs_mem]
      constructor
      · rintro (h | h)
        · exact .inl ⟨h, hp⟩
        · exact .inr h
      · rintro (⟨h, _⟩ | h)
        · exact .inl h
        · exact .inr h
    · rename_i hp
      rw [idxs_mem]
      constructor
      · exact .inr
      · rintro (⟨_, h⟩ | h)
        · exact absurd h hp
        · exact h
theorem goL_count {A X : Type} {p : Nat → A → Bool} {g : Nat → A → Int → Int ⊕ X} {fin : Int → X} (hg : ∀ i a s, g i a s = .inl (if p i a then s + 1 else s)) : ∀ {xs : List A} {i : Nat} {s : Int}, goL g fin i xs s = fin (s + (idxs p i xs).length)
  | [], i, s => by simp [goL, idxs]
  | a :: aq, i, s => by
    unfold goL idxs
    rw [hg]
    simp only
    rw [goL_count hg]
    cases p i a with
    | true => simp only [if_true, List.length_cons]; congr 1; omega
    | false => simp

/-- A computation ends, and its answer is aq told. -/
def Tot {α : Type} (m : Option α) (Q : α → Prop) : Prop := ∃ r, m = some r ∧ Q r
theorem Tot.some {α : Type} {x : α} {Q : α → Prop} (h : Q x) : Tot (some x) Q := ⟨x, rfl, h⟩
theorem Tot.need {α : Type} {p : Prop} {x : Option α} {Q : α → Prop} (hp : p) (h : Tot x Q) : Tot (need p x) Q := by rwa [need_of hp]
theorem Tot.fork {α : Type} {b : Bool} {x y : Option α} {Q : α → Prop} (h1 : b = true → Tot x Q) (h2 : b = false → Tot y Q) : Tot (fork b x y) Q := by
  cases b
  · exact h2 rfl
  · exact h1 rfl
theorem Tot.bnd {α β : Type} {m : Option α} {k : α → Option β} {P : α → Prop} {Q : β → Prop} (h : Tot m P) (hk : ∀ v, P v → Tot (k v) Q) : Tot (bnd m k) Q := by
  obtain ⟨v, rfl, hv⟩ := h
  exact hk v hv
theorem Tot.mono {α : Type} {m : Option α} {P Q : α → Prop} (h : Tot m P) (hk : ∀ v, P v → Q v) : Tot m Q := by
  obtain ⟨v, rfl, hv⟩ := h
  exact ⟨v, rfl, hk v hv⟩
theorem Tot.eq {α : Type} {m : Option α} {v : α} {Q : α → Prop} (h : m = Option.some v) (hq : Q v) : Tot m Q := ⟨v, h, hq⟩

/-- A loop that counts down, in a draw. -/
theorem loopDown {C P X S : Type} {B : C → P → (P → Option X) → (X → Option X) → Option X} {c : C} (st : Nat → S → P) (I : Nat → S → Prop) (Q : X → Prop)
    (hs : ∀ (k : Nat) (s : S), I (k + 1) s → ∃ s', I k s' ∧ ∀ nx ex, B c (st (k + 1) s) nx ex = nx (st k s'))
    (he : ∀ s, I 0 s → ∃ x, Q x ∧ ∀ nx ex, B c (st 0 s) nx ex = ex x) : ∀ {k n : Nat} {s : S}, k < n → I k s → Tot (loopF B c n (st k s)) Q
  | 0, n, s, hn, hI => by
    cases n with
    | zero => omega
    | succ n =>
      obtain ⟨x, hx, h⟩ := he s hI
      exact ⟨x, h _ _, hx⟩
  | k + 1, n, s, hn, hI => by
    cases n with
    | zero => omega
    | succ n =>
      obtain ⟨s', hI', h⟩ := hs k s hI
      have ih := loopDown (B := B) (c := c) st I Q hs he (k := k) (n := n) (s := s') (by omega) hI'
      show Tot (B c (st (k + 1) s) (loopF B c n) Option.some) Q
      rw [h]; exact ih

/-- A loop that tests each element. -/
theorem loopT {A C X : Type} {B : C → Int → (Int → Option X) → (X → Option X) → Option X} {c : C} {xs : List A} (p : Nat → A → Bool) (x0 x1 : X) (hl : xs.length ≤ 4611686018427387904)
    (hs : ∀ (i : Nat) (hi : i < xs.length) nx ex, w64 ((i : Int) + 1) = (i : Int) + 1 → B c (i : Int) nx ex = if p i xs[i] then nx ((i : Int) + 1) else ex x0) (he : ∀ nx ex, B c (xs.length : Int) nx ex = ex x1) :
    loopF B c big 0 = some (if allI p 0 xs then x1 else x0) := by
  refine (loopL (fun i (_ : Unit) => (i : Int)) (fun i a _ => if p i a then .inl () else .inr x0) (fun _ => x1) (fun _ _ => True) (fun i s hi _ => ⟨fun nx ex => ?_, fun _ _ => trivial⟩) (fun s nx ex _ => he nx ex) (xs := xs) (s := ()) rfl (big_lt hl) trivial).trans ?_
  · rw [hs i hi nx ex (w64_id (by omega))]
    cases p i xs[i] <;> simp
  · rw [goL_all (p := p) (x0 := x0) (fun i a => rfl)]

/-- A loop that gathers. -/
theorem loopG {A C D : Type} {B : C → Int × List D → (Int × List D → Option (List D)) → (List D → Option (List D)) → Option (List D)} {c : C} {xs : List A} (p : A → Bool) (f : A → D) (hl : xs.length ≤ 4611686018427387904)
    (hs : ∀ (i : Nat) (hi : i < xs.length) (acc : List D) nx ex, acc.length ≤ i → w64 ((i : Int) + 1) = (i : Int) + 1 → B c ((i : Int), acc) nx ex = nx ((i : Int) + 1, if p xs[i] then acc ++ [f xs[i]] else acc)) (he : ∀ acc nx ex, B c ((xs.length : Int), acc) nx ex = ex acc) :
    loopF B c big (0, []) = some ((xs.filter p).map f) := by
  refine (loopL (fun i (s : List D) => ((i : Int), s)) (fun i a s => .inl (if p a then s ++ [f a] else s)) (fun s => s) (fun i s => s.length ≤ i) (fun i s hi hI => ⟨fun nx ex => ?_, fun s' h => ?_⟩) (fun s nx ex _ => he s nx ex) (xs := xs) (s := []) rfl (big_lt hl) (Nat.le_refl _)).trans ?_
  · rw [hs i hi s nx ex hI (w64_id (by omega))]
    simp
  · simp only [Sum.inl.injEq] at h
    subst h
    split
    · simp; omega
    · omega
  · rw [goL_filter (p := p) (f := f) (fun i a s => rfl)]; simp

/-- A loop that ends by a measure. -/
theorem loopM {C P X : Type} {B : C → P → (P → Option X) → (X → Option X) → Option X} {c : C} (μ : P → Nat) (I : P → Prop) (Q : X → Prop)
    (hs : ∀ p, I p → (∃ p', I p' ∧ μ p' < μ p ∧ ∀ nx ex, B c p nx ex = nx p') ∨ ∃ x, Q x ∧ ∀ nx ex, B c p nx ex = ex x) : ∀ {n : Nat} {p : P}, μ p < n → I p → Tot (loopF B c n p) Q
  | 0, p, hn, hI => by omega
  | n + 1, p, hn, hI => by
    rcases hs p hI with ⟨p', h1, h2, h3⟩ | ⟨x, h1, h2⟩
    · show Tot (B c p (loopF B c n) Option.some) Q
      rw [h3]
      exact loopM μ I Q hs (by omega) h1
    · exact ⟨x, h2 _ _, h1⟩

end Go.Pi

/- Draws: they end, and what they draw is small. -/
namespace Go.Pi

/-- The cursor of a draw out of 'code'. -/
def Cur (code : List Int) (c : CurV) : Prop := c.b = code ∧ 0 ≤ c.i ∧ c.i ≤ (code.length : Int)

theorem and255 (x : BitVec 64) : ((x &&& 255#64).toNat : Int) ≤ 255 := by
  have : (x &&& 255#64).toNat ≤ 255 := by
    rw [BitVec.toNat_and]
    exact Nat.and_le_right
  omega

theorem l1Byte_ok {code : List Int} (hl : code.length ≤ 1048576) {c : CurV} (h : Cur code c) : Tot (s_l1Byte c) fun r => 0 ≤ r.1 ∧ r.1 ≤ 255 ∧ Cur code r.2 := by
  obtain ⟨h1, h2, h3⟩ := h
  have hb : ∀ x : BitVec IntKind.i64.bits, 0 ≤ w64 ((x &&& BitVec.ofInt IntKind.i64.bits 255).toNat : Int) ∧ w64 ((x &&& BitVec.ofInt IntKind.i64.bits 255).toNat : Int) ≤ 255 := fun x => by
    have h : ((x &&& BitVec.ofInt IntKind.i64.bits 255).toNat : Int) ≤ 255 := and255 x
    rw [w64_id (by omega)]
    omega
  unfold s_l1Byte
  refine .need (by omega) (.need (by omega) (.fork (fun hf => ?_) fun hf => ?_))
  · have hf := of_decide_eq_true hf
    refine .need ⟨h2, hf⟩ (.some ⟨(hb _).1, (hb _).2, h1, ?_, ?_⟩)
    · show 0 ≤ w64 (c.i + 1)
      rw [h1] at hf
      rw [w64_id (by omega)]; omega
    · show w64 (c.i + 1) ≤ _
      rw [h1] at hf
      rw [w64_id (by omega)]; omega
  · exact .some ⟨(hb _).1, (hb _).2, h1, h2, h3⟩

theorem l1Below_ok {code : List Int} (hl : code.length ≤ 1048576) {c : CurV} (h : Cur code c) (n : Int) : Tot (s_l1Below c n) fun r => 0 ≤ r.1 ∧ (0 < n → r.1 < n) ∧ (n ≤ 0 → r.1 = 0) ∧ Cur code r.2 := by
  unfold s_l1Below
  refine .fork (fun hf => .some ⟨Int.le_refl _, fun h => ?_, fun _ => rfl, h⟩) fun hf => .fork (fun _ => ?_) fun _ => ?_
  · have := of_decide_eq_true hf; omega
  · have hn := of_decide_eq_false hf
    refine .bnd (l1Byte_ok hl h) fun v hv => .need (by omega) (.some ⟨Int.tmod_nonneg _ hv.1, fun h => Int.tmod_lt_of_pos _ h, fun h => by omega, ?_⟩)
    obtain ⟨_, _, e1, e2, e3⟩ := hv
    exact ⟨h.1, e2, e3⟩
  · have hn := of_decide_eq_false hf
    refine .bnd (l1Byte_ok hl h) fun v hv => .bnd (l1Byte_ok hl (c := ⟨c.b, v.2.i, v.2.h⟩) ⟨h.1, hv.2.2.2⟩) fun v' hv' => .bnd (l1Byte_ok hl (c := ⟨c.b, v'.2.i, v'.2.h⟩) ⟨h.1, hv'.2.2.2⟩) fun v'' hv'' => .need (by omega) (.some ⟨?_, fun h => Int.tmod_lt_of_pos _ h, fun h => by omega, h.1, hv''.2.2.2⟩)
    refine Int.tmod_nonneg _ ?_
    have e1 := hv.1; have e2 := hv.2.1; have e3 := hv'.1; have e4 := hv'.2.1; have e5 := hv''.1; have e6 := hv''.2.1
    rw [w64_id (x := v.1 * 65536) (by omega), w64_id (x := v'.1 * 256) (by omega), w64_id (x := v.1 * 65536 + v'.1 * 256) (by omega), w64_id (by omega)]
    omega

theorem l1Once_ok {code : List Int} (hl : code.length ≤ 1048576) {c : CurV} (h : Cur code c) (n : Int) : Tot (s_l1Once c n) fun r => Cur code r.2 := by
  unfold s_l1Once
  exact .bnd (l1Below_ok hl h n) fun v hv => .some ⟨h.1, hv.2.2.2.2⟩

theorem l1Int_ok {code : List Int} (hl : code.length ≤ 1048576) {c : CurV} (h : Cur code c) {l : List Int} (hn : l ≠ []) : Tot (s_l1Int c l) fun r => r.1 ∈ l ∧ Cur code r.2 := by
  have h0 : 0 < (l.length : Int) := by
    cases l with
    | nil => exact absurd rfl hn
    | cons a l => simp only [List.length_cons]; omega
  unfold s_l1Int
  refine .bnd (l1Below_ok hl h _) fun v hv => .need ⟨hv.1, hv.2.1 h0⟩ (.some ⟨?_, h.1, hv.2.2.2.2⟩)
  have hlt : v.1.toNat < l.length := by have := hv.1; have := hv.2.1 h0; omega
  rw [List.getD_eq_getElem?_getD, List.getElem?_eq_getElem hlt]
  exact List.getElem_mem hlt

theorem l1New_ok {code : List Int} (hl : code.length ≤ 1048576) : Tot (s_l1New code) fun c => Cur code c := by
  unfold s_l1New
  refine .bnd (P := fun _ => True) ?_ fun v _ => .some ⟨rfl, by simp, by simp⟩
  unfold s_l1New_L0
  refine loopM (P := Int × Int) (fun p => ((code.length : Int) - p.2).toNat) (fun p => 0 ≤ p.2) (fun _ => True) (fun p hp => ?_) (big_lt (by simp; omega)) (by simp)
  obtain ⟨a, i⟩ := p
  simp only at hp
  simp only [s_l1New_W0, s_l1New_B0]
  by_cases h1 : i < (code.length : Int)
  · by_cases h2 : i < 4000
    · refine .inl ⟨(_, w64 (i + 1)), ?_, ?_, fun nx ex => by rw [decide_eq_true h1, fork_true, decide_eq_true h2, fork_true, need_of ⟨hp, h1⟩]⟩
      · simp only; rw [w64_id (by omega)]; omega
      · simp only; rw [w64_id (by omega)]; omega
    · exact .inr ⟨_, trivial, fun nx ex => by rw [decide_eq_true h1, fork_true, decide_eq_false h2, fork_false]⟩
  · exact .inr ⟨_, trivial, fun nx ex => by rw [decide_eq_false h1, fork_false]⟩

end Go.Pi

/- Lists of versions and tags: put, tests. -/
namespace Go.Pi

/-- A number put into a list, ahead of the first one that is not less, unless it is there. -/
def putL : List Int → Int → List Int
  | [], n => [n]
  | x :: xs, n => if x < n then x :: putL xs n else if x = n then x :: xs else n :: x :: xs

theorem goL_while {X : Type} {p : Int → Bool} {fin : Unit → X} {f : Nat → X} {g : Nat → Int → Unit → Unit ⊕ X} (hg : ∀ i a, g i a () = if p a then .inl () else .inr (f i)) : ∀ {xs : List Int} {i : Nat}, fin () = f (i + xs.length) → goL g fin i xs () = f (i + (xs.takeWhile p).length)
  | [], i, h => by simpa [goL] using h
  | a :: xs, i, h => by
    unfold goL
    rw [hg, List.takeWhile_cons]
    cases p a with
    | true =>
      simp only [if_true, List.length_cons]
      rw [goL_while hg (by rw [h]; simp; congr 1; omega)]
      congr 1; omega
    | false => simp

theorem putL_eq (l : List Int) (n : Int) : putL l n = if (l[(l.takeWhile (· < n)).length]?) = some n then l else l.take (l.takeWhile (· < n)).length ++ [n] ++ l.drop (l.takeWhile (· < n)).length := by
  induction l with
  | nil => simp [putL]
  | cons x xs ih =>
    unfold putL
    rw [List.takeWhile_cons]
    by_cases h : x < n
    · simp only [h, if_true, decide_true, List.length_cons, List.getElem?_cons_succ, List.take_succ_cons, List.drop_succ_cons]
      rw [ih]
      split <;> simp
    · simp only [h, if_false, decide_false, Bool.false_eq_true, List.length_nil, List.getElem?_cons_zero, List.take_zero, List.drop_zero, Option.some.injEq]
      split <;> simp_all

theorem l4Put_eq {l : List Int} {n : Int} (hl : l.length ≤ 1000000) : s_l4Put l n = some (putL l n) := by
  have h1 : s_l4Put_L0 l n big 0 = some ((l.takeWhile (fun a => decide (a < n))).length : Int) := by
    unfold s_l4Put_L0
    refine (loopL (fun i (_ : Unit) => (i : Int)) (fun i a _ => if decide (a < n) then .inl () else .inr (i : Int)) (fun _ => (l.length : Int)) (fun _ _ => True) (fun i s hi _ => ⟨fun nx ex => ?_, fun _ _ => trivial⟩) (fun s nx ex _ => ?_) (xs := l) (s := ()) rfl (big_lt (by omega)) trivial).trans ?_
    · have hw : w64 ((i : Int) + 1) = (i : Int) + 1 := w64_id (by omega)
      simp only [s_l4Put_W0, s_l4Put_B0]
      by_cases h : l[i] < n <;> simp [hi, hw, h]
    · simp [s_l4Put_W0, s_l4Put_B0]
    · rw [goL_while (p := fun a => decide (a < n)) (f := fun i => (i : Int)) (fun i a => rfl) (by simp)]
      simp
  unfold s_l4Put
  rw [h1, bnd_some', putL_eq]
  generalize hk : (l.takeWhile (fun a => decide (a < n))).length = k
  have hkl : k ≤ l.length := by rw [← hk]; exact (List.takeWhile_prefix _).length_le
  by_cases h : k < l.length
  · by_cases he : l[k] = n
    · simp (disch := omega) [h, he, need_of]
    · have hb : (l[k] == n) = false := by simpa using he
      simp (disch := omega) [h, he, hb, need_of, Nat.min_eq_left hkl]
  · have hk' : k = l.length := by omega
    subst hk'
    simp (disch := omega) [need_of]

end Go.Pi

/- Tests of lists, by the reference. -/
namespace Go.Pi

def inR (x a b : Int) : Bool := decide (a ≤ x) && decide (x ≤ b)
theorem s_l1In_eq (x a b : Int) : s_l1In x a b = some (inR x a b) := by
  unfold s_l1In inR
  by_cases h : a ≤ x <;> simp [h]

/-- Ascending, from a to b. -/
def ascP (xs : List Int) (a b : Int) (i : Nat) (x : Int) : Bool := inR x a b && (decide (i = 0) || decide (xs.getD (i - 1) 0 < x))
def asc (a b : Int) (xs : List Int) : Bool := allI (ascP xs a b) 0 xs
def areV (l : List Int) : Bool := asc 1 9 l && decide (0 < l.length)

theorem prev_idx {i : Nat} (h : ¬ i = 0) (hi : i ≤ 4611686018427387904) : w64 ((i : Int) - 1) = ((i - 1 : Nat) : Int) := by
  rw [w64_id (by omega)]; omega

theorem s_AreVersions_eq {l : List Int} (hl : l.length ≤ 1000000) : s_AreVersions l = some (areV l) := by
  unfold s_AreVersions areV asc
  have : s_AreVersions_L0 l false big 0 = some (if allI (ascP l 1 9) 0 l then .inr () else .inl false) := by
    unfold s_AreVersions_L0
    refine loopT (ascP l 1 9) _ _ (by omega) (fun i hi nx ex hw => ?_) (fun nx ex => by simp [s_AreVersions_W0, s_AreVersions_B0])
    simp only [s_AreVersions_W0, s_AreVersions_B0, s_l1In_eq, bnd_some', ascP]
    have hb := Bool.eq_false_or_eq_true (inR l[i] 1 9)
    by_cases h0 : i = 0
    · subst h0
      rcases hb with h | h <;> simp_all
    · have h1 := prev_idx h0 (by omega)
      have h2 : i - 1 < l.length := by omega
      have h3 : 0 < i := by omega
      rcases hb with h | h
      · by_cases h4 : l[i - 1] < l[i]
        · have : ¬ l[i] ≤ l[i - 1] := by omega
          simp (disch := omega) [hi, h, h0, h1, h2, h3, h4, hw, need_of, this]
        · have : l[i] ≤ l[i - 1] := by omega
          simp (disch := omega) [hi, h, h0, h1, h2, h3, h4, hw, need_of, this]
      · simp [hi, h, h0]
  rw [this]
  cases allI (ascP l 1 9) 0 l <;> simp

/-- One round of a test of an ascending list. -/
theorem asc_round {R : Type} {l : List Int} {a b : Int} {i : Nat} (hl : l.length ≤ 4611686018427387904) (hi : i < l.length) (hw : w64 ((i : Int) + 1) = (i : Int) + 1) (nx y z : Option R) :
    fork (decide ((i : Int) < (l.length : Int))) (need (0 ≤ (i : Int) ∧ (i : Int) < (l.length : Int)) (fork (!inR (l.getD (i : Int).toNat (dflt (.int .i64))) a b) y
      (fork (decide ((i : Int) > 0)) (need (0 ≤ w64 ((i : Int) - 1) ∧ w64 ((i : Int) - 1) < (l.length : Int)) (need (0 ≤ (i : Int) ∧ (i : Int) < (l.length : Int))
        (fork (decide (l.getD (w64 ((i : Int) - 1)).toNat (dflt (.int .i64)) ≥ l.getD (i : Int).toNat (dflt (.int .i64)))) y nx))) nx))) z = if ascP l a b i l[i] then nx else y := by
  unfold ascP
  have hb := Bool.eq_false_or_eq_true (inR l[i] a b)
  by_cases h0 : i = 0
  · subst h0
    rcases hb with h | h <;> simp_all
  · have h1 := prev_idx h0 (by omega)
    have h2 : i - 1 < l.length := by omega
    have h3 : 0 < i := by omega
    rcases hb with h | h
    · by_cases h4 : l[i - 1] < l[i]
      · have : ¬ l[i] ≤ l[i - 1] := by omega
        simp (disch := omega) [hi, h, h0, h1, h2, h3, h4, hw, need_of, this]
      · have : l[i] ≤ l[i - 1] := by omega
        simp (disch := omega) [hi, h, h0, h1, h2, h3, h4, hw, need_of, this]
    · simp [hi, h, h0]

theorem s_l32Tags_eq {l : List Int} (hl : l.length ≤ 1000000) : s_l32Tags l = some (asc 0 255 l) := by
  unfold s_l32Tags asc
  have : s_l32Tags_L0 l false big 0 = some (if allI (ascP l 0 255) 0 l then .inr () else .inl false) := by
    unfold s_l32Tags_L0
    refine loopT (ascP l 0 255) _ _ (by omega) (fun i hi nx ex hw => ?_) (fun nx ex => by simp [s_l32Tags_W0, s_l32Tags_B0])
    simp only [s_l32Tags_W0, s_l32Tags_B0, s_l1In_eq, bnd_some', hw]
    exact asc_round (by omega) hi hw _ _ _
  rw [this]
  cases allI (ascP l 0 255) 0 l <;> simp

theorem s_l9Has_eq {l : List Int} {n : Int} (hl : l.length ≤ 1000000) : s_l9Has l n = some (l.contains n) := by
  unfold s_l9Has
  have : s_l9Has_L0 l n false big 0 = some (if allI (fun _ a => !(a == n)) 0 l then .inr () else .inl true) := by
    unfold s_l9Has_L0
    refine loopT (fun _ a => !(a == n)) _ _ (by omega) (fun i hi nx ex hw => ?_) (fun nx ex => by simp [s_l9Has_W0, s_l9Has_B0])
    simp only [s_l9Has_W0, s_l9Has_B0]
    have hb := Bool.eq_false_or_eq_true (l[i] == n)
    rcases hb with h | h <;> simp [hi, h, hw]
  rw [this]
  have e : allI (fun _ a => !(a == n)) 0 l = !(l.contains n) := by
    have : ∀ (l : List Int) (i : Nat), allI (fun _ a => !(a == n)) i l = !(l.contains n) := by
      intro l
      induction l with
      | nil => intro i; rfl
      | cons x xs ih =>
        intro i
        rw [allI, ih, List.contains_cons, Bool.not_or]
        rw [show (x == n) = (n == x) from BEq.comm]
    exact this l 0
  rw [e]
  cases l.contains n <;> simp

def resv (t : Int) : Bool := inR t 0 255 && (t.tmod 16 == 10)
theorem s_IsReserved_eq (t : Int) : s_IsReserved t = some (resv t) := by
  unfold s_IsReserved resv
  rw [s_l1In_eq, bnd_some']
  cases inR t 0 255 <;> simp

def bytesB (l : List Int) : Bool := l.all fun x => inR x 0 255
theorem allI_all {A : Type} (p : A → Bool) : ∀ (xs : List A) (i : Nat), allI (fun _ a => p a) i xs = xs.all p
  | [], i => rfl
  | x :: xs, i => by rw [allI, allI_all, List.all_cons]
theorem s_l9Byte_eq {l : List Int} (hl : l.length ≤ 1000000) : s_l9Byte l = some (bytesB l) := by
  unfold s_l9Byte bytesB
  have : s_l9Byte_L0 l false big 0 = some (if allI (fun _ x => inR x 0 255) 0 l then .inr () else .inl false) := by
    unfold s_l9Byte_L0
    refine loopT (fun _ x => inR x 0 255) _ _ (by omega) (fun i hi nx ex hw => ?_) (fun nx ex => by simp [s_l9Byte_W0, s_l9Byte_B0])
    simp only [s_l9Byte_W0, s_l9Byte_B0, s_l1In_eq, bnd_some']
    rcases Bool.eq_false_or_eq_true (inR l[i] 0 255) with h | h <;> simp [hi, h, hw]
  rw [this, allI_all]
  cases l.all _ <;> simp

/-- Sizes that no computation of these laws outgrows. -/
def smallB (b : BoxV) : Prop := b.Drops.length ≤ 1000000 ∧ b.Strips.length ≤ 1000000
def isBox (b : BoxV) : Bool := inR b.Limit 0 9 && decide (b.Drops.length ≤ 6) && decide (b.Strips.length ≤ 6) && bytesB b.Drops && bytesB b.Strips
theorem s_IsBox_eq {b : BoxV} (h : smallB b) : s_IsBox b = some (isBox b) := by
  unfold s_IsBox isBox
  rw [s_l1In_eq, s_l9Byte_eq h.1, s_l9Byte_eq h.2]
  simp only [bnd_some']
  have h1 : (((b.Drops.length : Nat) : Int) ≤ 6) ↔ b.Drops.length ≤ 6 := by omega
  have h2 : (((b.Strips.length : Nat) : Int) ≤ 6) ↔ b.Strips.length ≤ 6 := by omega
  simp only [h1, h2]
  cases inR b.Limit 0 9 <;> cases decide (b.Drops.length ≤ 6) <;> cases decide (b.Strips.length ≤ 6) <;> cases bytesB b.Drops <;> simp

def smallE (e : EndpointV) : Prop := e.Versions.length ≤ 1000000 ∧ e.Tags.length ≤ 1000000 ∧ e.Path.length ≤ 1000000 ∧ ∀ b ∈ e.Path, smallB b
def isEnd (e : EndpointV) : Bool := asc 0 255 e.Tags && e.Tags.all (fun t => !resv t) && e.Path.all isBox && areV e.Versions && decide (e.Tags.length ≤ 5) && decide (e.Path.length ≤ 4) && inR e.Class 0 5

theorem allI_and {A : Type} (p q : Nat → A → Bool) : ∀ (xs : List A) (i : Nat), allI (fun i a => p i a && q i a) i xs = (allI p i xs && allI q i xs)
  | [], i => rfl
  | x :: xs, i => by
    rw [allI, allI, allI, allI_and]
    cases p i x <;> cases q i x <;> cases allI p (i + 1) xs <;> simp

theorem allI_congr {A : Type} {p q : Nat → A → Bool} : ∀ {xs : List A} {i : Nat}, (∀ a ∈ xs, ∀ j, p j a = q j a) → allI p i xs = allI q i xs
  | [], i, _ => rfl
  | x :: xs, i, h => by
    rw [allI, allI, h x (List.mem_cons_self ..), allI_congr fun a ha => h a (List.mem_cons_of_mem _ ha)]

theorem s_IsEndpoint_eq {e : EndpointV} (h : smallE e) : s_IsEndpoint e = some (isEnd e) := by
  obtain ⟨h1, h2, h3, h4⟩ := h
  unfold s_IsEndpoint
  have e1 : s_IsEndpoint_L0 false e.Versions e.Tags e.Path e.Class big 0 = some (if asc 0 255 e.Tags && e.Tags.all (fun t => !resv t) then .inr () else .inl false) := by
    unfold s_IsEndpoint_L0
    refine (loopT (xs := e.Tags) (X := Bool ⊕ Unit) (fun i x => ascP e.Tags 0 255 i x && !resv x) (.inl false) (.inr ()) (by omega) (fun i hi nx ex hw => ?_) (fun nx ex => by simp [s_IsEndpoint_W0, s_IsEndpoint_B0])).trans ?_
    · simp only [s_IsEndpoint_W0, s_IsEndpoint_B0, s_l1In_eq, s_IsReserved_eq, bnd_some', hw]
      have hr := asc_round (a := 0) (b := 255) (by omega) hi hw (nx ((i : Int) + 1)) (ex (.inl false)) (ex (.inr ()))
      rcases Bool.eq_false_or_eq_true (resv e.Tags[i]) with h | h
      · rcases Bool.eq_false_or_eq_true (inR e.Tags[i] 0 255) with h' | h' <;> simp [hi, h, h']
      · rw [h, Bool.not_false, Bool.and_true, ← hr]
        simp [hi, h]
    · rw [allI_and, allI_all (fun t => !resv t)]; rfl
  have e2 : s_IsEndpoint_L1 false e.Versions e.Tags e.Path e.Class big 0 = some (if e.Path.all isBox then .inr () else .inl false) := by
    unfold s_IsEndpoint_L1
    refine (loopT (xs := e.Path) (X := Bool ⊕ Unit) (fun _ x => isBox x) (.inl false) (.inr ()) (by omega) (fun i hi nx ex hw => ?_) (fun nx ex => by simp [s_IsEndpoint_W1, s_IsEndpoint_B1])).trans (by rw [allI_all])
    simp only [s_IsEndpoint_W1, s_IsEndpoint_B1]
    have hg : e.Path.getD (i : Int).toNat (dflt (.st .box)) = e.Path[i] := by simp [hi]
    rw [hg, s_IsBox_eq (h4 _ (List.getElem_mem hi))]
    rcases Bool.eq_false_or_eq_true (isBox e.Path[i]) with h | h <;> simp [hi, h, hw]
  rw [e1, e2, s_AreVersions_eq h1, s_l1In_eq]
  have k1 : (((e.Tags.length : Nat) : Int) ≤ 5) ↔ e.Tags.length ≤ 5 := by omega
  have k2 : (((e.Path.length : Nat) : Int) ≤ 4) ↔ e.Path.length ≤ 4 := by omega
  unfold isEnd
  simp only [k1, k2]
  generalize asc 0 255 e.Tags = b1
  generalize (e.Tags.all fun t => !resv t) = b2
  generalize e.Path.all isBox = b3
  generalize areV e.Versions = b4
  cases b1 <;> cases b2 <;> cases b3 <;> cases b4 <;> cases decide (e.Tags.length ≤ 5) <;> cases decide (e.Path.length ≤ 4) <;> simp

def isRoll (r : RolloutV) : Bool := asc 1 100 r.Stages && inR r.Version 1 9 && decide (1 ≤ r.Stages.length) && decide (r.Stages.length ≤ 5) && (r.Stages.getD (r.Stages.length - 1) 0 == 100) && inR r.At 0 ((r.Stages.length : Int) - 1)
theorem s_IsRollout_eq {r : RolloutV} (h : r.Stages.length ≤ 1000000) : s_IsRollout r = some (isRoll r) := by
  unfold s_IsRollout
  have e1 : s_IsRollout_L0 false r.Version r.Stages r.At r.Off big 0 = some (if asc 1 100 r.Stages then .inr () else .inl false) := by
    unfold s_IsRollout_L0
    refine (loopT (xs := r.Stages) (X := Bool ⊕ Unit) (ascP r.Stages 1 100) (.inl false) (.inr ()) (by omega) (fun i hi nx ex hw => ?_) (fun nx ex => by simp [s_IsRollout_W0, s_IsRollout_B0]))
    simp only [s_IsRollout_W0, s_IsRollout_B0, s_l1In_eq, bnd_some', hw]
    exact asc_round (by omega) hi hw _ _ _
  rw [e1]
  simp only [s_l1In_eq, bnd_some']
  unfold isRoll
  have k1 : inR (r.Stages.length : Int) 1 5 = (decide (1 ≤ r.Stages.length) && decide (r.Stages.length ≤ 5)) := by
    unfold inR; congr 1 <;> rw [decide_eq_decide] <;> omega
  rw [k1]
  have hw : w64 ((r.Stages.length : Int) - 1) = (r.Stages.length : Int) - 1 := w64_id (by omega)
  rw [hw]
  generalize asc 1 100 r.Stages = b1
  generalize inR r.Version 1 9 = b2
  by_cases hl : 1 ≤ r.Stages.length
  · have hn : ((r.Stages.length : Int) - 1).toNat = r.Stages.length - 1 := by omega
    have hd : 0 ≤ (r.Stages.length : Int) - 1 ∧ (r.Stages.length : Int) - 1 < (r.Stages.length : Int) := by omega
    rw [need_of hd, hn]
    have hz : dflt (.int .i64) = (0 : Int) := rfl
    rw [hz]
    generalize (r.Stages.getD (r.Stages.length - 1) 0 == 100) = b3
    cases b1 <;> cases b2 <;> cases b3 <;> cases decide (r.Stages.length ≤ 5) <;> simp [hl]
  · simp only [hl, decide_false]
    cases b1 <;> cases b2 <;> simp

def comm (a b : List Int) : List Int := a.filter fun x => b.contains x
theorem s_CommonOf_eq {a b : List Int} (ha : a.length ≤ 1000000) (hb : b.length ≤ 1000000) : s_CommonOf a b = some (comm a b) := by
  unfold s_CommonOf comm
  have : s_CommonOf_L0 a b big 0 [] = some ((a.filter fun x => b.contains x).map id) := by
    unfold s_CommonOf_L0
    refine loopG (xs := a) (fun x => b.contains x) id (by omega) (fun i hi acc nx ex hacc hw => ?_) (fun acc nx ex => by simp [s_CommonOf_W0, s_CommonOf_B0])
    simp only [s_CommonOf_W0, s_CommonOf_B0, s_l9Has_eq hb, bnd_some']
    have hk : (((acc.length : Nat) : Int) + 1) * 8 ≤ 140737488355328 := by omega
    rcases Bool.eq_false_or_eq_true (b.contains a[i]) with h | h
    · have h' : a[i] ∈ b := by simpa using h
      simp [hi, h', hw, hk]
    · have h' : ¬ a[i] ∈ b := by simpa using h
      simp [hi, h', hw]
  rw [this]
  simp

def best (a b : List Int) : Int := if areV a && areV b then (comm a b).getLastD 0 else 0
theorem getD_last (l : List Int) (h : l ≠ []) : l.getD (l.length - 1) 0 = l.getLastD 0 := by
  rw [List.getLastD_eq_getLast?, List.getLast?_eq_getElem?, List.getD_eq_getElem?_getD]
theorem s_BestCommon_eq {a b : List Int} (ha : a.length ≤ 1000000) (hb : b.length ≤ 1000000) : s_BestCommon a b = some (best a b) := by
  unfold s_BestCommon best
  rw [s_CommonOf_eq ha hb, s_AreVersions_eq ha, s_AreVersions_eq hb]
  simp only [bnd_some']
  have hc : (comm a b).length ≤ 1000000 := Nat.le_trans (List.length_filter_le _ _) ha
  generalize hcc : comm a b = c at hc
  generalize areV a = b1
  generalize areV b = b2
  by_cases h : c = []
  · subst h; cases b1 <;> cases b2 <;> simp
  · have hl : 0 < c.length := List.length_pos_iff.2 h
    have hw : w64 ((c.length : Int) - 1) = (c.length : Int) - 1 := w64_id (by omega)
    have hn : ((c.length : Int) - 1).toNat = c.length - 1 := by omega
    rw [hw, hn, need_of (by omega), show c.getD (c.length - 1) (dflt (.int .i64)) = c.getLastD 0 from getD_last c h]
    have he : ((c.length : Int) == 0) = false := by simp; omega
    rw [he]
    cases b1 <;> cases b2 <;> simp

def reach (s : List Int) (ls : List (List Int)) : Bool := ls.all (fun l => best s l != 0) && areV s
theorem s_AllReach_eq {s : List Int} {ls : List (List Int)} (hs : s.length ≤ 1000000) (hl : ls.length ≤ 1000000) (hls : ∀ l ∈ ls, l.length ≤ 1000000) : s_AllReach s ls = some (reach s ls) := by
  unfold s_AllReach reach
  have : s_AllReach_L0 s ls false big 0 = some (if ls.all (fun l => best s l != 0) then .inr () else .inl false) := by
    unfold s_AllReach_L0
    refine (loopT (xs := ls) (X := Bool ⊕ Unit) (fun _ l => best s l != 0) (.inl false) (.inr ()) (by omega) (fun i hi nx ex hw => ?_) (fun nx ex => by simp [s_AllReach_W0, s_AllReach_B0])).trans (by rw [allI_all])
    simp only [s_AllReach_W0, s_AllReach_B0]
    have hg : ls.getD (i : Int).toNat (dflt (.sl (.int .i64))) = ls[i] := by simp [hi]
    rw [hg, s_BestCommon_eq hs (hls _ (List.getElem_mem hi)), bnd_some']
    rcases Bool.eq_false_or_eq_true (best s ls[i] == 0) with h | h
    · simp [hi, hw, h, bne]
    · simp [hi, hw, h, bne]
  rw [this, s_AreVersions_eq hs]
  cases ls.all _ <;> simp

end Go.Pi

/- Tests of lists and worlds, by the program. -/
namespace Go.Pi

theorem i_InRange_eq (x a b : Int) : i_InRange x a b = some (inR x a b) := by
  unfold i_InRange inR
  by_cases h : a ≤ x <;> simp [h]

theorem ascP_round {R : Type} {l : List Int} {a b : Int} {i : Nat} (hl : l.length ≤ 4611686018427387904) (hi : i < l.length) (nx y z : Option R) :
    fork (decide ((i : Int) < (l.length : Int))) (need (0 ≤ (i : Int) ∧ (i : Int) < (l.length : Int)) (fork (!inR (l.getD (i : Int).toNat (dflt (.int .i64))) a b) y
      (fork (decide ((i : Int) > 0)) (need (0 ≤ w64 ((i : Int) - 1) ∧ w64 ((i : Int) - 1) < (l.length : Int))
        (fork (decide (l.getD (w64 ((i : Int) - 1)).toNat (dflt (.int .i64)) ≥ l.getD (i : Int).toNat (dflt (.int .i64)))) y nx)) nx))) z = if ascP l a b i l[i] then nx else y := by
  unfold ascP
  have hb := Bool.eq_false_or_eq_true (inR l[i] a b)
  by_cases h0 : i = 0
  · subst h0
    rcases hb with h | h <;> simp_all
  · have h1 := prev_idx h0 (by omega)
    have h2 : i - 1 < l.length := by omega
    have h3 : 0 < i := by omega
    rcases hb with h | h
    · by_cases h4 : l[i - 1] < l[i]
      · have : ¬ l[i] ≤ l[i - 1] := by omega
        simp (disch := omega) [hi, h, h0, h1, h2, h3, h4, need_of, this]
      · have : l[i] ≤ l[i - 1] := by omega
        simp (disch := omega) [hi, h, h0, h1, h2, h3, h4, need_of, this]
    · simp [hi, h, h0]

theorem i_AreVersions_eq {l : List Int} (hl : l.length ≤ 1000000) : i_AreVersions l = some (areV l) := by
  unfold i_AreVersions areV asc
  have : i_AreVersions_L0 l false l ((l.length : Nat) : Int) big 0 = some (if allI (ascP l 1 9) 0 l then .inr () else .inl false) := by
    unfold i_AreVersions_L0
    refine loopT (xs := l) (X := Bool ⊕ Unit) (ascP l 1 9) _ _ (by omega) (fun i hi nx ex hw => ?_) (fun nx ex => by simp [i_AreVersions_W0, i_AreVersions_B0])
    simp only [i_AreVersions_W0, i_AreVersions_B0, i_InRange_eq, bnd_some', hw]
    exact ascP_round (by omega) hi _ _ _
  rw [this]
  cases allI (ascP l 1 9) 0 l <;> simp

theorem i_IsRollout_eq {r : RolloutV} (h : r.Stages.length ≤ 1000000) : i_IsRollout r = some (isRoll r) := by
  rw [← s_IsRollout_eq h]
  unfold i_IsRollout s_IsRollout
  have e1 : i_IsRollout_L0 false r.Stages ((r.Stages.length : Nat) : Int) r.Version r.Stages r.At r.Off big 0 = some (if asc 1 100 r.Stages then .inr () else .inl false) := by
    unfold i_IsRollout_L0
    refine (loopT (xs := r.Stages) (X := Bool ⊕ Unit) (ascP r.Stages 1 100) (.inl false) (.inr ()) (by omega) (fun i hi nx ex hw => ?_) (fun nx ex => by simp [i_IsRollout_W0, i_IsRollout_B0]))
    simp only [i_IsRollout_W0, i_IsRollout_B0, i_InRange_eq, bnd_some', hw]
    exact ascP_round (by omega) hi _ _ _
  have e2 : s_IsRollout_L0 false r.Version r.Stages r.At r.Off big 0 = some (if asc 1 100 r.Stages then .inr () else .inl false) := by
    unfold s_IsRollout_L0
    refine (loopT (xs := r.Stages) (X := Bool ⊕ Unit) (ascP r.Stages 1 100) (.inl false) (.inr ()) (by omega) (fun i hi nx ex hw => ?_) (fun nx ex => by simp [s_IsRollout_W0, s_IsRollout_B0]))
    simp only [s_IsRollout_W0, s_IsRollout_B0, s_l1In_eq, bnd_some', hw]
    exact asc_round (by omega) hi hw _ _ _
  rw [e1, e2]
  simp only [s_l1In_eq, i_InRange_eq, bnd_some']

theorem g_Index_int_eq {l : List Int} {n : Int} (hl : l.length ≤ 1000000) : g_Index_int l n = some (if l.contains n then ((l.takeWhile (fun a => !(n == a))).length : Int) else -1) := by
  unfold g_Index_int
  have : g_Index_int_L0 l n 0 ((l.length : Nat) : Int) big 0 = some (if l.contains n then .inl ((l.takeWhile (fun a => !(n == a))).length : Int) else .inr ()) := by
    unfold g_Index_int_L0
    refine (loopL (X := Int ⊕ Unit) (fun i (_ : Unit) => (i : Int)) (fun i a _ => if (n == a) then .inr (.inl (i : Int)) else .inl ()) (fun _ => .inr ()) (fun _ _ => True) (fun i s hi _ => ⟨fun nx ex => ?_, fun _ _ => trivial⟩) (fun s nx ex _ => ?_) (xs := l) (s := ()) rfl (big_lt (by omega)) trivial).trans ?_
    · have hw : w64 ((i : Int) + 1) = (i : Int) + 1 := w64_id (by omega)
      simp only [g_Index_int_W0, g_Index_int_B0]
      rcases Bool.eq_false_or_eq_true (n == l[i]) with h | h <;> simp [hi, hw, h]
    · simp [g_Index_int_W0, g_Index_int_B0]
    · have : ∀ (l : List Int) (i : Nat), goL (S := Unit) (X := Int ⊕ Unit) (fun i a _ => if (n == a) then .inr (.inl (i : Int)) else .inl ()) (fun _ => .inr ()) i l () = if l.contains n then .inl (((i + (l.takeWhile (fun a => !(n == a))).length : Nat)) : Int) else .inr () := by
        intro l
        induction l with
        | nil => intro i; rfl
        | cons x xs ih =>
          intro i
          unfold goL
          rw [List.contains_cons, List.takeWhile_cons]
          rcases Bool.eq_false_or_eq_true (n == x) with h | h
          · simp [h]
          · simp only [h, Bool.false_eq_true, if_false, ih, Bool.false_or, Bool.not_false, if_true, List.length_cons]
            congr 3; omega
      rw [this]; simp
  rw [this]
  cases l.contains n <;> simp

theorem g_Contains_int_eq {l : List Int} {n : Int} (hl : l.length ≤ 1000000) : g_Contains_int l n = some (l.contains n) := by
  unfold g_Contains_int
  rw [g_Index_int_eq hl, bnd_some']
  cases l.contains n
  · simp
  · simp only [if_true]
    rw [decide_eq_true]; exact Int.natCast_nonneg _

/-- A test by a function value, over a list. -/
theorem anyIdx {A C : Type} {B : C → Int → (Int → Option (Int ⊕ Unit)) → (Int ⊕ Unit → Option (Int ⊕ Unit)) → Option (Int ⊕ Unit)} {c : C} {xs : List A} (p : A → Bool) (hl : xs.length ≤ 4611686018427387904)
    (hs : ∀ (i : Nat) (hi : i < xs.length) nx ex, w64 ((i : Int) + 1) = (i : Int) + 1 → B c (i : Int) nx ex = if p xs[i] then ex (.inl (i : Int)) else nx ((i : Int) + 1)) (he : ∀ nx ex, B c (xs.length : Int) nx ex = ex (.inr ())) :
    bnd (bnd (loopF B c big 0) (sum2 (fun y2 => some y2) (fun _ => some (-1)))) (fun y1 => some (decide (y1 ≥ 0))) = some (xs.any p) := by
  have e := loopL (B := B) (c := c) (X := Int ⊕ Unit) (fun i (_ : Unit) => (i : Int)) (fun i a _ => if p a then .inr (.inl (i : Int)) else .inl ()) (fun _ => .inr ()) (fun _ _ => True) (fun i s hi _ => ⟨fun nx ex => by
    rw [hs i hi nx ex (w64_id (by omega))]; cases p xs[i] <;> simp, fun _ _ => trivial⟩) (fun s nx ex _ => he nx ex) (xs := xs) (s := ()) (n := big) (p0 := (0 : Int)) rfl (big_lt hl) trivial
  have key : ∀ (l : List A) (i : Nat), ∃ k : Int, (decide (k ≥ 0)) = l.any p ∧ goL (S := Unit) (X := Int ⊕ Unit) (fun i a _ => if p a then .inr (.inl (i : Int)) else .inl ()) (fun _ => .inr ()) i l () = (if l.any p then .inl k else .inr ()) ∧ (l.any p = false → k = -1) := by
    intro l
    induction l with
    | nil => intro i; exact ⟨-1, rfl, rfl, fun _ => rfl⟩
    | cons x xs ih =>
      intro i
      rcases Bool.eq_false_or_eq_true (p x) with h | h
      · exact ⟨(i : Int), by simp [h], by unfold goL; simp [h], by simp [h]⟩
      · obtain ⟨k, h1, h2, h3⟩ := ih (i + 1)
        exact ⟨k, by rw [h1]; simp [h], by unfold goL; simp only [h, Bool.false_eq_true, if_false]; rw [h2]; simp [h], by simpa [h] using h3⟩
  obtain ⟨k, h1, h2, h3⟩ := key xs 0
  rw [e, h2]
  cases hp : xs.any p with
  | true =>
    rw [hp] at h1
    simp only [if_true, bnd_some', sum2_inl']
    exact congrArg some h1
  | false => simp

theorem g_ContainsFunc_int_eq {l : List (List Int)} {f : FnP} {p : List Int → Bool} (hl : l.length ≤ 1000000) (hf : ∀ x ∈ l, f [(false, [.sl (.int .i64) x])] = some (p x)) : g_ContainsFunc_int l f = some (l.any p) := by
  refine anyIdx (B := g_IndexFunc_int_W0 _) (c := (l, f, (0 : Int), ((l.length : Nat) : Int))) (xs := l) p (by omega) (fun i hi nx ex hw => ?_) (fun nx ex => by simp [g_IndexFunc_int_W0, g_IndexFunc_int_B0])
  simp only [g_IndexFunc_int_W0, g_IndexFunc_int_B0]
  have hg : l.getD (i : Int).toNat (dflt (.sl (.int .i64))) = l[i] := by simp [hi]
  rw [hg, hf _ (List.getElem_mem hi), bnd_some', hw]
  rcases Bool.eq_false_or_eq_true (p l[i]) with h | h <;> simp [hi, h]

theorem g_ContainsFunc_int_128_eq {l : List Int} {f : FnP} {p : Int → Bool} (hl : l.length ≤ 1000000) (hf : ∀ x ∈ l, f [(false, [.val (.int .i64 x)])] = some (p x)) : g_ContainsFunc_int_128 l f = some (l.any p) := by
  refine anyIdx (B := g_IndexFunc_int_156_W0 _) (c := (l, f, (0 : Int), ((l.length : Nat) : Int))) (xs := l) p (by omega) (fun i hi nx ex hw => ?_) (fun nx ex => by simp [g_IndexFunc_int_156_W0, g_IndexFunc_int_156_B0])
  simp only [g_IndexFunc_int_156_W0, g_IndexFunc_int_156_B0]
  have hg : l.getD (i : Int).toNat (dflt (.int .i64)) = l[i] := by simp [hi]
  rw [hg, hf _ (List.getElem_mem hi), bnd_some', hw]
  rcases Bool.eq_false_or_eq_true (p l[i]) with h | h <;> simp [hi, h]

theorem g_ContainsFunc_Box_eq {l : List BoxV} {f : FnP} {p : BoxV → Bool} (hl : l.length ≤ 1000000) (hf : ∀ x ∈ l, f [(true, [.val (.int .i64 x.Limit), .sl (.int .i64) x.Drops, .sl (.int .i64) x.Strips, .val (.bool x.Lists)])] = some (p x)) : g_ContainsFunc_Box l f = some (l.any p) := by
  refine anyIdx (B := g_IndexFunc_Box_W0 _) (c := (l, f, (0 : Int), ((l.length : Nat) : Int))) (xs := l) p (by omega) (fun i hi nx ex hw => ?_) (fun nx ex => by simp [g_IndexFunc_Box_W0, g_IndexFunc_Box_B0])
  simp only [g_IndexFunc_Box_W0, g_IndexFunc_Box_B0]
  have hg : l.getD (i : Int).toNat (dflt (.st .box)) = l[i] := by simp [hi]
  rw [hg, hf _ (List.getElem_mem hi), bnd_some', hw]
  rcases Bool.eq_false_or_eq_true (p l[i]) with h | h <;> simp [hi, h]

theorem g_ContainsFunc_Endpoint_eq {l : List EndpointV} {f : FnP} {p : EndpointV → Bool} (hl : l.length ≤ 1000000) (hf : ∀ x ∈ l, f [(true, [.sl (.int .i64) x.Versions, .sl (.int .i64) x.Tags, .sl (.st .box) x.Path, .val (.int .i64 x.Class)])] = some (p x)) : g_ContainsFunc_Endpoint l f = some (l.any p) := by
  refine anyIdx (B := g_IndexFunc_Endpoint_W0 _) (c := (l, f, (0 : Int), ((l.length : Nat) : Int))) (xs := l) p (by omega) (fun i hi nx ex hw => ?_) (fun nx ex => by simp [g_IndexFunc_Endpoint_W0, g_IndexFunc_Endpoint_B0])
  simp only [g_IndexFunc_Endpoint_W0, g_IndexFunc_Endpoint_B0]
  have hg : l.getD (i : Int).toNat (dflt (.st .endpoint)) = l[i] := by simp [hi]
  rw [hg, hf _ (List.getElem_mem hi), bnd_some', hw]
  rcases Bool.eq_false_or_eq_true (p l[i]) with h | h <;> simp [hi, h]

theorem i_CommonOf_eq {a b : List Int} (ha : a.length ≤ 1000000) (hb : b.length ≤ 1000000) : i_CommonOf a b = some (comm a b) := by
  unfold i_CommonOf comm
  have : i_CommonOf_L0 b a ((a.length : Nat) : Int) big 0 [] = some ((a.filter fun x => b.contains x).map id) := by
    unfold i_CommonOf_L0
    refine loopG (xs := a) (fun x => b.contains x) id (by omega) (fun i hi acc nx ex hacc hw => ?_) (fun acc nx ex => by simp [i_CommonOf_W0, i_CommonOf_B0])
    simp only [i_CommonOf_W0, i_CommonOf_B0, g_Contains_int_eq hb, bnd_some']
    have hk : (((acc.length : Nat) : Int) + 1) * 8 ≤ 140737488355328 := by omega
    rcases Bool.eq_false_or_eq_true (b.contains a[i]) with h | h
    · have h' : a[i] ∈ b := by simpa using h
      simp [hi, h', hw, hk]
    · have h' : ¬ a[i] ∈ b := by simpa using h
      simp [hi, h', hw]
  rw [this]
  simp

theorem i_without_eq {a b : List Int} (ha : a.length ≤ 1000000) (hb : b.length ≤ 1000000) : i_without a b = some (a.filter fun x => !(b.contains x)) := by
  unfold i_without
  have : i_without_L0 b a ((a.length : Nat) : Int) big 0 [] = some ((a.filter fun x => !(b.contains x)).map id) := by
    unfold i_without_L0
    refine loopG (xs := a) (fun x => !(b.contains x)) id (by omega) (fun i hi acc nx ex hacc hw => ?_) (fun acc nx ex => by simp [i_without_W0, i_without_B0])
    simp only [i_without_W0, i_without_B0, g_Contains_int_eq hb, bnd_some']
    have hk : (((acc.length : Nat) : Int) + 1) * 8 ≤ 140737488355328 := by omega
    rcases Bool.eq_false_or_eq_true (b.contains a[i]) with h | h
    · have h' : a[i] ∈ b := by simpa using h
      simp [hi, h', hw]
    · have h' : ¬ a[i] ∈ b := by simpa using h
      simp [hi, h', hw, hk]
  rw [this]
  simp

/-- Ascending lists are ordered. -/
theorem asc_sorted {a b : Int} : ∀ {xs : List Int}, asc a b xs = true → xs.Pairwise (· < ·) ∧ ∀ x ∈ xs, a ≤ x ∧ x ≤ b := by
  intro xs h
  unfold asc at h
  rw [allI_iff] at h
  have h1 : ∀ (i : Nat) (hi : i < xs.length), (a ≤ xs[i] ∧ xs[i] ≤ b) ∧ (i = 0 ∨ xs.getD (i - 1) 0 < xs[i]) := by
    intro i hi
    have := h i xs[i] (List.getElem?_eq_getElem hi)
    simpa [ascP, inR] using this
  have h2 : ∀ (d i : Nat) (hj : i + d + 1 < xs.length), xs[i] < xs[i + d + 1] := by
    intro d
    induction d with
    | zero =>
      intro i hj
      rcases (h1 (i + 1) hj).2 with h | h
      · omega
      · simpa [show i < xs.length by omega] using h
    | succ d ih =>
      intro i hj
      have e1 := ih i (by omega)
      rcases (h1 (i + (d + 1) + 1) hj).2 with h | h
      · omega
      · have : xs.getD (i + (d + 1) + 1 - 1) 0 = xs[i + d + 1] := by
          have h3 : i + d + 1 < xs.length := by omega
          have h4 : i + (d + 1) + 1 - 1 = i + d + 1 := by omega
          rw [h4]; simp [h3]
        rw [this] at h; omega
  refine ⟨List.pairwise_iff_getElem.2 fun i j hi hj hij => ?_, fun x hx => ?_⟩
  · have := h2 (j - i - 1) i (by omega)
    simpa [show i + (j - i - 1) + 1 = j by omega] using this
  · obtain ⟨i, hi, rfl⟩ := List.getElem_of_mem hx
    exact (h1 i hi).1
theorem asc_of_sorted {a b : Int} {xs : List Int} (h : xs.Pairwise (· < ·)) (h2 : ∀ x ∈ xs, a ≤ x ∧ x ≤ b) : asc a b xs = true := by
  unfold asc
  rw [allI_iff]
  intro j x hj
  obtain ⟨hl, rfl⟩ := List.getElem?_eq_some_iff.1 hj
  have e := h2 xs[j] (List.getElem_mem hl)
  rw [List.pairwise_iff_getElem] at h
  by_cases h0 : j = 0
  · subst h0; simp [ascP, inR, e]
  · have := h (j - 1) j (by omega) hl (by omega)
    have hl' : j - 1 < xs.length := by omega
    simp [ascP, inR, e, h0, hl', this]
theorem asc_iff {a b : Int} {xs : List Int} : asc a b xs = true ↔ xs.Pairwise (· < ·) ∧ ∀ x ∈ xs, a ≤ x ∧ x ≤ b := ⟨asc_sorted, fun h => asc_of_sorted h.1 h.2⟩
theorem areV_iff {xs : List Int} : areV xs = true ↔ xs.Pairwise (· < ·) ∧ (∀ x ∈ xs, 1 ≤ x ∧ x ≤ 9) ∧ xs ≠ [] := by
  unfold areV
  rw [Bool.and_eq_true, asc_iff, decide_eq_true_eq, List.length_pos_iff, and_assoc]

theorem goL_max {X : Type} {fin : Int → X} : ∀ {xs : List Int} {i : Nat} {s : Int}, xs.Pairwise (· < ·) → (∀ x ∈ xs, s < x) → goL (fun _ a s => .inl (if a > s then a else s)) fin i xs s = fin (xs.getLastD s)
  | [], i, s, _, _ => rfl
  | x :: xs, i, s, h, h2 => by
    unfold goL
    have hx := h2 x (List.mem_cons_self ..)
    rw [List.pairwise_cons] at h
    simp only [gt_iff_lt, hx, if_true]
    rw [goL_max h.2 h.1]
    cases xs <;> simp [List.getLastD]

theorem i_BestCommon_eq {a b : List Int} (ha : a.length ≤ 1000000) (hb : b.length ≤ 1000000) : i_BestCommon a b = some (best a b) := by
  unfold i_BestCommon best
  rw [i_CommonOf_eq ha hb, i_AreVersions_eq ha, i_AreVersions_eq hb]
  simp only [bnd_some']
  have hc : (comm a b).length ≤ 1000000 := Nat.le_trans (List.length_filter_le _ _) ha
  cases h1 : areV a with
  | false => simp
  | true =>
    obtain ⟨e1, e2, _⟩ := areV_iff.1 h1
    have s1 : (comm a b).Pairwise (· < ·) := e1.sublist (List.filter_sublist ..)
    have s2 : ∀ x ∈ comm a b, (0 : Int) < x := fun x hx => by have := e2 x ((List.mem_filter.1 hx).1); omega
    have : i_BestCommon_L0 0 (((comm a b).length : Nat) : Int) (comm a b) big 0 0 = some ((comm a b).getLastD 0) := by
      unfold i_BestCommon_L0
      refine (loopL (xs := comm a b) (fun i (s : Int) => (s, (i : Int))) (fun _ a s => .inl (if a > s then a else s)) (fun s => s) (fun _ _ => True) (fun i s hi _ => ⟨fun nx ex => ?_, fun _ _ => trivial⟩) (fun s nx ex _ => ?_) (s := 0) rfl (big_lt (by omega)) trivial).trans ?_
      · have hw : w64 ((i : Int) + 1) = (i : Int) + 1 := w64_id (by omega)
        simp [i_BestCommon_W0, i_BestCommon_B0, hi, hw]
      · simp [i_BestCommon_W0, i_BestCommon_B0]
      · rw [goL_max s1 s2]
    rw [this]
    cases areV b <;> simp

theorem i_AllReach_eq {s : List Int} {ls : List (List Int)} (hs : s.length ≤ 1000000) (hl : ls.length ≤ 1000000) (hls : ∀ l ∈ ls, l.length ≤ 1000000) : i_AllReach s ls = some (reach s ls) := by
  unfold i_AllReach reach
  rw [i_AreVersions_eq hs, g_ContainsFunc_int_eq (p := fun l => best s l == 0) hl fun x hx => ?_]
  · simp only [bnd_some']
    have : (ls.any fun l => best s l == 0) = !(ls.all fun l => best s l != 0) := by
      rw [List.all_eq_not_any_not, Bool.not_not]
      congr 1; funext l; simp [bne]
    rw [this]
    cases areV s <;> simp
  · show i_AllReach_1 x s = _
    unfold i_AllReach_1
    rw [i_BestCommon_eq hs (hls x hx)]; rfl

theorem i_areNumbers_eq {l : List Int} (hl : l.length ≤ 1000000) (a b : Int) : i_areNumbers l a b = some (l.all fun x => inR x a b) := by
  unfold i_areNumbers
  rw [g_ContainsFunc_int_128_eq (p := fun x => !(inR x a b)) hl fun x hx => ?_]
  · simp only [bnd_some']
    rw [List.all_eq_not_any_not]
  · show i_areNumbers_1 x a b = _
    unfold i_areNumbers_1
    rw [i_InRange_eq]; rfl

theorem i_areTags_eq {l : List Int} (hl : l.length ≤ 1000000) : i_areTags l = some (asc 0 255 l) := by
  unfold i_areTags
  have : i_areTags_L0 l false l ((l.length : Nat) : Int) big 0 = some (if allI (fun i x => decide (i = 0) || decide (l.getD (i - 1) 0 < x)) 0 l then .inr () else .inl false) := by
    unfold i_areTags_L0
    refine (loopT (xs := l) (X := Bool ⊕ Unit) (fun i x => decide (i = 0) || decide (l.getD (i - 1) 0 < x)) (.inl false) (.inr ()) (by omega) (fun i hi nx ex hw => ?_) (fun nx ex => by simp [i_areTags_W0, i_areTags_B0]))
    simp only [i_areTags_W0, i_areTags_B0, hw]
    by_cases h0 : i = 0
    · subst h0; simp [hi]
    · have h1 := prev_idx h0 (by omega)
      have h2 : i - 1 < l.length := by omega
      have h3 : 0 < i := by omega
      by_cases h4 : l[i - 1] < l[i]
      · have : ¬ l[i] ≤ l[i - 1] := by omega
        simp (disch := omega) [hi, h0, h1, h2, h3, h4, need_of, this]
      · have : l[i] ≤ l[i - 1] := by omega
        simp (disch := omega) [hi, h0, h1, h2, h3, h4, need_of, this]
  rw [this, i_areNumbers_eq hl]
  have e : asc 0 255 l = ((l.all fun x => inR x 0 255) && allI (fun i x => decide (i = 0) || decide (l.getD (i - 1) 0 < x)) 0 l) := by
    unfold asc ascP
    rw [allI_and, allI_all (fun x => inR x 0 255)]
  rw [e]
  cases allI (fun i x => decide (i = 0) || decide (l.getD (i - 1) 0 < x)) 0 l <;> simp

theorem i_IsReserved_eq (t : Int) : i_IsReserved t = some (resv t) := by
  unfold i_IsReserved resv
  rw [i_InRange_eq, bnd_some']
  cases inR t 0 255 <;> simp

theorem i_IsHardened_eq {l : List Int} (hl : l.length ≤ 1000000) : i_IsHardened l = some (l.any resv) := by
  unfold i_IsHardened
  rw [g_ContainsFunc_int_128_eq (p := resv) hl fun x hx => i_IsReserved_eq x]; rfl

theorem i_IsBox_eq {b : BoxV} (h : smallB b) : i_IsBox b = some (isBox b) := by
  unfold i_IsBox isBox bytesB
  rw [i_InRange_eq, i_areNumbers_eq h.1, i_areNumbers_eq h.2]
  simp only [bnd_some']
  have h1 : (((b.Drops.length : Nat) : Int) ≤ 6) ↔ b.Drops.length ≤ 6 := by omega
  have h2 : (((b.Strips.length : Nat) : Int) ≤ 6) ↔ b.Strips.length ≤ 6 := by omega
  simp only [h1, h2]
  generalize (b.Drops.all fun x => inR x 0 255) = b1
  generalize (b.Strips.all fun x => inR x 0 255) = b2
  cases inR b.Limit 0 9 <;> cases decide (b.Drops.length ≤ 6) <;> cases decide (b.Strips.length ≤ 6) <;> cases b1 <;> simp

theorem i_IsEndpoint_eq {e : EndpointV} (h : smallE e) : i_IsEndpoint e = some (isEnd e) := by
  obtain ⟨h1, h2, h3, h4⟩ := h
  unfold i_IsEndpoint isEnd
  rw [i_AreVersions_eq h1, i_areTags_eq h2, i_IsHardened_eq h2, i_InRange_eq, g_ContainsFunc_Box_eq (p := fun b => !(isBox b)) h3 fun x hx => ?_]
  · simp only [bnd_some']
    have k1 : (((e.Tags.length : Nat) : Int) ≤ 5) ↔ e.Tags.length ≤ 5 := by omega
    have k2 : (((e.Path.length : Nat) : Int) ≤ 4) ↔ e.Path.length ≤ 4 := by omega
    have k3 : (e.Tags.all fun t => !resv t) = !(e.Tags.any resv) := by rw [List.all_eq_not_any_not]; simp
    have k4 : (e.Path.any fun b => !isBox b) = !(e.Path.all isBox) := by rw [List.all_eq_not_any_not]; simp
    simp only [k1, k2, k3, k4]
    generalize asc 0 255 e.Tags = b1
    generalize e.Tags.any resv = b2
    generalize e.Path.all isBox = b3
    generalize areV e.Versions = b4
    cases b1 <;> cases b2 <;> cases b3 <;> cases b4 <;> cases decide (e.Tags.length ≤ 5) <;> cases decide (e.Path.length ≤ 4) <;> simp
  · show i_IsEndpoint_1 x = _
    unfold i_IsEndpoint_1
    rw [i_IsBox_eq (h4 x hx)]; rfl

end Go.Pi

/- Worlds: sizes, copies, the test of a world. -/
namespace Go.Pi

def bdB (n : Nat) (b : BoxV) : Prop := b.Drops.length ≤ n ∧ b.Strips.length ≤ n
def bdE (n : Nat) (e : EndpointV) : Prop := e.Versions.length ≤ n ∧ e.Tags.length ≤ n ∧ e.Path.length ≤ n ∧ ∀ b ∈ e.Path, bdB n b
def bdD (n : Nat) (d : DialedV) : Prop := d.Deal.Tags.length ≤ n ∧ d.Up.length ≤ n
structure bdW (n : Nat) (w : WorldV) : Prop where
  s : w.Server.length ≤ n
  t : w.Tags.length ≤ n
  e : w.Ends.length ≤ n
  es : ∀ e ∈ w.Ends, bdE n e
  r : w.Rollout.Stages.length ≤ n
  g : w.Stage.length ≤ n
  gs : ∀ d ∈ w.Stage, bdD n d
  l : w.Log.length ≤ n
  ls : ∀ d ∈ w.Log, bdD n d.Dialed
theorem bdB.mono {m n : Nat} (h : m ≤ n) {b : BoxV} (hb : bdB m b) : bdB n b := ⟨Nat.le_trans hb.1 h, Nat.le_trans hb.2 h⟩
theorem bdE.mono {m n : Nat} (h : m ≤ n) {e : EndpointV} (he : bdE m e) : bdE n e := ⟨Nat.le_trans he.1 h, Nat.le_trans he.2.1 h, Nat.le_trans he.2.2.1 h, fun b hb => (he.2.2.2 b hb).mono h⟩
theorem bdD.mono {m n : Nat} (h : m ≤ n) {d : DialedV} (hd : bdD m d) : bdD n d := ⟨Nat.le_trans hd.1 h, Nat.le_trans hd.2 h⟩
theorem bdW.mono {m n : Nat} (h : m ≤ n) {w : WorldV} (hw : bdW m w) : bdW n w :=
  ⟨Nat.le_trans hw.s h, Nat.le_trans hw.t h, Nat.le_trans hw.e h, fun e he => (hw.es e he).mono h, Nat.le_trans hw.r h, Nat.le_trans hw.g h, fun d hd => (hw.gs d hd).mono h, Nat.le_trans hw.l h, fun d hd => (hw.ls d hd).mono h⟩

theorem filter_true {A : Type} (xs : List A) : (xs.filter fun _ => true) = xs := List.filter_eq_self.2 fun _ _ => rfl

/-- A loop that copies. -/
theorem loopC {A C : Type} {B : C → Int × List A → (Int × List A → Option (List A)) → (List A → Option (List A)) → Option (List A)} {c : C} {xs : List A} (hl : xs.length ≤ 4611686018427387904)
    (hs : ∀ (i : Nat) (hi : i < xs.length) (acc : List A) nx ex, acc.length ≤ i → w64 ((i : Int) + 1) = (i : Int) + 1 → B c ((i : Int), acc) nx ex = nx ((i : Int) + 1, acc ++ [xs[i]])) (he : ∀ acc nx ex, B c ((xs.length : Int), acc) nx ex = ex acc) :
    loopF B c big (0, []) = some xs := by
  refine (loopG (xs := xs) (fun _ => true) id hl (fun i hi acc nx ex ha hw => by rw [hs i hi acc nx ex ha hw]; simp) he).trans ?_
  rw [filter_true, List.map_id]

theorem i_copyRollout_eq {r : RolloutV} (h : r.Stages.length ≤ 1000000) : i_copyRollout r = some r := by
  unfold i_copyRollout
  rw [need_of (by simp; omega)]
  simp

theorem i_copyPath_eq {p : List BoxV} (h : p.length ≤ 1000000) (hb : ∀ b ∈ p, bdB 1000000 b) : i_copyPath p = some p := by
  unfold i_copyPath
  have : i_copyPath_L0 p ((p.length : Nat) : Int) big 0 [] = some p := by
    unfold i_copyPath_L0
    refine loopC (by omega) (fun i hi acc nx ex hacc hw => ?_) (fun acc nx ex => by simp [i_copyPath_W0, i_copyPath_B0])
    simp only [i_copyPath_W0, i_copyPath_B0]
    have hg : p.getD (i : Int).toNat (dflt (.st .box)) = p[i] := by simp [hi]
    obtain ⟨h1, h2⟩ := hb _ (List.getElem_mem hi)
    rw [hg, decide_eq_true (by omega), fork_true, need_of (by omega), need_of (by simp; omega), need_of (by simp; omega), need_of (by simp; omega), hw]
    simp
  rw [this]; rfl

theorem i_copyEndpoint_eq {e : EndpointV} (h : bdE 1000000 e) : i_copyEndpoint e = some e := by
  obtain ⟨h1, h2, h3, h4⟩ := h
  unfold i_copyEndpoint
  rw [need_of (by simp; omega), need_of (by simp; omega), i_copyPath_eq h3 h4]
  simp

theorem i_copyDialed_eq {d : DialedV} (h : bdD 1000000 d) : i_copyDialed d = some d := by
  obtain ⟨h1, h2⟩ := h
  unfold i_copyDialed
  rw [need_of (by simp; omega), need_of (by simp; omega)]
  simp

theorem i_copyWorld_eq {w : WorldV} (h : bdW 1000000 w) : i_copyWorld w = some w := by
  have hs := h.s; have ht := h.t; have he := h.e; have hr := h.r; have hg := h.g; have hl := h.l
  unfold i_copyWorld
  rw [need_of (by simp; omega), need_of (by simp; omega), i_copyRollout_eq h.r, bnd_some']
  have e0 : i_copyWorld_L0 w.Ends ((w.Ends.length : Nat) : Int) w.Server w.Tags w.Key w.Ends w.Rollout.Version w.Rollout.Stages w.Rollout.At w.Rollout.Off w.Least w.Percent w.Stage w.Log w.Now w.Hurt w.Reached 0 0 0 false 0 0 0 0 0 w.Key w.Rollout.Version w.Rollout.At w.Rollout.Off w.Least w.Percent w.Now w.Hurt w.Reached (([] : List Int) ++ w.Server) (([] : List Int) ++ w.Tags) w.Rollout.Stages big 0 ([] : List EndpointV) = some w.Ends := by
    unfold i_copyWorld_L0
    refine loopC (by omega) (fun i hi acc nx ex hacc hw => ?_) (fun acc nx ex => by simp [i_copyWorld_W0, i_copyWorld_B0])
    simp only [i_copyWorld_W0, i_copyWorld_B0]
    have hg : w.Ends.getD (i : Int).toNat (dflt (.st .endpoint)) = w.Ends[i] := by simp [hi]
    rw [hg, decide_eq_true (by omega), fork_true, need_of (by omega), i_copyEndpoint_eq (h.es _ (List.getElem_mem hi)), bnd_some', need_of (by simp; omega), hw]
  rw [e0, bnd_some']
  have e1 : i_copyWorld_L1 w.Stage ((w.Stage.length : Nat) : Int) w.Server w.Tags w.Key w.Ends w.Rollout.Version w.Rollout.Stages w.Rollout.At w.Rollout.Off w.Least w.Percent w.Stage w.Log w.Now w.Hurt w.Reached 0 0 0 false 0 0 0 0 0 w.Key w.Rollout.Version w.Rollout.At w.Rollout.Off w.Least w.Percent w.Now w.Hurt w.Reached (([] : List Int) ++ w.Server) (([] : List Int) ++ w.Tags) w.Ends w.Rollout.Stages big 0 ([] : List DialedV) = some w.Stage := by
    unfold i_copyWorld_L1
    refine loopC (by omega) (fun i hi acc nx ex hacc hw => ?_) (fun acc nx ex => by simp [i_copyWorld_W1, i_copyWorld_B1])
    simp only [i_copyWorld_W1, i_copyWorld_B1]
    have hg : w.Stage.getD (i : Int).toNat (dflt (.st .dialed)) = w.Stage[i] := by simp [hi]
    rw [hg, decide_eq_true (by omega), fork_true, need_of (by omega), i_copyDialed_eq (h.gs _ (List.getElem_mem hi)), bnd_some', need_of (by simp; omega), hw]
  rw [e1, bnd_some']
  have e2 : i_copyWorld_L2 w.Log ((w.Log.length : Nat) : Int) 0 0 0 false 0 0 0 0 0 w.Key w.Rollout.Version w.Rollout.At w.Rollout.Off w.Least w.Percent w.Now w.Hurt w.Reached (([] : List Int) ++ w.Server) (([] : List Int) ++ w.Tags) w.Ends w.Rollout.Stages w.Stage big 0 ([] : List LoggedV) = some w.Log := by
    unfold i_copyWorld_L2
    refine loopC (by omega) (fun i hi acc nx ex hacc hw => ?_) (fun acc nx ex => by simp [i_copyWorld_W2, i_copyWorld_B2])
    simp only [i_copyWorld_W2, i_copyWorld_B2]
    have hg : w.Log.getD (i : Int).toNat (dflt (.st .logged)) = w.Log[i] := by simp [hi]
    rw [hg, decide_eq_true (by omega), fork_true, need_of (by omega), i_copyDialed_eq (h.ls _ (List.getElem_mem hi)), bnd_some', need_of (by simp; omega), hw]
  rw [e2]
  simp

theorem i_ListsOf_eq {w : WorldV} (h : bdW 1000000 w) : i_ListsOf w = some (w.Ends.map EndpointV.Versions) := by
  have he := h.e
  unfold i_ListsOf
  have : i_ListsOf_L0 w.Ends ((w.Ends.length : Nat) : Int) big 0 [] = some ((w.Ends.filter fun _ => true).map EndpointV.Versions) := by
    unfold i_ListsOf_L0
    refine loopG (fun _ => true) EndpointV.Versions (by omega) (fun i hi acc nx ex hacc hw => ?_) (fun acc nx ex => by simp [i_ListsOf_W0, i_ListsOf_B0])
    simp only [i_ListsOf_W0, i_ListsOf_B0]
    have hg : w.Ends.getD (i : Int).toNat (dflt (.st .endpoint)) = w.Ends[i] := by simp [hi]
    obtain ⟨h1, _⟩ := h.es _ (List.getElem_mem hi)
    rw [hg, decide_eq_true (by omega), fork_true, need_of (by omega), need_of (by simp; omega), need_of (by simp; omega), hw]
    simp
  rw [this, filter_true]; rfl
theorem s_ListsOf_eq {w : WorldV} (h : bdW 1000000 w) : s_ListsOf w = some (w.Ends.map EndpointV.Versions) := by
  have he := h.e
  unfold s_ListsOf
  have : s_ListsOf_L0 w.Server w.Tags w.Key w.Ends w.Rollout.Version w.Rollout.Stages w.Rollout.At w.Rollout.Off w.Least w.Percent w.Stage w.Log w.Now w.Hurt w.Reached big 0 [] = some ((w.Ends.filter fun _ => true).map EndpointV.Versions) := by
    unfold s_ListsOf_L0
    refine loopG (fun _ => true) EndpointV.Versions (by omega) (fun i hi acc nx ex hacc hw => ?_) (fun acc nx ex => by simp [s_ListsOf_W0, s_ListsOf_B0])
    simp only [s_ListsOf_W0, s_ListsOf_B0]
    have hg : w.Ends.getD (i : Int).toNat (dflt (.st .endpoint)) = w.Ends[i] := by simp [hi]
    obtain ⟨h1, _⟩ := h.es _ (List.getElem_mem hi)
    rw [hg, decide_eq_true (by omega), fork_true, need_of (by omega), need_of (by simp; omega), need_of (by simp; omega), hw]
    simp
  rw [this, filter_true]; rfl

def keyOk (k : Int) : Bool := inR k 1 2147483646
def isW (w : WorldV) : Bool :=
  w.Ends.all isEnd && areV w.Server && asc 0 255 w.Tags && keyOk w.Key && decide (w.Ends.length ≤ 6) && isRoll w.Rollout && w.Server.contains w.Rollout.Version && reach w.Server (w.Ends.map EndpointV.Versions) && inR w.Least 1 100 && inR w.Percent 0 100 &&
    decide (w.Stage.length ≤ 60) && decide (w.Log.length ≤ 60) && inR w.Now 0 10000 && inR w.Hurt 0 w.Log.length && inR w.Reached 0 w.Rollout.Stages.length

theorem s_IsValidKey_eq (k : Int) : s_IsValidKey k = some (keyOk k) := by
  unfold s_IsValidKey
  rw [s_l1In_eq]; rfl
theorem i_IsValidKey_eq (k : Int) : i_IsValidKey k = some (keyOk k) := by
  unfold i_IsValidKey
  rw [i_InRange_eq]; rfl

theorem fork_not {α : Type} (b : Bool) (x y : Option α) : fork (!b) x y = fork b y x := by cases b <;> rfl
theorem fork_and (b c : Bool) : fork b (some c) (some false) = some (b && c) := by cases b <;> rfl
theorem fork_or (b c : Bool) : fork b (some false) (some c) = some (!b && c) := by cases b <;> rfl

theorem s_IsWorld_eq {w : WorldV} (h : bdW 1000000 w) : s_IsWorld w = some (isW w) := by
  have hs := h.s; have ht := h.t; have he := h.e; have hr := h.r; have hg := h.g; have hl := h.l
  unfold s_IsWorld
  have e0 : s_IsWorld_L0 false w.Server w.Tags w.Key w.Ends w.Rollout.Version w.Rollout.Stages w.Rollout.At w.Rollout.Off w.Least w.Percent w.Stage w.Log w.Now w.Hurt w.Reached big 0 = some (if w.Ends.all isEnd then .inr () else .inl false) := by
    unfold s_IsWorld_L0
    refine (loopT (xs := w.Ends) (X := Bool ⊕ Unit) (fun _ x => isEnd x) (.inl false) (.inr ()) (by omega) (fun i hi nx ex hw => ?_) (fun nx ex => by simp [s_IsWorld_W0, s_IsWorld_B0])).trans (by rw [allI_all])
    simp only [s_IsWorld_W0, s_IsWorld_B0]
    have hg : w.Ends.getD (i : Int).toNat (dflt (.st .endpoint)) = w.Ends[i] := by simp [hi]
    rw [hg, s_IsEndpoint_eq (h.es _ (List.getElem_mem hi)), decide_eq_true (by omega), fork_true, need_of (by omega), hw, bnd_some']
    cases isEnd w.Ends[i] <;> simp
  have hm : ∀ l ∈ w.Ends.map EndpointV.Versions, l.length ≤ 1000000 := fun l hl => by
    obtain ⟨e, he', rfl⟩ := List.mem_map.1 hl
    exact (h.es e he').1
  rw [e0, s_AreVersions_eq hs, s_l32Tags_eq ht, s_IsValidKey_eq, s_IsRollout_eq hr, s_l9Has_eq hs, s_ListsOf_eq h]
  simp only [bnd_some', s_l1In_eq, fork_and, fork_or, fork_not]
  rw [s_AllReach_eq hs (by simpa using he) hm]
  have k1 : (((w.Ends.length : Nat) : Int) > 6) ↔ ¬ w.Ends.length ≤ 6 := by omega
  have k2 : (((w.Stage.length : Nat) : Int) ≤ 60) ↔ w.Stage.length ≤ 60 := by omega
  have k3 : (((w.Log.length : Nat) : Int) ≤ 60) ↔ w.Log.length ≤ 60 := by omega
  simp only [bnd_some', fork_and, fork_or, fork_not, k1, k2, k3, decide_not]
  unfold isW
  cases w.Ends.all isEnd <;> simp [Bool.and_assoc]

theorem i_IsWorld_eq {w : WorldV} (h : bdW 1000000 w) : i_IsWorld w = some (isW w) := by
  have hs := h.s; have ht := h.t; have he := h.e; have hr := h.r; have hg := h.g; have hl := h.l
  unfold i_IsWorld
  have hm : ∀ l ∈ w.Ends.map EndpointV.Versions, l.length ≤ 1000000 := fun l hl => by
    obtain ⟨e, he', rfl⟩ := List.mem_map.1 hl
    exact (h.es e he').1
  rw [i_ListsOf_eq h, bnd_some', i_AllReach_eq hs (by simpa using he) hm, i_areTags_eq ht, i_IsValidKey_eq, g_ContainsFunc_Endpoint_eq (p := fun e => !(isEnd e)) he fun x hx => ?_, i_IsRollout_eq hr, g_Contains_int_eq hs]
  · have k1 : (((w.Ends.length : Nat) : Int) > 6) ↔ ¬ w.Ends.length ≤ 6 := by omega
    have k2 : (((w.Stage.length : Nat) : Int) ≤ 60) ↔ w.Stage.length ≤ 60 := by omega
    have k3 : (((w.Log.length : Nat) : Int) ≤ 60) ↔ w.Log.length ≤ 60 := by omega
    have k4 : (w.Ends.any fun e => !isEnd e) = !(w.Ends.all isEnd) := by rw [List.all_eq_not_any_not]; simp
    simp only [bnd_some', i_InRange_eq, fork_and, fork_or, fork_not, k1, k2, k3, k4, decide_not]
    have k5 : reach w.Server (w.Ends.map EndpointV.Versions) = (reach w.Server (w.Ends.map EndpointV.Versions) && areV w.Server) := by
      unfold reach; rw [Bool.and_assoc, Bool.and_self]
    unfold isW
    congr 1
    rw [k5]
    generalize reach w.Server (w.Ends.map EndpointV.Versions) = b1
    generalize areV w.Server = b2
    generalize asc 0 255 w.Tags = b3
    generalize w.Ends.all isEnd = b4
    generalize keyOk w.Key = b5
    generalize isRoll w.Rollout = b6
    cases b1 <;> cases b2 <;> cases b3 <;> cases b4 <;> cases b5 <;> cases b6 <;> simp [Bool.and_assoc]
  · show i_IsWorld_1 x = _
    unfold i_IsWorld_1
    rw [i_IsEndpoint_eq (h.es x hx)]; rfl

end Go.Pi

/- Stages: who is in, EnterStage, LeaveRollout. -/
namespace Go.Pi

def ceilD (a b : Int) : Int := if inR a 0 1000000000000 && inR b 1 1000000000000 then (a + b - 1).tdiv b else 0
theorem inR_iff {x a b : Int} : inR x a b = true ↔ a ≤ x ∧ x ≤ b := by unfold inR; simp
theorem i_CeilDiv_eq (a b : Int) : i_CeilDiv a b = some (ceilD a b) := by
  unfold i_CeilDiv ceilD
  rw [i_InRange_eq, bnd_some', fork_not]
  cases h1 : inR a 0 1000000000000 with
  | false => simp
  | true =>
    rw [i_InRange_eq, bnd_some', fork_not, fork_true]
    cases h2 : inR b 1 1000000000000 with
    | false => simp
    | true =>
      obtain ⟨a1, a2⟩ := inR_iff.1 h1
      obtain ⟨b1, b2⟩ := inR_iff.1 h2
      have q : 0 ≤ (a + b - 1).tdiv b ∧ (a + b - 1).tdiv b ≤ a + b - 1 := by
        rw [Int.tdiv_eq_ediv_of_nonneg (by omega)]
        exact ⟨Int.ediv_nonneg (by omega) (by omega), Int.ediv_le_self _ (by omega)⟩
      rw [fork_true, need_of (by omega), w64_id (x := a + b) (by omega), w64_id (x := a + b - 1) (by omega), w64_id (by omega)]
      simp

def countIn (r : RolloutV) (n : Int) : Int := if isRoll r && !r.Off && inR n 0 10000 then ceilD (n * r.Stages.getD r.At.toNat 0) 100 else 0
theorem isRoll_at {r : RolloutV} (h : isRoll r = true) : (0 ≤ r.At ∧ r.At < (r.Stages.length : Int)) ∧ (1 ≤ r.Stages.getD r.At.toNat 0 ∧ r.Stages.getD r.At.toNat 0 ≤ 100) ∧ (1 ≤ r.Version ∧ r.Version ≤ 9) := by
  unfold isRoll at h
  simp only [Bool.and_eq_true] at h
  obtain ⟨⟨⟨⟨⟨h1, h2⟩, h3⟩, h4⟩, h5⟩, h6⟩ := h
  have h6 := inR_iff.1 h6
  have h7 := (asc_sorted h1).2
  refine ⟨by omega, ?_, inR_iff.1 h2⟩
  have hi : r.At.toNat < r.Stages.length := by omega
  have : r.Stages.getD r.At.toNat 0 = r.Stages[r.At.toNat] := by simp [hi]
  rw [this]
  exact h7 _ (List.getElem_mem hi)
theorem mul_bounds {n s : Int} (h1 : 0 ≤ n) (h2 : 1 ≤ s) (h3 : s ≤ 100) : 0 ≤ n * s ∧ n * s ≤ 100 * n := by
  constructor
  · exact Int.mul_nonneg h1 (by omega)
  · have := Int.mul_le_mul_of_nonneg_left h3 h1; omega
theorem i_CountIn_eq {r : RolloutV} (h : r.Stages.length ≤ 1000000) (n : Int) : i_CountIn r n = some (countIn r n) := by
  unfold i_CountIn countIn
  rw [i_IsRollout_eq h, bnd_some', fork_not]
  cases h1 : isRoll r with
  | false => simp
  | true =>
    cases h2 : r.Off with
    | true => simp
    | false =>
      rw [i_InRange_eq, bnd_some', fork_not, fork_true, fork_false]
      cases h3 : inR n 0 10000 with
      | false => simp
      | true =>
        obtain ⟨k1, k2, _⟩ := isRoll_at h1
        obtain ⟨k3, k4⟩ := inR_iff.1 h3
        have k5 := mul_bounds k3 k2.1 k2.2
        have hz : r.Stages.getD r.At.toNat (dflt (.int .i64)) = r.Stages.getD r.At.toNat 0 := rfl
        rw [fork_true, need_of k1, hz, w64_id (by omega), i_CeilDiv_eq]
        simp
theorem countIn_le {r : RolloutV} {n : Int} (h : 0 ≤ n) : 0 ≤ countIn r n ∧ countIn r n ≤ n := by
  unfold countIn
  split
  · rename_i hc
    simp only [Bool.and_eq_true] at hc
    obtain ⟨k1, k2, _⟩ := isRoll_at hc.1.1
    have k5 := mul_bounds h k2.1 k2.2
    unfold ceilD
    split
    · rw [Int.tdiv_eq_ediv_of_nonneg (by omega)]; omega
    · omega
  · omega

def isIn (r : RolloutV) (i n : Int) : Bool := decide (i ≥ 0) && (decide (i < n) && decide (i < countIn r n))
theorem i_IsIn_eq {r : RolloutV} (h : r.Stages.length ≤ 1000000) (i n : Int) : i_IsIn r i n = some (isIn r i n) := by
  unfold i_IsIn isIn
  rw [i_CountIn_eq h, bnd_some', fork_and, fork_and]

theorem i_withVersion_eq {l : List Int} {n : Int} (hl : l.length ≤ 1000000) : i_withVersion l n = some (putL l n) := by
  have h1 : i_withVersion_L0 n l big 0 = some ((l.takeWhile (fun a => decide (a < n))).length : Int) := by
    unfold i_withVersion_L0
    refine (loopL (fun i (_ : Unit) => (i : Int)) (fun i a _ => if decide (a < n) then .inl () else .inr (i : Int)) (fun _ => (l.length : Int)) (fun _ _ => True) (fun i s hi _ => ⟨fun nx ex => ?_, fun _ _ => trivial⟩) (fun s nx ex _ => ?_) (xs := l) (s := ()) rfl (big_lt (by omega)) trivial).trans ?_
    · have hw : w64 ((i : Int) + 1) = (i : Int) + 1 := w64_id (by omega)
      simp only [i_withVersion_W0, i_withVersion_B0]
      by_cases h : l[i] < n <;> simp [hi, hw, h]
    · simp [i_withVersion_W0, i_withVersion_B0]
    · rw [goL_while (p := fun a => decide (a < n)) (f := fun i => (i : Int)) (fun i a => rfl) (by simp)]
      simp
  unfold i_withVersion g_Insert_int
  rw [h1, bnd_some', putL_eq]
  generalize hk : (l.takeWhile (fun a => decide (a < n))).length = k
  have hkl : k ≤ l.length := by rw [← hk]; exact (List.takeWhile_prefix _).length_le
  by_cases h : k < l.length
  · by_cases he : l[k] = n
    · simp (disch := omega) [h, he, need_of]
    · have hb : (l[k] == n) = false := by simpa using he
      simp (disch := omega) [h, he, hb, need_of, Nat.min_eq_left hkl]
  · have hk' : k = l.length := by omega
    subst hk'
    simp (disch := omega) [need_of]

def mapI {A : Type} (f : Nat → A → A) : Nat → List A → List A
  | _, [] => []
  | i, a :: l => f i a :: mapI f (i + 1) l
theorem mapI_length {A : Type} {f : Nat → A → A} : ∀ {xs : List A} {i : Nat}, (mapI f i xs).length = xs.length
  | [], _ => rfl
  | x :: xs, i => by rw [mapI, List.length_cons, mapI_length, List.length_cons]
theorem mapI_get {A : Type} {f : Nat → A → A} : ∀ {xs : List A} {i j : Nat}, (mapI f i xs)[j]? = xs[j]?.map (f (i + j))
  | [], i, j => by simp [mapI]
  | x :: xs, i, 0 => by simp [mapI]
  | x :: xs, i, j + 1 => by
    rw [mapI, List.getElem?_cons_succ, mapI_get, List.getElem?_cons_succ]
    rw [show i + 1 + j = i + (j + 1) by omega]

/-- A loop that changes the elements of a list, each in its place. -/
theorem loopSet {A C : Type} {B : C → Int × List A → (Int × List A → Option (List A)) → (List A → Option (List A)) → Option (List A)} {c : C} {xs : List A} (f : Nat → A → A) (hl : xs.length ≤ 4611686018427387904)
    (hs : ∀ (i : Nat) (hi : i < xs.length) (ys : List A) nx ex, ys.length = xs.length → ys[i]? = some xs[i] → w64 ((i : Int) + 1) = (i : Int) + 1 → B c ((i : Int), ys) nx ex = nx ((i : Int) + 1, ys.set i (f i xs[i])))
    (he : ∀ ys nx ex, ys.length = xs.length → B c ((xs.length : Int), ys) nx ex = ex ys) :
    loopF B c big (0, xs) = some (mapI f 0 xs) := by
  refine (loopL (fun i (s : List A) => ((i : Int), s ++ xs.drop i)) (fun i a s => .inl (s ++ [f i a])) (fun s => s) (fun i s => s.length = i) (fun i s hi hI => ⟨fun nx ex => ?_, fun s' h => ?_⟩) (fun s nx ex hI => ?_) (xs := xs) (s := []) rfl (big_lt hl) rfl).trans ?_
  · rw [hs i hi _ nx ex (by simp; omega) (by rw [List.getElem?_append_right (by omega)]; simp [hI, hi]) (w64_id (by omega))]
    congr 2
    rw [List.set_append_right _ _ (by omega), hI, Nat.sub_self, List.drop_eq_getElem_cons hi, List.set_cons_zero]
    simp
  · simp only [Sum.inl.injEq] at h
    subst h
    simp [hI]
  · rw [he _ nx ex (by simp; omega)]
    congr 1; simp
  · have : ∀ (l : List A) (i : Nat) (s : List A), goL (S := List A) (X := List A) (fun i a s => .inl (s ++ [f i a])) (fun s => s) i l s = s ++ mapI f i l := by
      intro l
      induction l with
      | nil => intro i s; simp [goL, mapI]
      | cons x xs ih => intro i s; unfold goL mapI; simp only [ih]; simp
    rw [this]; rfl

def entE (r : RolloutV) (n : Int) (i : Nat) (e : EndpointV) : EndpointV := if isIn r (i : Int) n then { e with Versions := putL e.Versions r.Version } else e
def entW (w : WorldV) : WorldV := if isRoll w.Rollout && !w.Rollout.Off then
    { w with Ends := mapI (entE w.Rollout (w.Ends.length : Int)) 0 w.Ends, Stage := [], Reached := if w64 (w.Rollout.At + 1) > w.Reached then w64 (w.Rollout.At + 1) else w.Reached }
  else w

theorem set_self {A : Type} {ys : List A} {i : Nat} {a : A} (h : ys[i]? = some a) : ys.set i a = ys := by
  obtain ⟨hi, rfl⟩ := List.getElem?_eq_some_iff.1 h
  exact List.set_getElem_self hi

theorem i_EnterStage_eq {w : WorldV} (h : bdW 1000000 w) : i_EnterStage w = some (entW w) := by
  have he := h.e
  unfold i_EnterStage entW
  rw [i_copyWorld_eq h, bnd_some', i_IsRollout_eq h.r, bnd_some', fork_not]
  cases h1 : isRoll w.Rollout with
  | false => simp
  | true =>
    cases h2 : w.Rollout.Off with
    | true => simp
    | false =>
      have e0 : i_EnterStage_L0 ((w.Ends.length : Nat) : Int) w.Server w.Tags w.Key w.Ends w.Rollout.Version w.Rollout.Stages w.Rollout.At false w.Least w.Percent w.Stage w.Log w.Now w.Hurt w.Reached 0 0 0 false 0 0 0 0 0 w.Key w.Rollout.Version w.Rollout.At false w.Least w.Percent w.Now w.Hurt w.Reached w.Rollout.Version w.Rollout.Stages w.Rollout.At false w.Server w.Tags w.Rollout.Stages w.Stage w.Log big 0 w.Ends = some (mapI (entE w.Rollout (w.Ends.length : Int)) 0 w.Ends) := by
        unfold i_EnterStage_L0
        refine loopSet _ (by omega) (fun i hi ys nx ex hy hyi hw => ?_) (fun ys nx ex hy => by simp [i_EnterStage_W0, i_EnterStage_B0])
        simp only [i_EnterStage_W0, i_EnterStage_B0]
        have hr : (⟨w.Rollout.Version, w.Rollout.Stages, w.Rollout.At, false⟩ : RolloutV) = w.Rollout := by rw [← h2]
        rw [decide_eq_true (by omega), fork_true, hr, i_IsIn_eq h.r, bnd_some', hw, hy]
        unfold entE
        have hg : ys.getD (i : Int).toNat (dflt (.st .endpoint)) = w.Ends[i] := by rw [List.getD_eq_getElem?_getD, Int.toNat_natCast, hyi]; rfl
        cases hin : isIn w.Rollout (i : Int) (w.Ends.length : Int) with
        | false => simp [set_self hyi]
        | true =>
          rw [fork_true, need_of (by omega), need_of (by omega), need_True, hg, i_withVersion_eq (h.es _ (List.getElem_mem hi)).1, bnd_some', need_of (by omega), need_True]
          simp
      rw [fork_true, fork_false, e0]
      simp

def leaE (s : List Int) (v : Int) (e : EndpointV) : EndpointV :=
  if (e.Versions.filter fun x => !([v].contains x)).length < e.Versions.length ∧ best s (e.Versions.filter fun x => !([v].contains x)) > 0 then { e with Versions := e.Versions.filter fun x => !([v].contains x) } else e
def leaW (w : WorldV) : WorldV := { w with Ends := mapI (fun _ => leaE w.Server w.Rollout.Version) 0 w.Ends, Stage := [] }

theorem i_LeaveRollout_eq {w : WorldV} (h : bdW 1000000 w) : i_LeaveRollout w = some (leaW w) := by
  have he := h.e
  unfold i_LeaveRollout leaW
  rw [i_copyWorld_eq h, bnd_some']
  have e0 : i_LeaveRollout_L0 w.Rollout.Version ((w.Ends.length : Nat) : Int) w.Server w.Tags w.Key w.Ends w.Rollout.Version w.Rollout.Stages w.Rollout.At w.Rollout.Off w.Least w.Percent w.Stage w.Log w.Now w.Hurt w.Reached 0 0 0 false 0 0 0 0 0 w.Key w.Rollout.Version w.Rollout.At w.Rollout.Off w.Least w.Percent w.Now w.Hurt w.Reached w.Server w.Tags w.Rollout.Stages w.Stage w.Log big 0 w.Ends = some (mapI (fun _ => leaE w.Server w.Rollout.Version) 0 w.Ends) := by
    unfold i_LeaveRollout_L0
    refine loopSet _ (by omega) (fun i hi ys nx ex hy hyi hw => ?_) (fun ys nx ex hy => by simp [i_LeaveRollout_W0, i_LeaveRollout_B0])
    simp only [i_LeaveRollout_W0, i_LeaveRollout_B0]
    have hg : ys.getD (i : Int).toNat (dflt (.st .endpoint)) = w.Ends[i] := by rw [List.getD_eq_getElem?_getD, Int.toNat_natCast, hyi]; rfl
    have hv := (h.es _ (List.getElem_mem hi)).1
    rw [decide_eq_true (by omega), fork_true, need_of (by omega), hg, i_without_eq hv (by simp), bnd_some', hw]
    have hf : (w.Ends[i].Versions.filter fun x => !([w.Rollout.Version].contains x)).length ≤ 1000000 := Nat.le_trans (List.length_filter_le _ _) hv
    rw [i_BestCommon_eq h.s hf, bnd_some', need_of (by omega)]
    unfold leaE
    have k1 : (((w.Ends[i].Versions.filter fun x => !([w.Rollout.Version].contains x)).length : Nat) : Int) < ((w.Ends[i].Versions.length : Nat) : Int) ↔ (w.Ends[i].Versions.filter fun x => !([w.Rollout.Version].contains x)).length < w.Ends[i].Versions.length := by omega
    rw [decide_eq_decide.2 k1]
    by_cases c1 : (w.Ends[i].Versions.filter fun x => !([w.Rollout.Version].contains x)).length < w.Ends[i].Versions.length
    · by_cases c2 : best w.Server (w.Ends[i].Versions.filter fun x => !([w.Rollout.Version].contains x)) > 0
      · rw [decide_eq_true c1, decide_eq_true c2, if_pos ⟨c1, c2⟩]; rfl
      · rw [decide_eq_true c1, decide_eq_false c2, if_neg (fun h => c2 h.2), set_self hyi]; rfl
    · rw [decide_eq_false c1, if_neg (fun h => c1 h.1), set_self hyi]; rfl
  rw [e0]
  simp

def onNew (w : WorldV) (i : Nat) (e : EndpointV) : Bool := inR (i : Int) 0 ((w.Ends.length : Int) - 1) && (isIn w.Rollout (i : Int) (w.Ends.length : Int) && e.Versions.contains w.Rollout.Version)
theorem i_IsOnNew_eq {w : WorldV} (h : bdW 1000000 w) {i : Nat} (hi : i < w.Ends.length) : i_IsOnNew w (i : Int) = some (onNew w i w.Ends[i]) := by
  have he := h.e
  unfold i_IsOnNew i_hasEnd onNew
  have hg : w.Ends.getD (i : Int).toNat (dflt (.st .endpoint)) = w.Ends[i] := by simp [hi]
  rw [w64_id (by omega), i_InRange_eq, i_IsIn_eq h.r, bnd_some', bnd_some', need_of (by omega), hg, g_Contains_int_eq (h.es _ (List.getElem_mem hi)).1]
  simp only [bnd_some', fork_and]

theorem i_OnNewCount_eq {w : WorldV} (h : bdW 1000000 w) : i_OnNewCount w = some ((idxs (onNew w) 0 w.Ends).length : Int) := by
  have he := h.e
  unfold i_OnNewCount
  have : i_OnNewCount_L0 0 ((w.Ends.length : Nat) : Int) w.Server w.Tags w.Key w.Ends w.Rollout.Version w.Rollout.Stages w.Rollout.At w.Rollout.Off w.Least w.Percent w.Stage w.Log w.Now w.Hurt w.Reached big 0 0 = some ((idxs (onNew w) 0 w.Ends).length : Int) := by
    unfold i_OnNewCount_L0
    refine (loopL (xs := w.Ends) (fun i (s : Int) => (s, (i : Int))) (fun i a s => .inl (if onNew w i a then s + 1 else s)) (fun s => s) (fun i s => 0 ≤ s ∧ s ≤ i) (fun i s hi hI => ⟨fun nx ex => ?_, fun s' h => ?_⟩) (fun s nx ex _ => ?_) (s := 0) rfl (big_lt (by omega)) (by simp)).trans ?_
    · simp only [i_OnNewCount_W0, i_OnNewCount_B0]
      rw [decide_eq_true (by omega), fork_true, i_IsOnNew_eq h hi, bnd_some', w64_id (x := s + 1) (by omega), w64_id (x := (i : Int) + 1) (by omega)]
      cases onNew w i w.Ends[i] <;> simp
    · simp only [Sum.inl.injEq] at h
      subst h
      split <;> omega
    · simp [i_OnNewCount_W0, i_OnNewCount_B0]
    · rw [goL_count (p := onNew w) (fun i a s => rfl)]; simp
  rw [this]; rfl

def hasV (w : WorldV) (v : Int) : List Nat := idxs (fun _ e => e.Versions.contains v) 0 w.Ends
theorem i_HasVersion_eq {w : WorldV} (h : bdW 1000000 w) (v : Int) : i_HasVersion w v = some ((hasV w v).map Nat.cast) := by
  have he := h.e
  unfold i_HasVersion
  have : i_HasVersion_L0 v w.Ends ((w.Ends.length : Nat) : Int) big 0 [] = some ((hasV w v).map Nat.cast) := by
    unfold i_HasVersion_L0
    refine (loopL (xs := w.Ends) (fun i (s : List Int) => ((i : Int), s)) (fun i a s => .inl (if a.Versions.contains v then s ++ [(i : Int)] else s)) (fun s => s) (fun i s => s.length ≤ i) (fun i s hi hI => ⟨fun nx ex => ?_, fun s' h => ?_⟩) (fun s nx ex _ => ?_) (s := []) rfl (big_lt (by omega)) (by simp)).trans ?_
    · simp only [i_HasVersion_W0, i_HasVersion_B0]
      have hg : w.Ends.getD (i : Int).toNat (dflt (.st .endpoint)) = w.Ends[i] := by simp [hi]
      rw [decide_eq_true (by omega), fork_true, need_of (by omega), hg, g_Contains_int_eq (h.es _ (List.getElem_mem hi)).1, bnd_some', need_of (by simp; omega), w64_id (x := (i : Int) + 1) (by omega)]
      cases w.Ends[i].Versions.contains v <;> simp
    · simp only [Sum.inl.injEq] at h
      subst h
      split
      · simp; omega
      · omega
    · simp [i_HasVersion_W0, i_HasVersion_B0]
    · rw [goL_idxs (p := fun _ (e : EndpointV) => e.Versions.contains v) (fun i a s => rfl)]; simp [hasV]
  rw [this]; rfl

end Go.Pi
