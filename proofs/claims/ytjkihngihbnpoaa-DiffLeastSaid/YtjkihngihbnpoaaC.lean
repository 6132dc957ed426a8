/-
  quitclaim/quitclaimlaw12.long: what it answers. (Printed by wip/tools/gen.py.)
-/
import Derived.Test.YtjkihngihbnpoaaB
import Derived.WalkKit
import Derived.Lib.Walk
import Derived.Lib.Strings
import Derived.Lib.Bytealg
import Derived.BigCall
import Derived.BigGuard
import Derived.Deep.Draws
import Derived.Lib.IndexLaws
set_option linter.unusedSimpArgs false
set_option linter.unusedVariables false
namespace Go.Ev
open Go.Proofs
abbrev S8_2 : Shape := ⟨[(2, .d .bool), (7, .d (.slice (.slice .str))), (8, .d (.int .i64)), (9, .d (.int .i64))], []⟩
abbrev O8_2 : Shape := ⟨[(2, .d .bool)], []⟩
abbrev S8_7 : Shape := ⟨[(2, .d .bool), (7, .d (.slice (.slice .str))), (8, .d (.int .i64)), (9, .d (.int .i64)), (16, .d (.slice .str)), (17, .d (.int .i64)), (18, .d (.int .i64))], []⟩
abbrev O8_7 : Shape := ⟨[(2, .d .bool), (7, .d (.slice (.slice .str))), (8, .d (.int .i64)), (9, .d (.int .i64))], []⟩
abbrev A8 : Ty := (.cons (.slice (.slice .str)) .unit)
abbrev R8 : List RT := [.d .bool]
noncomputable def F8 (N : Nat) : Fn := { fns := [], writes := [], loops := [(2, S8_2, O8_2), (7, S8_7, O8_7)], conds := [], mats := [], vecs := [], fins := [] }
noncomputable def L8_2 (N : Nat) : Nat → S8_2.den → Option (Ctl × O8_2.den) := loopFn (tab.ctx (F8 N)) N (loopCode Try.f8 2) S8_2 O8_2
noncomputable def L8_7 (N : Nat) : Nat → S8_7.den → Option (Ctl × O8_7.den) := loopFn (tab.ctx (F8 N)) N (loopCode Try.f8 7) S8_7 O8_7
theorem L8_2_succ (N n : Nat) (t2 : Bool) (t7 : (Ty.den (.slice (.slice .str)))) (t8 : Int) (t9 : Int) : L8_2 N (n + 1) ((t2, t7, t8, t9, ()), ()) =
 (if decide (t9 < t8) = true then
  if (0 : Int) ≤ t9 ∧ t9 < (↑(List.length t7) : Int) then
    if decide ((40 : Int) < (↑(List.length (List.getD t7 t9.toNat Ty.str.slice.zero)) : Int)) = true then
      some (Ctl.ret, (true, ()), ())
    else
      (L8_7 N N
            ((t2, t7, t8, t9, List.getD t7 t9.toNat Ty.str.slice.zero,
                (↑(List.length (List.getD t7 t9.toNat Ty.str.slice.zero)) : Int), (0 : Int), ()),
              ())).bind
        fun (r : Ctl × O8_7.den) =>
        r.fst.elim none
          (fun (id : Nat) =>
            if id = (2 : Nat) then
              L8_2 N n
                ((r.snd.fst.fst, r.snd.fst.snd.fst, r.snd.fst.snd.snd.fst,
                    IntKind.i64.wrap (r.snd.fst.snd.snd.snd.fst + (1 : Int)), ()),
                  ())
            else
              if id = (1 : Nat) then
                L8_2 N n
                  ((r.snd.fst.fst, r.snd.fst.snd.fst, r.snd.fst.snd.snd.fst,
                      IntKind.i64.wrap (r.snd.fst.snd.snd.snd.fst + (1 : Int)), ()),
                    ())
              else some (Ctl.exit id, (r.snd.fst.fst, ()), ()))
          (fun (id : Nat) => some (Ctl.goto id, (r.snd.fst.fst, ()), ()))
          (some (Ctl.ret, (r.snd.fst.fst, ()), ()))
  else none
else some (Ctl.exit (0 : Nat), (t2, ()), ())) := by kernel_rfl
theorem L8_7_succ (N n : Nat) (t2 : Bool) (t7 : (Ty.den (.slice (.slice .str)))) (t8 : Int) (t9 : Int) (t16 : (Ty.den (.slice .str))) (t17 : Int) (t18 : Int) : L8_7 N (n + 1) ((t2, t7, t8, t9, t16, t17, t18, ()), ()) =
 (if decide (t18 < t17) = true then
  if (0 : Int) ≤ t18 ∧ t18 < (↑(List.length t16) : Int) then
    if decide ((300 : Int) < (↑(ByteArray.size (List.getD t16 t18.toNat (Ty.zero .str))) : Int)) = true then
      some (Ctl.ret, (true, t7, t8, t9, ()), ())
    else L8_7 N n ((t2, t7, t8, t9, t16, t17, IntKind.i64.wrap (t18 + (1 : Int)), ()), ())
  else none
else some (Ctl.exit (2 : Nat), (t2, t7, t8, t9, ()), ())) := by kernel_rfl
noncomputable def g8 (N : Nat) (x : A8.den) : Option (RTs.den R8) :=
 (L8_2 N N ((false, x.1, (↑(List.length x.1) : Int), (0 : Int), ()), ())).bind
  fun (r : Ctl × O8_2.den) =>
  r.fst.elim none (fun (id : Nat) => if id = (0 : Nat) then some (false, ()) else none) (fun (id : Nat) => none)
    (some (r.snd.fst.fst, ()))
theorem run8 (N : Nat) (x : A8.den) : run (tab.ctx (F8 N)) N Try.f8 A8 R8 x = g8 N x := by kernel_rfl
theorem ok8 (N : Nat) : okFn (tab.ctx (F8 N)) Try.f8 A8 = true := by kernel_rfl
theorem fns8 (N : Nat) : FnOK Try.prog (tab.ctx (F8 N)) := fnOK_nil
theorem pure8 (N : Nat) : PureOK Try.prog 8 A8 R8 (g8 N) := pureOK (tab.ctxOK tab_ok _) (fns8 N) Try.func8 (ok8 N) (run8 N)
end Go.Ev

/-
  quitclaim/quitclaimref11.Line: what it answers. (Printed by wip/tools/gen.py.)
-/
namespace Go.Ev
open Go.Proofs
abbrev S27 : Shape := ⟨[(0, .d .str), (2, .d .bool), (3, .d (.int .i64))], []⟩
abbrev O27 : Shape := ⟨[(0, .d .str), (2, .d .bool)], []⟩
abbrev A27 : Ty := (.cons .str .unit)
abbrev R27 : List RT := [.d .bool]
noncomputable def F27 (N : Nat) : Fn := { fns := [], writes := [], loops := [(2, S27, O27)], conds := [], mats := [], vecs := [], fins := [] }
noncomputable def L27 (N : Nat) : Nat → S27.den → Option (Ctl × O27.den) := loopFn (tab.ctx (F27 N)) N (loopCode Try.f27 2) S27 O27
theorem L27_succ (N n : Nat) (t0 : ByteArray) (t2 : Bool) (t3 : Int) : L27 N (n + 1) ((t0, t2, t3, ()), ()) =
 (if decide (t3 < (↑t0.size : Int)) = true then
  if (0 : Int) ≤ t3 ∧ t3 < (↑t0.size : Int) then
    if decide ((↑(t0.data.getD t3.toNat (0 : UInt8)).toNat : Int) = (10 : Int)) = true then
      some (Ctl.ret, (t0, false, ()), ())
    else L27 N n ((t0, t2, IntKind.i64.wrap (t3 + (1 : Int)), ()), ())
  else none
else some (Ctl.exit (0 : Nat), (t0, t2, ()), ())) := by kernel_rfl
noncomputable def g27 (N : Nat) (x : A27.den) : Option (RTs.den R27) :=
 (L27 N N ((x.1, false, (0 : Int), ()), ())).bind fun (r : Ctl × O27.den) =>
  r.fst.elim none
    (fun (id : Nat) =>
      if id = (0 : Nat) then some (decide ((↑(ByteArray.size r.snd.fst.fst) : Int) ≤ (200 : Int)), ())
      else none)
    (fun (id : Nat) => none) (some (r.snd.fst.snd.fst, ()))
theorem run27 (N : Nat) (x : A27.den) : run (tab.ctx (F27 N)) N Try.f27 A27 R27 x = g27 N x := by kernel_rfl
theorem ok27 (N : Nat) : okFn (tab.ctx (F27 N)) Try.f27 A27 = true := by kernel_rfl
theorem fns27 (N : Nat) : FnOK Try.prog (tab.ctx (F27 N)) := fnOK_nil
theorem pure27 (N : Nat) : PureOK Try.prog 27 A27 R27 (g27 N) := pureOK (tab.ctxOK tab_ok _) (fns27 N) Try.func27 (ok27 N) (run27 N)
end Go.Ev

/-
  quitclaim/quitclaimref11.Lines: what it answers. (Printed by wip/tools/gen.py.)
-/
namespace Go.Ev
open Go.Proofs
abbrev S12 : Shape := ⟨[(0, .d (.slice .str)), (2, .d .bool), (3, .d (.int .i64))], []⟩
abbrev O12 : Shape := ⟨[(0, .d (.slice .str)), (2, .d .bool)], []⟩
abbrev A12 : Ty := (.cons (.slice .str) .unit)
abbrev R12 : List RT := [.d .bool]
noncomputable def F12 (N : Nat) : Fn := { fns := [(27, .pure A27 R27 (g27 N))], writes := [], loops := [(2, S12, O12)], conds := [], mats := [], vecs := [], fins := [] }
noncomputable def L12 (N : Nat) : Nat → S12.den → Option (Ctl × O12.den) := loopFn (tab.ctx (F12 N)) N (loopCode Try.f12 2) S12 O12
theorem L12_succ (N n : Nat) (t0 : (Ty.den (.slice .str))) (t2 : Bool) (t3 : Int) : L12 N (n + 1) ((t0, t2, t3, ()), ()) =
 (if decide (t3 < (↑(List.length t0) : Int)) = true then
  if (0 : Int) ≤ t3 ∧ t3 < (↑(List.length t0) : Int) then
    (g27 N (List.getD t0 t3.toNat (Ty.zero .str), ())).bind fun (r : RTs.den R27) =>
      if (!r.fst) = true then some (Ctl.ret, (t0, false, ()), ())
      else L12 N n ((t0, t2, IntKind.i64.wrap (t3 + (1 : Int)), ()), ())
  else none
else some (Ctl.exit (0 : Nat), (t0, t2, ()), ())) := by kernel_rfl
noncomputable def g12 (N : Nat) (x : A12.den) : Option (RTs.den R12) :=
 (L12 N N ((x.1, false, (0 : Int), ()), ())).bind fun (r : Ctl × O12.den) =>
  r.fst.elim none
    (fun (id : Nat) =>
      if id = (0 : Nat) then some (decide ((↑(List.length r.snd.fst.fst) : Int) ≤ (1000 : Int)), ()) else none)
    (fun (id : Nat) => none) (some (r.snd.fst.snd.fst, ()))
theorem run12 (N : Nat) (x : A12.den) : run (tab.ctx (F12 N)) N Try.f12 A12 R12 x = g12 N x := by kernel_rfl
theorem ok12 (N : Nat) : okFn (tab.ctx (F12 N)) Try.f12 A12 = true := by kernel_rfl
theorem fns12 (N : Nat) : FnOK Try.prog (tab.ctx (F12 N)) := (fnOK_cons (pure27 N) fnOK_nil)
theorem pure12 (N : Nat) : PureOK Try.prog 12 A12 R12 (g12 N) := pureOK (tab.ctxOK tab_ok _) (fns12 N) Try.func12 (ok12 N) (run12 N)
end Go.Ev

/-
  quitclaim/quitclaimref05.Same: what it answers. (Printed by wip/tools/gen.py.)
-/
namespace Go.Ev
open Go.Proofs
abbrev S17 : Shape := ⟨[(0, .d (.slice .str)), (1, .d (.slice .str)), (4, .d .bool), (5, .d (.int .i64))], []⟩
abbrev O17 : Shape := ⟨[(4, .d .bool)], []⟩
abbrev A17 : Ty := (.cons (.slice .str) (.cons (.slice .str) .unit))
abbrev R17 : List RT := [.d .bool]
noncomputable def F17 (N : Nat) : Fn := { fns := [], writes := [], loops := [(4, S17, O17)], conds := [], mats := [], vecs := [], fins := [] }
noncomputable def L17 (N : Nat) : Nat → S17.den → Option (Ctl × O17.den) := loopFn (tab.ctx (F17 N)) N (loopCode Try.f17 4) S17 O17
theorem L17_succ (N n : Nat) (t0 : (Ty.den (.slice .str))) (t1 : (Ty.den (.slice .str))) (t4 : Bool) (t5 : Int) : L17 N (n + 1) ((t0, t1, t4, t5, ()), ()) =
 (if decide (t5 < (↑(List.length t0) : Int)) = true then
  if (0 : Int) ≤ t5 ∧ t5 < (↑(List.length t0) : Int) then
    if (0 : Int) ≤ t5 ∧ t5 < (↑(List.length t1) : Int) then
      if decide (List.getD t0 t5.toNat (Ty.zero .str) ≠ List.getD t1 t5.toNat (Ty.zero .str)) = true then
        some (Ctl.ret, (false, ()), ())
      else L17 N n ((t0, t1, t4, IntKind.i64.wrap (t5 + (1 : Int)), ()), ())
    else none
  else none
else some (Ctl.exit (0 : Nat), (t4, ()), ())) := by kernel_rfl
noncomputable def g17 (N : Nat) (x : A17.den) : Option (RTs.den R17) :=
 if decide ((↑(List.length x.1) : Int) ≠ (↑(List.length x.2.1) : Int)) = true then some (false, ())
else
  (L17 N N ((x.1, x.2.1, false, (0 : Int), ()), ())).bind fun (r : Ctl × O17.den) =>
    r.fst.elim none (fun (id : Nat) => if id = (0 : Nat) then some (true, ()) else none)
      (fun (id : Nat) => none) (some (r.snd.fst.fst, ()))
theorem run17 (N : Nat) (x : A17.den) : run (tab.ctx (F17 N)) N Try.f17 A17 R17 x = g17 N x := by kernel_rfl
theorem ok17 (N : Nat) : okFn (tab.ctx (F17 N)) Try.f17 A17 = true := by kernel_rfl
theorem fns17 (N : Nat) : FnOK Try.prog (tab.ctx (F17 N)) := fnOK_nil
theorem pure17 (N : Nat) : PureOK Try.prog 17 A17 R17 (g17 N) := pureOK (tab.ctxOK tab_ok _) (fns17 N) Try.func17 (ok17 N) (run17 N)
end Go.Ev

/-
  quitclaim/quitclaimref11.Same: what it answers. (Printed by wip/tools/gen.py.)
-/
namespace Go.Ev
open Go.Proofs
abbrev A15 : Ty := (.cons (.agg (.cons (.int .i64) (.cons (.slice .str) (.cons (.slice .str) .unit)))) (.cons (.agg (.cons (.int .i64) (.cons (.slice .str) (.cons (.slice .str) .unit)))) .unit))
abbrev R15 : List RT := [.d .bool]
noncomputable def F15 (N : Nat) : Fn := { fns := [(17, .pure A17 R17 (g17 N))], writes := [], loops := [], conds := [], mats := [], vecs := [], fins := [] }
noncomputable def g15 (N : Nat) (x : A15.den) : Option (RTs.den R15) :=
 (if decide (x.1.fst = x.2.1.fst) = true then
      (g17 N (x.1.snd.fst, x.2.1.snd.fst, ())).bind fun (r : RTs.den R17) =>
        if r.fst = true then
          (g17 N (x.1.snd.snd.fst, x.2.1.snd.snd.fst, ())).bind fun (r : RTs.den R17) => some r.fst
        else some false
    else some false).bind
  fun (b : Bool) => some (b, ())
theorem run15 (N : Nat) (x : A15.den) : run (tab.ctx (F15 N)) N Try.f15 A15 R15 x = g15 N x := by kernel_rfl
theorem ok15 (N : Nat) : okFn (tab.ctx (F15 N)) Try.f15 A15 = true := by kernel_rfl
theorem fns15 (N : Nat) : FnOK Try.prog (tab.ctx (F15 N)) := (fnOK_cons (pure17 N) fnOK_nil)
theorem pure15 (N : Nat) : PureOK Try.prog 15 A15 R15 (g15 N) := pureOK (tab.ctxOK tab_ok _) (fns15 N) Try.func15 (ok15 N) (run15 N)
end Go.Ev

/-
  quitclaim/diff.Size: what it answers. (Printed by wip/tools/gen.py.)
-/
namespace Go.Ev
open Go.Proofs
abbrev S18 : Shape := ⟨[(3, .d (.int .i64)), (6, .d (.slice (.agg (.cons (.int .i64) (.cons (.slice .str) (.cons (.slice .str) .unit)))))), (7, .d (.int .i64)), (8, .d (.int .i64))], []⟩
abbrev O18 : Shape := ⟨[(3, .d (.int .i64))], []⟩
abbrev A18 : Ty := (.cons (.slice (.agg (.cons (.int .i64) (.cons (.slice .str) (.cons (.slice .str) .unit))))) .unit)
abbrev R18 : List RT := [.d (.int .i64)]
noncomputable def F18 (N : Nat) : Fn := { fns := [], writes := [], loops := [(3, S18, O18)], conds := [], mats := [], vecs := [], fins := [] }
noncomputable def L18 (N : Nat) : Nat → S18.den → Option (Ctl × O18.den) := loopFn (tab.ctx (F18 N)) N (loopCode Try.f18 3) S18 O18
theorem L18_succ (N n : Nat) (t3 : Int) (t6 : (Ty.den (.slice (.agg (.cons (.int .i64) (.cons (.slice .str) (.cons (.slice .str) .unit))))))) (t7 : Int) (t8 : Int) : L18 N (n + 1) ((t3, t6, t7, t8, ()), ()) =
 (if decide (t8 < t7) = true then
  if (0 : Int) ≤ t8 ∧ t8 < (↑(List.length t6) : Int) then
    L18 N n
      ((IntKind.i64.wrap
            (t3 +
              IntKind.i64.wrap
                ((↑(List.length
                        (List.getD t6 t8.toNat
                              ((Ty.int IntKind.i64).cons
                                    (Ty.str.slice.cons (Ty.str.slice.cons Ty.unit))).agg.zero).snd.fst) :
                    Int) +
                  (↑(List.length
                        (List.getD t6 t8.toNat
                                ((Ty.int IntKind.i64).cons
                                      (Ty.str.slice.cons (Ty.str.slice.cons Ty.unit))).agg.zero).snd.snd.fst) :
                    Int))),
          t6, t7, IntKind.i64.wrap (t8 + (1 : Int)), ()),
        ())
  else none
else some (Ctl.exit (0 : Nat), (t3, ()), ())) := by kernel_rfl
noncomputable def g18 (N : Nat) (x : A18.den) : Option (RTs.den R18) :=
 (L18 N N (((0 : Int), x.1, (↑(List.length x.1) : Int), (0 : Int), ()), ())).bind
  fun (r : Ctl × O18.den) =>
  r.fst.elim none (fun (id : Nat) => if id = (0 : Nat) then some (r.snd.fst.fst, ()) else none)
    (fun (id : Nat) => none) none
theorem run18 (N : Nat) (x : A18.den) : run (tab.ctx (F18 N)) N Try.f18 A18 R18 x = g18 N x := by kernel_rfl
theorem ok18 (N : Nat) : okFn (tab.ctx (F18 N)) Try.f18 A18 = true := by kernel_rfl
theorem fns18 (N : Nat) : FnOK Try.prog (tab.ctx (F18 N)) := fnOK_nil
theorem pure18 (N : Nat) : PureOK Try.prog 18 A18 R18 (g18 N) := pureOK (tab.ctxOK tab_ok _) (fns18 N) Try.func18 (ok18 N) (run18 N)
end Go.Ev

/-
  slices.Equal[[]string,string]: what it answers. (Printed by wip/tools/gen.py.)
-/
namespace Go.Ev
open Go.Proofs
abbrev S37 : Shape := ⟨[(0, .d (.slice .str)), (1, .d (.slice .str)), (4, .d .bool), (12, .d (.int .i64)), (13, .d (.int .i64))], []⟩
abbrev O37 : Shape := ⟨[(4, .d .bool)], []⟩
abbrev A37 : Ty := (.cons (.slice .str) (.cons (.slice .str) .unit))
abbrev R37 : List RT := [.d .bool]
noncomputable def F37 (N : Nat) : Fn := { fns := [], writes := [], loops := [(4, S37, O37)], conds := [], mats := [], vecs := [], fins := [] }
noncomputable def L37 (N : Nat) : Nat → S37.den → Option (Ctl × O37.den) := loopFn (tab.ctx (F37 N)) N (loopCode Try.f37 4) S37 O37
theorem L37_succ (N n : Nat) (t0 : (Ty.den (.slice .str))) (t1 : (Ty.den (.slice .str))) (t4 : Bool) (t12 : Int) (t13 : Int) : L37 N (n + 1) ((t0, t1, t4, t12, t13, ()), ()) =
 (if decide (t13 < t12) = true then
  if (0 : Int) ≤ t13 ∧ t13 < (↑(List.length t0) : Int) then
    if (0 : Int) ≤ t13 ∧ t13 < (↑(List.length t1) : Int) then
      if decide (List.getD t0 t13.toNat (Ty.zero .str) ≠ List.getD t1 t13.toNat (Ty.zero .str)) = true then
        some (Ctl.ret, (false, ()), ())
      else L37 N n ((t0, t1, t4, t12, IntKind.i64.wrap (t13 + (1 : Int)), ()), ())
    else none
  else none
else some (Ctl.exit (0 : Nat), (t4, ()), ())) := by kernel_rfl
noncomputable def g37 (N : Nat) (x : A37.den) : Option (RTs.den R37) :=
 if decide ((↑(List.length x.1) : Int) ≠ (↑(List.length x.2.1) : Int)) = true then some (false, ())
else
  (L37 N N ((x.1, x.2.1, false, (↑(List.length x.1) : Int), (0 : Int), ()), ())).bind
    fun (r : Ctl × O37.den) =>
    r.fst.elim none (fun (id : Nat) => if id = (0 : Nat) then some (true, ()) else none)
      (fun (id : Nat) => none) (some (r.snd.fst.fst, ()))
theorem run37 (N : Nat) (x : A37.den) : run (tab.ctx (F37 N)) N Try.f37 A37 R37 x = g37 N x := by kernel_rfl
theorem ok37 (N : Nat) : okFn (tab.ctx (F37 N)) Try.f37 A37 = true := by kernel_rfl
theorem fns37 (N : Nat) : FnOK Try.prog (tab.ctx (F37 N)) := fnOK_nil
theorem pure37 (N : Nat) : PureOK Try.prog 37 A37 R37 (g37 N) := pureOK (tab.ctxOK tab_ok _) (fns37 N) Try.func37 (ok37 N) (run37 N)
end Go.Ev

/-
  quitclaim/hunk.Same: what it answers. (Printed by wip/tools/gen.py.)
-/
namespace Go.Ev
open Go.Proofs
abbrev A23 : Ty := (.cons (.agg (.cons (.int .i64) (.cons (.slice .str) (.cons (.slice .str) .unit)))) (.cons (.agg (.cons (.int .i64) (.cons (.slice .str) (.cons (.slice .str) .unit)))) .unit))
abbrev R23 : List RT := [.d .bool]
noncomputable def F23 (N : Nat) : Fn := { fns := [(37, .pure A37 R37 (g37 N))], writes := [], loops := [], conds := [], mats := [], vecs := [], fins := [] }
noncomputable def g23 (N : Nat) (x : A23.den) : Option (RTs.den R23) :=
 (if decide (x.1.fst = x.2.1.fst) = true then
      (g37 N (x.1.snd.fst, x.2.1.snd.fst, ())).bind fun (r : RTs.den R37) =>
        if r.fst = true then
          (g37 N (x.1.snd.snd.fst, x.2.1.snd.snd.fst, ())).bind fun (r : RTs.den R37) => some r.fst
        else some false
    else some false).bind
  fun (b : Bool) => some (b, ())
theorem run23 (N : Nat) (x : A23.den) : run (tab.ctx (F23 N)) N Try.f23 A23 R23 x = g23 N x := by kernel_rfl
theorem ok23 (N : Nat) : okFn (tab.ctx (F23 N)) Try.f23 A23 = true := by kernel_rfl
theorem fns23 (N : Nat) : FnOK Try.prog (tab.ctx (F23 N)) := (fnOK_cons (pure37 N) fnOK_nil)
theorem pure23 (N : Nat) : PureOK Try.prog 23 A23 R23 (g23 N) := pureOK (tab.ctxOK tab_ok _) (fns23 N) Try.func23 (ok23 N) (run23 N)
end Go.Ev

/-
  internal/stringslite.IndexByte (its last step is an entry of the runtime's): by hand, after the shelf's proof.
-/
namespace Go.Ev
open Go.Proofs Go.RowKit

set_option maxHeartbeats 1000000 in
set_option maxRecDepth 100000 in
theorem calls49 (s : ByteArray) (c : Int) (w : World) :
    Calls Try.prog 49 #[.string s, .int .u8 c] w fun e w' => e = .returned (.int .i64 (Lib.indexByte s.data.toList c.toNat.toUInt8)) ∧ w' = w := by
  go_enter Try.func49, Try.ntmps49
  go_wp2
  rw [run_callFunc_extern Try.func53 (by kernel_rfl) (by kernel_rfl) (by kernel_rfl) (e := Extern.BytealgIndexByte.indexByte) (by kernel_rfl), Lib.run_indexByteString]
  simp only [Result.andThen]
  rw [Oper.upon_value]
  go_wp2
  go_ret
  exact ⟨rfl, rfl⟩

abbrev A49 : Ty := (.cons .str (.cons (.int .u8) .unit))
abbrev R49 : List RT := [.d (.int .i64)]
noncomputable def g49 (N : Nat) (x : A49.den) : Option (RTs.den R49) := some (Lib.indexByte x.1.data.toList x.2.1.toNat.toUInt8, ())

theorem pure49 (N : Nat) : PureOK Try.prog 49 A49 R49 (g49 N) := by
  refine ⟨⟨Try.f49, Try.func49, by kernel_rfl, of_decide_eq_false (by kernel_rfl)⟩, fun x r hr com w vs hlt hargs => ?_⟩
  obtain ⟨v1, l1, rfl, h1, v2, l2, rfl, h2, h3⟩ := hargs
  have h3 : l2 = [] := h3
  subst h3
  have e1 := val_str h1
  have e2 := val_int h2
  subst e1
  subst e2
  cases hr
  refine (calls49 x.1 x.2.1 w).mono ?_
  rintro e w' ⟨rfl, rfl⟩
  exact ⟨[_], com, rfl, Below.refl _ _, fun _ _ _ => Iff.rfl, hlt, _, _, rfl, Val.int, rfl⟩
end Go.Ev

/-
  internal/stringslite.Index: what it answers. (Printed by wip/tools/gen.py.)
-/
namespace Go.Ev
open Go.Proofs
abbrev S48 : Shape := ⟨[(0, .d .str), (1, .d .str), (4, .d (.int .i64)), (5, .d (.int .i64)), (6, .d (.int .u8)), (7, .d (.int .u8)), (8, .d (.int .i64)), (9, .d (.int .i64)), (10, .d (.int .i64))], []⟩
abbrev O48 : Shape := ⟨[(4, .d (.int .i64))], []⟩
abbrev J48_64 : Shape := ⟨[(0, .d .str), (1, .d .str), (4, .d (.int .i64)), (5, .d (.int .i64)), (6, .d (.int .u8)), (7, .d (.int .u8)), (8, .d (.int .i64)), (9, .d (.int .i64)), (10, .d (.int .i64))], []⟩
abbrev A48 : Ty := (.cons .str (.cons .str .unit))
abbrev R48 : List RT := [.d (.int .i64)]
noncomputable def F48 (N : Nat) : Fn := { fns := [(49, .pure A49 R49 (g49 N))], writes := [], loops := [(15, S48, O48)], conds := [(64, J48_64)], mats := [], vecs := [], fins := [] }
noncomputable def L48 (N : Nat) : Nat → S48.den → Option (Ctl × O48.den) := loopFn (tab.ctx (F48 N)) N (loopCode Try.f48 15) S48 O48
theorem L48_succ (N n : Nat) (t0 : ByteArray) (t4 : Int) (t5 : Int) (t6 : Int) (t7 : Int) (t8 : Int) (t9 : Int) (t10 : Int) : L48 N (n + 1) ((t0, (⟨#[10]⟩ : ByteArray), t4, t5, t6, t7, t8, t9, t10, ()), ()) =
 (if decide (t8 < t9) = true then
  if (0 : Int) ≤ t8 ∧ t8 < (↑t0.size : Int) then
    (if decide ((↑(t0.data.getD t8.toNat (0 : UInt8)).toNat : Int) ≠ t6) = true then
          if
              (0 : Int) ≤ IntKind.i64.wrap (t8 + (1 : Int)) ∧
                IntKind.i64.wrap (t8 + (1 : Int)) ≤ t9 ∧ t9 ≤ (↑t0.size : Int) then
            (g49 N (t0.extract (IntKind.i64.wrap (t8 + (1 : Int))).toNat t9.toNat, t6, ())).bind
              fun (r : RTs.den R49) =>
              if decide (r.fst < (0 : Int)) = true then
                some
                  (Ctl.ret,
                    (t0, ByteArray.mk (Array.mk [(10 : UInt8)]), (-1 : Int), t5, t6, t7, t8, t9, t10, ()),
                    ())
              else
                some
                  (Ctl.normal,
                    (t0, ByteArray.mk (Array.mk [(10 : UInt8)]), t4, t5, t6, t7,
                      IntKind.i64.wrap (t8 + IntKind.i64.wrap (r.fst + (1 : Int))), t9, t10, ()),
                    ())
          else none
        else
          some
            (Ctl.normal, (t0, ByteArray.mk (Array.mk [(10 : UInt8)]), t4, t5, t6, t7, t8, t9, t10, ()),
              ())).bind
      fun (r : Ctl × J48_64.den) =>
      r.fst.elim
        ((if
                (0 : Int) ≤ IntKind.i64.wrap (r.snd.fst.snd.snd.snd.snd.snd.snd.fst + (1 : Int)) ∧
                  IntKind.i64.wrap (r.snd.fst.snd.snd.snd.snd.snd.snd.fst + (1 : Int)) <
                    (↑(ByteArray.size r.snd.fst.fst) : Int) then
              if
                  decide
                      ((↑(r.snd.fst.fst.data.getD
                                (IntKind.i64.wrap (r.snd.fst.snd.snd.snd.snd.snd.snd.fst + (1 : Int))).toNat
                                (0 : UInt8)).toNat :
                          Int) =
                        r.snd.fst.snd.snd.snd.snd.snd.fst) =
                    true then
                if
                    (0 : Int) ≤ r.snd.fst.snd.snd.snd.snd.snd.snd.fst ∧
                      r.snd.fst.snd.snd.snd.snd.snd.snd.fst ≤
                          IntKind.i64.wrap (r.snd.fst.snd.snd.snd.snd.snd.snd.fst + r.snd.fst.snd.snd.snd.fst) ∧
                        IntKind.i64.wrap (r.snd.fst.snd.snd.snd.snd.snd.snd.fst + r.snd.fst.snd.snd.snd.fst) ≤
                          (↑(ByteArray.size r.snd.fst.fst) : Int) then
                  some
                    (decide
                      (ByteArray.extract r.snd.fst.fst (Int.toNat r.snd.fst.snd.snd.snd.snd.snd.snd.fst)
                          (IntKind.i64.wrap (r.snd.fst.snd.snd.snd.snd.snd.snd.fst + r.snd.fst.snd.snd.snd.fst)).toNat =
                        r.snd.fst.snd.fst))
                else none
              else some false
            else none).bind
          fun (b : Bool) =>
          if b = true then some (Ctl.ret, (r.snd.fst.snd.snd.snd.snd.snd.snd.fst, ()), ()) else none)
        (fun (id : Nat) =>
          if id = (2 : Nat) then
            L48 N n
              ((r.snd.fst.fst, r.snd.fst.snd.fst, r.snd.fst.snd.snd.fst, r.snd.fst.snd.snd.snd.fst,
                  r.snd.fst.snd.snd.snd.snd.fst, r.snd.fst.snd.snd.snd.snd.snd.fst,
                  r.snd.fst.snd.snd.snd.snd.snd.snd.fst, r.snd.fst.snd.snd.snd.snd.snd.snd.snd.fst,
                  r.snd.fst.snd.snd.snd.snd.snd.snd.snd.snd.fst, ()),
                ())
          else some (Ctl.exit id, (r.snd.fst.snd.snd.fst, ()), ()))
        (fun (id : Nat) => some (Ctl.goto id, (r.snd.fst.snd.snd.fst, ()), ()))
        (some (Ctl.ret, (r.snd.fst.snd.snd.fst, ()), ()))
  else none
else some (Ctl.exit (1 : Nat), (t4, ()), ())) := by kernel_rfl
noncomputable def g48 (N : Nat) (x : A48.den) : Option (RTs.den R48) := run (tab.ctx (F48 N)) N Try.f48 A48 R48 x
theorem g48_eq (N : Nat) (x0 : ByteArray) : g48 N (x0, (⟨#[10]⟩ : ByteArray), ()) =
 (if decide (ByteArray.mk (Array.mk [(10 : UInt8)]) = x0) = true then some ((0 : Int), ())
else
  (g49 N
        (x0, (↑((ByteArray.mk (Array.mk [(10 : UInt8)])).data.getD (Int.toNat (0 : Int)) (0 : UInt8)).toNat : Int),
          ())).bind
    fun (r : RTs.den R49) => some (r.fst, ())) := by kernel_rfl
theorem run48 (N : Nat) (x : A48.den) : run (tab.ctx (F48 N)) N Try.f48 A48 R48 x = g48 N x := rfl
theorem ok48 (N : Nat) : okFn (tab.ctx (F48 N)) Try.f48 A48 = true := by kernel_rfl
theorem fns48 (N : Nat) : FnOK Try.prog (tab.ctx (F48 N)) := (fnOK_cons (pure49 N) fnOK_nil)
theorem pure48 (N : Nat) : PureOK Try.prog 48 A48 R48 (g48 N) := pureOK (tab.ctxOK tab_ok _) (fns48 N) Try.func48 (ok48 N) (run48 N)
end Go.Ev

/-
  strings.Index: what it answers. (Printed by wip/tools/gen.py.)
-/
namespace Go.Ev
open Go.Proofs
abbrev A47 : Ty := (.cons .str (.cons .str .unit))
abbrev R47 : List RT := [.d (.int .i64)]
noncomputable def F47 (N : Nat) : Fn := { fns := [(48, .pure A48 R48 (g48 N))], writes := [], loops := [], conds := [], mats := [], vecs := [], fins := [] }
noncomputable def g47 (N : Nat) (x : A47.den) : Option (RTs.den R47) := run (tab.ctx (F47 N)) N Try.f47 A47 R47 x
theorem g47_eq (N : Nat) (x0 : ByteArray) : g47 N (x0, (⟨#[10]⟩ : ByteArray), ()) =
 ((g48 N (x0, ByteArray.mk (Array.mk [(10 : UInt8)]), ())).bind fun (r : RTs.den R48) =>
  some (r.fst, ())) := by kernel_rfl
theorem run47 (N : Nat) (x : A47.den) : run (tab.ctx (F47 N)) N Try.f47 A47 R47 x = g47 N x := rfl
theorem ok47 (N : Nat) : okFn (tab.ctx (F47 N)) Try.f47 A47 = true := by kernel_rfl
theorem fns47 (N : Nat) : FnOK Try.prog (tab.ctx (F47 N)) := (fnOK_cons (pure48 N) fnOK_nil)
theorem pure47 (N : Nat) : PureOK Try.prog 47 A47 R47 (g47 N) := pureOK (tab.ctxOK tab_ok _) (fns47 N) Try.func47 (ok47 N) (run47 N)
end Go.Ev

/-
  strings.Contains: what it answers. (Printed by wip/tools/gen.py.)
-/
namespace Go.Ev
open Go.Proofs
abbrev A45 : Ty := (.cons .str (.cons .str .unit))
abbrev R45 : List RT := [.d .bool]
noncomputable def F45 (N : Nat) : Fn := { fns := [(47, .pure A47 R47 (g47 N))], writes := [], loops := [], conds := [], mats := [], vecs := [], fins := [] }
noncomputable def g45 (N : Nat) (x : A45.den) : Option (RTs.den R45) := run (tab.ctx (F45 N)) N Try.f45 A45 R45 x
theorem g45_eq (N : Nat) (x0 : ByteArray) : g45 N (x0, (⟨#[10]⟩ : ByteArray), ()) =
 ((g47 N (x0, ByteArray.mk (Array.mk [(10 : UInt8)]), ())).bind fun (r : RTs.den R47) =>
  some (decide ((0 : Int) ≤ r.fst), ())) := by kernel_rfl
theorem run45 (N : Nat) (x : A45.den) : run (tab.ctx (F45 N)) N Try.f45 A45 R45 x = g45 N x := rfl
theorem ok45 (N : Nat) : okFn (tab.ctx (F45 N)) Try.f45 A45 = true := by kernel_rfl
theorem fns45 (N : Nat) : FnOK Try.prog (tab.ctx (F45 N)) := (fnOK_cons (pure47 N) fnOK_nil)
theorem pure45 (N : Nat) : PureOK Try.prog 45 A45 R45 (g45 N) := pureOK (tab.ctxOK tab_ok _) (fns45 N) Try.func45 (ok45 N) (run45 N)
end Go.Ev

/-
  quitclaim/hunk.Lines$1: what it answers. (Printed by wip/tools/gen.py.)
-/
namespace Go.Ev
open Go.Proofs
abbrev A44 : Ty := (.cons .str .unit)
abbrev R44 : List RT := [.d .bool]
noncomputable def F44 (N : Nat) : Fn := { fns := [(45, .pure A45 R45 (g45 N))], writes := [], loops := [], conds := [], mats := [], vecs := [], fins := [] }
noncomputable def g44 (N : Nat) (x : A44.den) : Option (RTs.den R44) :=
 (if decide ((200 : Int) < (↑x.1.size : Int)) = false then
      (g45 N (x.1, ByteArray.mk (Array.mk [(10 : UInt8)]), ())).bind fun (r : RTs.den R45) => some r.fst
    else some true).bind
  fun (b : Bool) => some (b, ())
theorem run44 (N : Nat) (x : A44.den) : run (tab.ctx (F44 N)) N Try.f44 A44 R44 x = g44 N x := by kernel_rfl
theorem ok44 (N : Nat) : okFn (tab.ctx (F44 N)) Try.f44 A44 = true := by kernel_rfl
theorem fns44 (N : Nat) : FnOK Try.prog (tab.ctx (F44 N)) := (fnOK_cons (pure45 N) fnOK_nil)
theorem pure44 (N : Nat) : PureOK Try.prog 44 A44 R44 (g44 N) := pureOK (tab.ctxOK tab_ok _) (fns44 N) Try.func44 (ok44 N) (run44 N)
end Go.Ev

/-
  slices.IndexFunc[[]string,string]: what it answers. (Printed by wip/tools/gen.py.)
-/
namespace Go.Ev
open Go.Proofs
abbrev S46 : Shape := ⟨[(0, .d (.slice .str)), (1, .d .raw), (4, .d (.int .i64)), (7, .d (.int .i64)), (8, .d (.int .i64))], []⟩
abbrev O46 : Shape := ⟨[(4, .d (.int .i64))], []⟩
abbrev A46 : Ty := (.cons (.slice .str) (.cons .raw .unit))
abbrev R46 : List RT := [.d (.int .i64)]
noncomputable def F46 (N : Nat) : Fn := { fns := [(44, .pure A44 R44 (g44 N))], writes := [], loops := [(2, S46, O46)], conds := [], mats := [], vecs := [], fins := [] }
noncomputable def L46 (N : Nat) : Nat → S46.den → Option (Ctl × O46.den) := loopFn (tab.ctx (F46 N)) N (loopCode Try.f46 2) S46 O46
theorem L46_succ (N n : Nat) (t0 : (Ty.den (.slice .str))) (t4 : Int) (t7 : Int) (t8 : Int) : L46 N (n + 1) ((t0, (Value.func (Fn.func 44) #[] #[]), t4, t7, t8, ()), ()) =
 (if decide (t8 < t7) = true then
  if (0 : Int) ≤ t8 ∧ t8 < (↑(List.length t0) : Int) then
    (g44 N (List.getD t0 t8.toNat (Ty.zero .str), ())).bind fun (r : RTs.den R44) =>
      if r.fst = true then some (Ctl.ret, (t8, ()), ())
      else
        L46 N n
          ((t0, Value.func (Fn.func (44 : FuncId)) (Array.mk []) (Array.mk []), t4, t7,
              IntKind.i64.wrap (t8 + (1 : Int)), ()),
            ())
  else none
else some (Ctl.exit (0 : Nat), (t4, ()), ())) := by kernel_rfl
noncomputable def g46 (N : Nat) (x : A46.den) : Option (RTs.den R46) := run (tab.ctx (F46 N)) N Try.f46 A46 R46 x
theorem g46_eq (N : Nat) (x0 : (Ty.den (.slice .str))) : g46 N (x0, (Value.func (Fn.func 44) #[] #[]), ()) =
 ((L46 N N
      ((x0, Value.func (Fn.func (44 : FuncId)) (Array.mk []) (Array.mk []), (0 : Int), (↑(List.length x0) : Int),
          (0 : Int), ()),
        ())).bind
  fun (r : Ctl × O46.den) =>
  r.fst.elim none (fun (id : Nat) => if id = (0 : Nat) then some ((-1 : Int), ()) else none)
    (fun (id : Nat) => none) (some (r.snd.fst.fst, ()))) := by kernel_rfl
theorem run46 (N : Nat) (x : A46.den) : run (tab.ctx (F46 N)) N Try.f46 A46 R46 x = g46 N x := rfl
theorem ok46 (N : Nat) : okFn (tab.ctx (F46 N)) Try.f46 A46 = true := by kernel_rfl
theorem fns46 (N : Nat) : FnOK Try.prog (tab.ctx (F46 N)) := (fnOK_cons (pure44 N) fnOK_nil)
theorem pure46 (N : Nat) : PureOK Try.prog 46 A46 R46 (g46 N) := pureOK (tab.ctxOK tab_ok _) (fns46 N) Try.func46 (ok46 N) (run46 N)
end Go.Ev

/-
  slices.ContainsFunc[[]string,string]: what it answers. (Printed by wip/tools/gen.py.)
-/
namespace Go.Ev
open Go.Proofs
abbrev A43 : Ty := (.cons (.slice .str) (.cons .raw .unit))
abbrev R43 : List RT := [.d .bool]
noncomputable def F43 (N : Nat) : Fn := { fns := [(46, .pure A46 R46 (g46 N))], writes := [], loops := [], conds := [], mats := [], vecs := [], fins := [] }
noncomputable def g43 (N : Nat) (x : A43.den) : Option (RTs.den R43) := run (tab.ctx (F43 N)) N Try.f43 A43 R43 x
theorem g43_eq (N : Nat) (x0 : (Ty.den (.slice .str))) : g43 N (x0, (Value.func (Fn.func 44) #[] #[]), ()) =
 ((g46 N (x0, Value.func (Fn.func (44 : FuncId)) (Array.mk []) (Array.mk []), ())).bind
  fun (r : RTs.den R46) => some (decide ((0 : Int) ≤ r.fst), ())) := by kernel_rfl
theorem run43 (N : Nat) (x : A43.den) : run (tab.ctx (F43 N)) N Try.f43 A43 R43 x = g43 N x := rfl
theorem ok43 (N : Nat) : okFn (tab.ctx (F43 N)) Try.f43 A43 = true := by kernel_rfl
theorem fns43 (N : Nat) : FnOK Try.prog (tab.ctx (F43 N)) := (fnOK_cons (pure46 N) fnOK_nil)
theorem pure43 (N : Nat) : PureOK Try.prog 43 A43 R43 (g43 N) := pureOK (tab.ctxOK tab_ok _) (fns43 N) Try.func43 (ok43 N) (run43 N)
end Go.Ev

/-
  quitclaim/hunk.Lines: what it answers. (Printed by wip/tools/gen.py.)
-/
namespace Go.Ev
open Go.Proofs
abbrev A38 : Ty := (.cons (.slice .str) .unit)
abbrev R38 : List RT := [.d .bool]
noncomputable def F38 (N : Nat) : Fn := { fns := [(43, .pure A43 R43 (g43 N)), (44, .pure A44 R44 (g44 N))], writes := [], loops := [], conds := [], mats := [], vecs := [], fins := [] }
noncomputable def g38 (N : Nat) (x : A38.den) : Option (RTs.den R38) :=
 (if decide ((↑(List.length x.1) : Int) ≤ (1000 : Int)) = true then
      (g43 N (x.1, Value.func (Fn.func (44 : Nat)) (Array.mk []) (Array.mk []), ())).bind
        fun (r : RTs.den R43) => some !r.fst
    else some false).bind
  fun (b : Bool) => some (b, ())
theorem run38 (N : Nat) (x : A38.den) : run (tab.ctx (F38 N)) N Try.f38 A38 R38 x = g38 N x := by kernel_rfl
theorem ok38 (N : Nat) : okFn (tab.ctx (F38 N)) Try.f38 A38 = true := by kernel_rfl
theorem fns38 (N : Nat) : FnOK Try.prog (tab.ctx (F38 N)) := (fnOK_cons (pure43 N) (fnOK_cons (pure44 N) fnOK_nil))
theorem pure38 (N : Nat) : PureOK Try.prog 38 A38 R38 (g38 N) := pureOK (tab.ctxOK tab_ok _) (fns38 N) Try.func38 (ok38 N) (run38 N)
end Go.Ev

/-
  quitclaim/diff.right: what it answers. (Printed by wip/tools/gen.py.)
-/
namespace Go.Ev
open Go.Proofs
abbrev A24 : Ty := (.cons (.slice .str) (.cons (.slice .str) .unit))
abbrev R24 : List RT := [.d .bool]
noncomputable def F24 (N : Nat) : Fn := { fns := [(38, .pure A38 R38 (g38 N))], writes := [], loops := [], conds := [], mats := [], vecs := [], fins := [] }
noncomputable def g24 (N : Nat) (x : A24.den) : Option (RTs.den R24) :=
 ((g38 N (x.1, ())).bind fun (r : RTs.den R38) =>
      if r.fst = true then (g38 N (x.2.1, ())).bind fun (r : RTs.den R38) => some r.fst else some false).bind
  fun (b : Bool) => some (b, ())
theorem run24 (N : Nat) (x : A24.den) : run (tab.ctx (F24 N)) N Try.f24 A24 R24 x = g24 N x := by kernel_rfl
theorem ok24 (N : Nat) : okFn (tab.ctx (F24 N)) Try.f24 A24 = true := by kernel_rfl
theorem fns24 (N : Nat) : FnOK Try.prog (tab.ctx (F24 N)) := (fnOK_cons (pure38 N) fnOK_nil)
theorem pure24 (N : Nat) : PureOK Try.prog 24 A24 R24 (g24 N) := pureOK (tab.ctxOK tab_ok _) (fns24 N) Try.func24 (ok24 N) (run24 N)
end Go.Ev

/-
  THE SMALL FUNCTIONS OF LAYER 12's STATEMENTS: what they answer.
-/
namespace Go.Ev.Pl
open Go.Proofs

/-- With rounds enough. -/
def Evt {β : Type} (f : Nat → Option β) (r : β) : Prop := ∃ N0, ∀ N, N0 ≤ N → f N = some r

theorem Evt.bind {β γ : Type} {f : Nat → Option β} {r : β} {k : Nat → β → Option γ} {s : γ} (h : Evt f r) (hk : Evt (fun N => k N r) s) : Evt (fun N => (f N).bind (k N)) s := by
  obtain ⟨n1, h1⟩ := h
  obtain ⟨n2, h2⟩ := hk
  exact ⟨max n1 n2, fun N hN => by show (f N).bind (k N) = _; rw [h1 N (by omega)]; exact h2 N (by omega)⟩

theorem Evt.pure {β : Type} (r : β) : Evt (fun _ => some r) r := ⟨0, fun _ _ => rfl⟩
theorem Evt.congr {β : Type} {f g : Nat → Option β} {r : β} (h : Evt f r) (e : ∀ N, g N = f N) : Evt g r := by
  obtain ⟨n, h⟩ := h
  exact ⟨n, fun N hN => (e N).trans (h N hN)⟩
theorem Evt.all {β γ : Type} {g : Nat → β → Option γ} {r : β → γ} : ∀ {l : List β}, (∀ x ∈ l, Evt (fun N => g N x) (r x)) → ∃ N0, ∀ N, N0 ≤ N → ∀ x ∈ l, g N x = some (r x)
  | [], _ => ⟨0, by simp⟩
  | x :: l, h => by
    obtain ⟨n1, h1⟩ := h x (by simp)
    obtain ⟨n2, h2⟩ := Evt.all (l := l) (fun y hy => h y (by simp [hy]))
    refine ⟨max n1 n2, fun N hN y hy => ?_⟩
    rcases List.mem_cons.1 hy with rfl | hy
    · exact h1 N (by omega)
    · exact h2 N (by omega) y hy

theorem w64 {n : Int} (h1 : -9223372036854775808 ≤ n) (h2 : n ≤ 9223372036854775807) : IntKind.i64.wrap n = n := wrap64_id h1 h2

theorem getD_nat {β : Type} {l : List β} {i : Nat} (h : i < l.length) (z : β) : List.getD l (Int.toNat (i : Int)) z = l[i] := by
  rw [Int.toNat_natCast]; simp [List.getD_eq_getElem?_getD, List.getElem?_eq_getElem h]

theorem succ_cast (i : Nat) : (i : Int) + 1 = ((i + 1 : Nat) : Int) := rfl

/-! ### Right lines -/

def lineOK (s : ByteArray) : Bool := decide (s.size ≤ 200) && decide ((10 : UInt8) ∉ s.data.toList)
def linesOK (l : List ByteArray) : Bool := decide (l.length ≤ 1000) && l.all lineOK

theorem byte_eq (s : ByteArray) (i : Nat) (h : i < s.size) : (((s.data.getD (Int.toNat (i : Int)) (0 : UInt8)).toNat : Int) = 10) ↔ s.data.toList[i]'(by simpa using h) = 10 := by
  rw [Int.toNat_natCast]
  have h' : i < s.data.size := h
  have : s.data.getD i 0 = s.data[i] := by simp [Array.getD_eq_getD_getElem?, Array.getElem?_eq_getElem h']
  rw [this]
  have e : s.data.toList[i]'(by simpa using h) = s.data[i] := by simp
  rw [e]
  constructor
  · intro h
    apply UInt8.toNat_inj.1
    have : s.data[i].toNat = 10 := by omega
    rw [this]; rfl
  · intro h; rw [h]; rfl

theorem L27_ev (N : Nat) (s : ByteArray) (b : Bool) (hs : s.size ≤ maxLen) : ∀ (d i n : Nat), s.size - i = d → i ≤ s.size → d < n →
    L27 N n ((s, b, (i : Int), ()), ()) = some (if (10 : UInt8) ∈ s.data.toList.drop i then (Ctl.ret, (s, false, ()), ()) else (Ctl.exit 0, (s, b, ()), ())) := by
  intro d
  have hm : maxLen = 9223372036854775807 := rfl
  induction d with
  | zero =>
    intro i n hd hi hn
    obtain ⟨n, rfl⟩ : ∃ m, n = m + 1 := ⟨n - 1, by omega⟩
    conv => lhs; rw [L27_succ, if_neg (by rw [decide_eq_true_eq]; omega)]
    have hl : s.data.toList.drop i = [] := List.drop_eq_nil_of_le (by have : s.data.toList.length = s.size := Array.length_toList; omega)
    rw [hl]; simp
  | succ d ih =>
    intro i n hd hi hn
    obtain ⟨n, rfl⟩ : ∃ m, n = m + 1 := ⟨n - 1, by omega⟩
    have hlt : i < s.size := by omega
    have hl : i < s.data.toList.length := by have : s.data.toList.length = s.size := Array.length_toList; omega
    rw [List.drop_eq_getElem_cons hl]
    conv => lhs; rw [L27_succ, if_pos (by rw [decide_eq_true_eq]; omega), if_pos (by omega)]
    have hb := byte_eq s i hlt
    by_cases h : s.data.toList[i] = 10
    · conv => lhs; rw [if_pos (by rw [decide_eq_true_eq]; exact hb.2 h)]
      (try simp [h]) <;> (try rfl)
    · conv => lhs; rw [if_neg (by rw [decide_eq_true_eq]; exact fun e => h (hb.1 e)), w64 (by omega) (by omega), succ_cast, ih (i + 1) n (by omega) (by omega) (by omega)]
      have : ((10 : UInt8) ∈ s.data.toList[i] :: s.data.toList.drop (i + 1)) ↔ (10 : UInt8) ∈ s.data.toList.drop (i + 1) := by
        simp only [List.mem_cons]
        exact ⟨fun h' => h'.resolve_left (fun e => h e.symm), .inr⟩
      simp only [this]

theorem e27 (s : ByteArray) (hs : s.size ≤ maxLen) : Evt (fun N => g27 N (s, ())) (lineOK s, ()) := by
  refine ⟨s.size + 1, fun N hN => ?_⟩
  unfold g27
  have := L27_ev N s false hs s.size 0 N (by omega) (by omega) (by omega)
  have this' : L27 N N ((s, false, (0 : Int), ()), ()) = _ := this
  simp only [this', Option.bind_some, List.drop_zero]
  unfold lineOK
  by_cases h : (10 : UInt8) ∈ s.data.toList
  · simp [h, Ctl.elim]
  · simp [h, Ctl.elim]
    omega

theorem L12_ev (N : Nat) (l : List ByteArray) (b : Bool) (hl : l.length ≤ maxLen) (h27 : ∀ s ∈ l, g27 N (s, ()) = some (lineOK s, ())) : ∀ (d i n : Nat), l.length - i = d → i ≤ l.length → d < n →
    L12 N n ((l, b, (i : Int), ()), ()) = some (if (l.drop i).all lineOK then (Ctl.exit 0, (l, b, ()), ()) else (Ctl.ret, (l, false, ()), ())) := by
  intro d
  have hm : maxLen = 9223372036854775807 := rfl
  induction d with
  | zero =>
    intro i n hd hi hn
    obtain ⟨n, rfl⟩ : ∃ m, n = m + 1 := ⟨n - 1, by omega⟩
    rw [List.drop_eq_nil_of_le (by omega)]
    conv => lhs; rw [L12_succ, if_neg (by rw [decide_eq_true_eq]; omega)]
    (try simp) <;> (try rfl)
  | succ d ih =>
    intro i n hd hi hn
    obtain ⟨n, rfl⟩ : ∃ m, n = m + 1 := ⟨n - 1, by omega⟩
    have hlt : i < l.length := by omega
    rw [List.drop_eq_getElem_cons hlt]
    conv => lhs; rw [L12_succ, if_pos (by rw [decide_eq_true_eq]; omega), if_pos (by omega), getD_nat hlt, h27 _ (List.getElem_mem hlt)]
    simp only [Option.bind_some, List.all_cons]
    rcases Bool.eq_false_or_eq_true (lineOK l[i]) with h | h
    rotate_left
    · simp [h]
    · conv => lhs; rw [if_neg (by simp [h]), w64 (by omega) (by omega), succ_cast, ih (i + 1) n (by omega) (by omega) (by omega)]
      simp [h]

def Fits (l : List ByteArray) : Prop := Fit (.slice .str) l

theorem Fits.len {l : List ByteArray} (h : Fits l) : l.length ≤ maxLen := h.1
theorem Fits.mem {l : List ByteArray} (h : Fits l) : ∀ s ∈ l, s.size ≤ maxLen := h.2

theorem e12 (l : List ByteArray) (hl : Fits l) : Evt (fun N => g12 N (l, ())) (linesOK l, ()) := by
  obtain ⟨N0, h0⟩ := Evt.all (g := fun N s => g27 N (s, ())) (r := fun s => (lineOK s, ())) (l := l) (fun s hs => e27 s (hl.mem s hs))
  refine ⟨max N0 (l.length + 1), fun N hN => ?_⟩
  unfold g12
  have := L12_ev N l false hl.len (h0 N (by omega)) l.length 0 N (by omega) (by omega) (by omega)
  have this' : L12 N N ((l, false, (0 : Int), ()), ()) = _ := this
  simp only [this', Option.bind_some, List.drop_zero]
  unfold linesOK
  cases h : l.all lineOK
  · simp [Ctl.elim]
  · simp [Ctl.elim]
    omega

/-! ### The program's own -/

theorem indexByte_mem : ∀ (l : List UInt8) (c : UInt8), 0 ≤ Lib.indexByte l c ↔ c ∈ l
  | [], c => by simp [Lib.indexByte]
  | b :: l, c => by
    have ih := indexByte_mem l c
    have hge := Lib.indexByte_ge l c
    unfold Lib.indexByte
    by_cases h : b = c
    · subst h; simp
    · have : (b == c) = false := by simpa using h
      simp only [this, Bool.false_eq_true, if_false, List.mem_cons]
      have hne : ¬ c = b := fun e => h e.symm
      by_cases h2 : Lib.indexByte l c = -1
      · rw [h2] at ih
        simp only [h2, BEq.rfl, if_true]
        constructor
        · intro h; omega
        · rintro (h | h)
          · exact absurd h hne
          · have := ih.2 h; omega
      · have h3 : (Lib.indexByte l c == -1) = false := by simpa using h2
        simp only [h3, Bool.false_eq_true, if_false]
        constructor
        · intro _; exact .inr (ih.1 (by omega))
        · rintro (h | h)
          · exact absurd h hne
          · have := ih.2 h; omega

theorem e48 (N : Nat) (s : ByteArray) : ∃ r, g48 N (s, (⟨#[10]⟩ : ByteArray), ()) = some (r, ()) ∧ (0 ≤ r ↔ (10 : UInt8) ∈ s.data.toList) := by
  rw [g48_eq]
  by_cases h : (⟨#[10]⟩ : ByteArray) = s
  · subst h
    exact ⟨0, by simp, by simp⟩
  · refine ⟨Lib.indexByte s.data.toList 10, ?_, indexByte_mem _ _⟩
    rw [if_neg (by simpa using h)]
    rfl

theorem e44 (N : Nat) (s : ByteArray) : g44 N (s, ()) = some (!lineOK s, ()) := by
  unfold g44 lineOK
  obtain ⟨r, h1, h2⟩ := e48 N s
  by_cases h : s.size ≤ 200
  · have h3 : ¬ (200 : Int) < (s.size : Int) := by omega
    have e45 : g45 N (s, (⟨#[10]⟩ : ByteArray), ()) = some (decide (0 ≤ r), ()) := by
      rw [g45_eq]
      have : g47 N (s, (⟨#[10]⟩ : ByteArray), ()) = some (r, ()) := by rw [g47_eq]; exact congrArg (fun o => Option.bind o _) h1
      exact congrArg (fun o => Option.bind o _) this
    have e45' : g45 N (s, ByteArray.mk (Array.mk [(10 : UInt8)]), ()) = some (decide (0 ≤ r), ()) := e45
    simp only [h3, decide_false, if_true, e45', Option.bind_some]
    simp [h, h2]
  · have h3 : (200 : Int) < (s.size : Int) := by omega
    simp [h, h3]

theorem L46_ev (N : Nat) (l : List ByteArray) (b : Int) (hl : l.length ≤ maxLen) : ∀ (d i n : Nat), l.length - i = d → i ≤ l.length → d < n →
    ∃ r, L46 N n ((l, (Value.func (Fn.func 44) #[] #[]), b, (l.length : Int), (i : Int), ()), ()) = some r ∧ (((l.drop i).all lineOK = true ∧ r = (Ctl.exit 0, (b, ()), ())) ∨ ((l.drop i).all lineOK = false ∧ ∃ k : Nat, r = (Ctl.ret, ((k : Int), ()), ()))) := by
  intro d
  have hm : maxLen = 9223372036854775807 := rfl
  induction d with
  | zero =>
    intro i n hd hi hn
    obtain ⟨n, rfl⟩ : ∃ m, n = m + 1 := ⟨n - 1, by omega⟩
    rw [List.drop_eq_nil_of_le (by omega)]
    rw [L46_succ, if_neg (by rw [decide_eq_true_eq]; omega)]
    exact ⟨_, rfl, .inl ⟨rfl, rfl⟩⟩
  | succ d ih =>
    intro i n hd hi hn
    obtain ⟨n, rfl⟩ : ∃ m, n = m + 1 := ⟨n - 1, by omega⟩
    have hlt : i < l.length := by omega
    rw [List.drop_eq_getElem_cons hlt]
    rw [L46_succ, if_pos (by rw [decide_eq_true_eq]; omega), if_pos (by omega), getD_nat hlt, e44]
    simp only [Option.bind_some, List.all_cons]
    rcases Bool.eq_false_or_eq_true (lineOK l[i]) with h | h
    rotate_left
    · rw [h]; exact ⟨_, rfl, .inr ⟨rfl, i, rfl⟩⟩
    · obtain ⟨r, h1, h2⟩ := ih (i + 1) n (by omega) (by omega) (by omega)
      refine ⟨r, ?_, by simpa [h] using h2⟩
      rw [if_neg (by simp [h]), w64 (by omega) (by omega), succ_cast]
      exact h1

theorem e38 (l : List ByteArray) (hl : l.length ≤ maxLen) : Evt (fun N => g38 N (l, ())) (linesOK l, ()) := by
  refine ⟨l.length + 1, fun N hN => ?_⟩
  unfold g38 linesOK
  by_cases h : l.length ≤ 1000
  · have h3 : (l.length : Int) ≤ 1000 := by omega
    obtain ⟨r, h1, h2⟩ := L46_ev N l 0 hl l.length 0 N (by omega) (by omega) (by omega)
    simp only [List.drop_zero] at h2
    have e46 : ∃ k : Int, g46 N (l, (Value.func (Fn.func 44) #[] #[]), ()) = some (k, ()) ∧ (0 ≤ k ↔ l.all lineOK = false) := by
      rw [g46_eq]
      have h1' : L46 N N ((l, Value.func (Fn.func (44 : FuncId)) (Array.mk []) (Array.mk []), (0 : Int), (l.length : Int), (0 : Int), ()), ()) = some r := h1
      rcases h2 with ⟨h2, rfl⟩ | ⟨h2, k, rfl⟩
      · exact ⟨-1, by simp [h1', Ctl.elim], by simp [h2]⟩
      · exact ⟨k, by simp [h1', Ctl.elim], by simp [h2]⟩
    obtain ⟨k, k1, k2⟩ := e46
    have e43 : g43 N (l, (Value.func (Fn.func 44) #[] #[]), ()) = some (decide (0 ≤ k), ()) := by
      rw [g43_eq]
      exact congrArg (fun o => Option.bind o _) k1
    have e43' : g43 N (l, Value.func (Fn.func (44 : Nat)) (Array.mk []) (Array.mk []), ()) = some (decide (0 ≤ k), ()) := e43
    simp only [h3, decide_true, if_true, e43', Option.bind_some]
    simp only [h, decide_true, Bool.true_and]
    cases hb : l.all lineOK <;> simp [k2, hb]
  · have h3 : ¬ (l.length : Int) ≤ 1000 := by omega
    simp [h3, h]

theorem e24 (x y : List ByteArray) (hx : x.length ≤ maxLen) (hy : y.length ≤ maxLen) : Evt (fun N => g24 N (x, y, ())) (linesOK x && linesOK y, ()) := by
  obtain ⟨n1, h1⟩ := e38 x hx
  obtain ⟨n2, h2⟩ := e38 y hy
  refine ⟨max n1 n2, fun N hN => ?_⟩
  have h1 := h1 N (by omega)
  have h2 := h2 N (by omega)
  simp only at h1 h2
  unfold g24
  simp only [h1, h2, Option.bind_some]
  cases linesOK x <;> simp

/-! ### Are rows one? -/

theorem L37_ev (N : Nat) (x y : List ByteArray) (b : Bool) (hx : x.length ≤ maxLen) (hxy : x.length = y.length) : ∀ (d i n : Nat), x.length - i = d → i ≤ x.length → d < n →
    L37 N n ((x, y, b, (x.length : Int), (i : Int), ()), ()) = some (if x.drop i = y.drop i then (Ctl.exit 0, (b, ()), ()) else (Ctl.ret, (false, ()), ())) := by
  intro d
  have hm : maxLen = 9223372036854775807 := rfl
  induction d with
  | zero =>
    intro i n hd hi hn
    obtain ⟨n, rfl⟩ : ∃ m, n = m + 1 := ⟨n - 1, by omega⟩
    rw [List.drop_eq_nil_of_le (by omega), List.drop_eq_nil_of_le (by omega)]
    conv => lhs; rw [L37_succ, if_neg (by rw [decide_eq_true_eq]; omega)]
    (try simp) <;> (try rfl)
  | succ d ih =>
    intro i n hd hi hn
    obtain ⟨n, rfl⟩ : ∃ m, n = m + 1 := ⟨n - 1, by omega⟩
    have hlt : i < x.length := by omega
    have hlt' : i < y.length := by omega
    rw [List.drop_eq_getElem_cons hlt, List.drop_eq_getElem_cons hlt']
    conv => lhs; rw [L37_succ, if_pos (by rw [decide_eq_true_eq]; omega), if_pos (by omega), if_pos (by omega), getD_nat hlt, getD_nat hlt']
    by_cases h : x[i] = y[i]
    · have hiff : (x[i] :: x.drop (i + 1) = y[i] :: y.drop (i + 1)) ↔ x.drop (i + 1) = y.drop (i + 1) := by
        rw [h]; exact ⟨fun h => (List.cons.inj h).2, fun h => by rw [h]⟩
      conv => lhs; rw [if_neg (by simp [h]), w64 (by omega) (by omega), succ_cast, ih (i + 1) n (by omega) (by omega) (by omega)]
      simp only [hiff]
    · conv => lhs; rw [if_pos (by simp [h])]
      rw [if_neg (fun e => h (List.cons.inj e).1)]

theorem e37 (x y : List ByteArray) (hx : x.length ≤ maxLen) : Evt (fun N => g37 N (x, y, ())) (decide (x = y), ()) := by
  refine ⟨x.length + 1, fun N hN => ?_⟩
  show g37 N _ = _
  unfold g37
  dsimp only
  by_cases h : x.length = y.length
  · have hne : ¬ ((x.length : Int) ≠ (y.length : Int)) := by omega
    have := L37_ev N x y false hx h x.length 0 N (by omega) (by omega) (by omega)
    simp only [List.drop_zero] at this
    have this' : L37 N N ((x, y, false, (x.length : Int), (0 : Int), ()), ()) = _ := this
    rw [if_neg (by rw [decide_eq_true_eq]; exact hne), this']
    by_cases e : x = y <;> simp [e, Ctl.elim]
  · have hne : (x.length : Int) ≠ (y.length : Int) := by omega
    rw [if_pos (by rw [decide_eq_true_eq]; exact hne)]
    have : x ≠ y := fun e => h (by rw [e])
    simp [this]

theorem L17_ev (N : Nat) (x y : List ByteArray) (b : Bool) (hx : x.length ≤ maxLen) (hxy : x.length = y.length) : ∀ (d i n : Nat), x.length - i = d → i ≤ x.length → d < n →
    L17 N n ((x, y, b, (i : Int), ()), ()) = some (if x.drop i = y.drop i then (Ctl.exit 0, (b, ()), ()) else (Ctl.ret, (false, ()), ())) := by
  intro d
  have hm : maxLen = 9223372036854775807 := rfl
  induction d with
  | zero =>
    intro i n hd hi hn
    obtain ⟨n, rfl⟩ : ∃ m, n = m + 1 := ⟨n - 1, by omega⟩
    rw [List.drop_eq_nil_of_le (by omega), List.drop_eq_nil_of_le (by omega)]
    conv => lhs; rw [L17_succ, if_neg (by rw [decide_eq_true_eq]; omega)]
    (try simp) <;> (try rfl)
  | succ d ih =>
    intro i n hd hi hn
    obtain ⟨n, rfl⟩ : ∃ m, n = m + 1 := ⟨n - 1, by omega⟩
    have hlt : i < x.length := by omega
    have hlt' : i < y.length := by omega
    rw [List.drop_eq_getElem_cons hlt, List.drop_eq_getElem_cons hlt']
    conv => lhs; rw [L17_succ, if_pos (by rw [decide_eq_true_eq]; omega), if_pos (by omega), if_pos (by omega), getD_nat hlt, getD_nat hlt']
    by_cases h : x[i] = y[i]
    · have hiff : (x[i] :: x.drop (i + 1) = y[i] :: y.drop (i + 1)) ↔ x.drop (i + 1) = y.drop (i + 1) := by
        rw [h]; exact ⟨fun h => (List.cons.inj h).2, fun h => by rw [h]⟩
      conv => lhs; rw [if_neg (by simp [h]), w64 (by omega) (by omega), succ_cast, ih (i + 1) n (by omega) (by omega) (by omega)]
      simp only [hiff]
    · conv => lhs; rw [if_pos (by simp [h])]
      rw [if_neg (fun e => h (List.cons.inj e).1)]

theorem e17 (x y : List ByteArray) (hx : x.length ≤ maxLen) : Evt (fun N => g17 N (x, y, ())) (decide (x = y), ()) := by
  refine ⟨x.length + 1, fun N hN => ?_⟩
  show g17 N _ = _
  unfold g17
  dsimp only
  by_cases h : x.length = y.length
  · have hne : ¬ ((x.length : Int) ≠ (y.length : Int)) := by omega
    have := L17_ev N x y false hx h x.length 0 N (by omega) (by omega) (by omega)
    simp only [List.drop_zero] at this
    have this' : L17 N N ((x, y, false, (0 : Int), ()), ()) = _ := this
    rw [if_neg (by rw [decide_eq_true_eq]; exact hne), this']
    by_cases e : x = y <;> simp [e, Ctl.elim]
  · have hne : (x.length : Int) ≠ (y.length : Int) := by omega
    rw [if_pos (by rw [decide_eq_true_eq]; exact hne)]
    have : x ≠ y := fun e => h (by rw [e])
    simp [this]

/-- A hunk, as the program has it. -/
abbrev Hd := Int × List ByteArray × List ByteArray × Unit

theorem e15 (a b : Hd) (h1 : a.2.1.length ≤ maxLen) (h2 : a.2.2.1.length ≤ maxLen) : Evt (fun N => g15 N (a, b, ())) (decide (a = b), ()) := by
  obtain ⟨n1, k1⟩ := e17 a.2.1 b.2.1 h1
  obtain ⟨n2, k2⟩ := e17 a.2.2.1 b.2.2.1 h2
  refine ⟨max n1 n2, fun N hN => ?_⟩
  have k1 := k1 N (by omega)
  have k2 := k2 N (by omega)
  obtain ⟨a1, a2, a3, _⟩ := a
  obtain ⟨b1, b2, b3, _⟩ := b
  simp only at k1 k2
  unfold g15
  simp only [k1, k2, Option.bind_some]
  by_cases e1 : a1 = b1 <;> by_cases e2 : a2 = b2 <;> by_cases e3 : a3 = b3 <;> simp [e1, e2, e3]

theorem e23 (a b : Hd) (h1 : a.2.1.length ≤ maxLen) (h2 : a.2.2.1.length ≤ maxLen) : Evt (fun N => g23 N (a, b, ())) (decide (a = b), ()) := by
  obtain ⟨n1, k1⟩ := e37 a.2.1 b.2.1 h1
  obtain ⟨n2, k2⟩ := e37 a.2.2.1 b.2.2.1 h2
  refine ⟨max n1 n2, fun N hN => ?_⟩
  have k1 := k1 N (by omega)
  have k2 := k2 N (by omega)
  obtain ⟨a1, a2, a3, _⟩ := a
  obtain ⟨b1, b2, b3, _⟩ := b
  simp only at k1 k2
  unfold g23
  simp only [k1, k2, Option.bind_some]
  by_cases e1 : a1 = b1 <;> by_cases e2 : a2 = b2 <;> by_cases e3 : a3 = b3 <;> simp [e1, e2, e3]

/-! ### Are lines too many, or too long? -/

def small (x : List ByteArray) : Bool := decide (x.length ≤ 40) && x.all fun s => decide (s.size ≤ 300)

theorem L8_7_ev (N : Nat) (b : Bool) (t7 : List (List ByteArray)) (t8 t9 : Int) (x : List ByteArray) (hx : x.length ≤ maxLen) : ∀ (d i n : Nat), x.length - i = d → i ≤ x.length → d < n →
    L8_7 N n ((b, t7, t8, t9, x, (x.length : Int), (i : Int), ()), ()) = some (if ((x.drop i).all fun s => decide (s.size ≤ 300)) then (Ctl.exit 2, (b, t7, t8, t9, ()), ()) else (Ctl.ret, (true, t7, t8, t9, ()), ())) := by
  intro d
  have hm : maxLen = 9223372036854775807 := rfl
  induction d with
  | zero =>
    intro i n hd hi hn
    obtain ⟨n, rfl⟩ : ∃ m, n = m + 1 := ⟨n - 1, by omega⟩
    rw [List.drop_eq_nil_of_le (by omega)]
    conv => lhs; rw [L8_7_succ, if_neg (by rw [decide_eq_true_eq]; omega)]
    (try simp) <;> (try rfl)
  | succ d ih =>
    intro i n hd hi hn
    obtain ⟨n, rfl⟩ : ∃ m, n = m + 1 := ⟨n - 1, by omega⟩
    have hlt : i < x.length := by omega
    rw [List.drop_eq_getElem_cons hlt]
    conv => lhs; rw [L8_7_succ, if_pos (by rw [decide_eq_true_eq]; omega), if_pos (by omega), getD_nat hlt]
    by_cases h : x[i].size ≤ 300
    · conv => lhs; rw [if_neg (by rw [decide_eq_true_eq]; omega), w64 (by omega) (by omega), succ_cast, ih (i + 1) n (by omega) (by omega) (by omega)]
      simp only [List.all_cons, h, decide_true, Bool.true_and]
    · conv => lhs; rw [if_pos (by rw [decide_eq_true_eq]; omega)]
      simp only [List.all_cons, h, decide_false, Bool.false_and, Bool.false_eq_true, if_false]

theorem L8_2_ev (N : Nat) (b : Bool) (l : List (List ByteArray)) (hl : l.length ≤ maxLen) (hN : 41 ≤ N) : ∀ (d i n : Nat), l.length - i = d → i ≤ l.length → d < n →
    L8_2 N n ((b, l, (l.length : Int), (i : Int), ()), ()) = some (if (l.drop i).all small then (Ctl.exit 0, (b, ()), ()) else (Ctl.ret, (true, ()), ())) := by
  intro d
  have hm : maxLen = 9223372036854775807 := rfl
  induction d with
  | zero =>
    intro i n hd hi hn
    obtain ⟨n, rfl⟩ : ∃ m, n = m + 1 := ⟨n - 1, by omega⟩
    rw [List.drop_eq_nil_of_le (by omega)]
    conv => lhs; rw [L8_2_succ, if_neg (by rw [decide_eq_true_eq]; omega)]
    (try simp) <;> (try rfl)
  | succ d ih =>
    intro i n hd hi hn
    obtain ⟨n, rfl⟩ : ∃ m, n = m + 1 := ⟨n - 1, by omega⟩
    have hlt : i < l.length := by omega
    rw [List.drop_eq_getElem_cons hlt]
    conv => lhs; rw [L8_2_succ, if_pos (by rw [decide_eq_true_eq]; omega), if_pos (by omega)]
    simp only [getD_nat hlt]
    by_cases h : l[i].length ≤ 40
    · have := L8_7_ev N b l (l.length : Int) (i : Int) l[i] (by omega) l[i].length 0 N (by omega) (by omega) (by omega)
      simp only [List.drop_zero] at this
      have this' : L8_7 N N ((b, l, (l.length : Int), (i : Int), l[i], (l[i].length : Int), (0 : Int), ()), ()) = _ := this
      conv => lhs; rw [if_neg (by rw [decide_eq_true_eq]; omega), this']
      cases hb : (l[i].all fun s => decide (s.size ≤ 300)) with
      | true =>
        simp only [Option.bind_some, if_true, Ctl.elim]
        rw [w64 (by omega) (by omega), succ_cast, ih (i + 1) n (by omega) (by omega) (by omega)]
        simp only [List.all_cons]
        have : small l[i] = true := by simp [small, h, hb]
        simp only [this, Bool.true_and]
      | false =>
        simp only [Option.bind_some, Bool.false_eq_true, if_false, Ctl.elim, List.all_cons]
        have : small l[i] = false := by simp only [small, hb, Bool.and_false]
        (try simp [this]) <;> (try rfl)
    · conv => lhs; rw [if_pos (by rw [decide_eq_true_eq]; omega)]
      have : small l[i] = false := by simp [small, h]
      simp only [List.all_cons, this, Bool.false_and, Bool.false_eq_true, if_false]

theorem e8 (l : List (List ByteArray)) (hl : l.length ≤ maxLen) : Evt (fun N => g8 N (l, ())) (!l.all small, ()) := by
  refine ⟨max 41 (l.length + 1), fun N hN => ?_⟩
  unfold g8
  have := L8_2_ev N false l hl (by omega) l.length 0 N (by omega) (by omega) (by omega)
  simp only [List.drop_zero] at this
  have this' : L8_2 N N ((false, l, (l.length : Int), (0 : Int), ()), ()) = _ := this
  simp only [this']
  cases hb : l.all small <;> simp [Ctl.elim]

/-! ### How many lines hunks change -/

def hsum (l : List Hd) : Nat := (l.map fun h => h.2.1.length + h.2.2.1.length).sum

theorem L18_ev (N : Nat) (l : List Hd) (hl : l.length ≤ 1000) (hs : ∀ h ∈ l, h.2.1.length ≤ 1000 ∧ h.2.2.1.length ≤ 1000) : ∀ (d i n : Nat) (s : Nat), l.length - i = d → i ≤ l.length → d < n → s + 2000 * (l.length - i) ≤ 10000000 →
    L18 N n (((s : Int), l, (l.length : Int), (i : Int), ()), ()) = some (Ctl.exit 0, (((s + hsum (l.drop i) : Nat) : Int), ()), ()) := by
  intro d
  induction d with
  | zero =>
    intro i n s hd hi hn hb
    obtain ⟨n, rfl⟩ : ∃ m, n = m + 1 := ⟨n - 1, by omega⟩
    rw [List.drop_eq_nil_of_le (by omega)]
    conv => lhs; rw [L18_succ, if_neg (by rw [decide_eq_true_eq]; omega)]
    (try simp [hsum]) <;> (try rfl)
  | succ d ih =>
    intro i n s hd hi hn hb
    obtain ⟨n, rfl⟩ : ∃ m, n = m + 1 := ⟨n - 1, by omega⟩
    have hlt : i < l.length := by omega
    have hsi := hs l[i] (List.getElem_mem hlt)
    rw [List.drop_eq_getElem_cons hlt]
    conv => lhs; rw [L18_succ, if_pos (by rw [decide_eq_true_eq]; omega), if_pos (by omega)]
    simp only [getD_nat hlt]
    rw [w64 (n := ((l[i].2.1.length : Nat) : Int) + ((l[i].2.2.1.length : Nat) : Int)) (by omega) (by omega), w64 (by omega) (by omega), w64 (by omega) (by omega), succ_cast]
    have e : (s : Int) + (((l[i].2.1.length : Nat) : Int) + ((l[i].2.2.1.length : Nat) : Int)) = ((s + (l[i].2.1.length + l[i].2.2.1.length) : Nat) : Int) := by omega
    rw [e, ih (i + 1) n _ (by omega) (by omega) (by omega) (by omega)]
    simp only [hsum, List.map_cons, List.sum_cons]
    rw [Nat.add_assoc]

theorem e18 (l : List Hd) (hl : l.length ≤ 1000) (hs : ∀ h ∈ l, h.2.1.length ≤ 1000 ∧ h.2.2.1.length ≤ 1000) : Evt (fun N => g18 N (l, ())) ((hsum l : Int), ()) := by
  refine ⟨l.length + 1, fun N hN => ?_⟩
  unfold g18
  have := L18_ev N l hl hs l.length 0 N 0 (by omega) (by omega) (by omega) (by omega)
  simp only [List.drop_zero, Nat.zero_add] at this
  have this' : L18 N N (((0 : Int), l, (l.length : Int), (0 : Int), ()), ()) = _ := this
  simp only [this', Option.bind_some, Ctl.elim, if_true]

end Go.Ev.Pl

/-
  quitclaim/quitclaimref12.row: what it answers. (Printed by wip/tools/gen.py.)
-/
namespace Go.Ev
open Go.Proofs
abbrev S28 : Shape := ⟨[(0, .d .str), (1, .d (.slice (.int .i64))), (2, .d (.slice .str)), (7, .msl 0), (8, .d (.int .i64))], [.arr (.int .i64)]⟩
abbrev O28 : Shape := ⟨[(7, .msl 0)], [.arr (.int .i64)]⟩
abbrev J28_31 : Shape := ⟨[(0, .d .str), (1, .d (.slice (.int .i64))), (2, .d (.slice .str)), (7, .msl 0), (8, .d (.int .i64)), (9, .d (.int .i64))], [.arr (.int .i64)]⟩
abbrev J28_52 : Shape := ⟨[(0, .d .str), (1, .d (.slice (.int .i64))), (2, .d (.slice .str)), (7, .msl 0), (8, .d (.int .i64)), (9, .d (.int .i64))], [.arr (.int .i64)]⟩
abbrev A28 : Ty := (.cons .str (.cons (.slice (.int .i64)) (.cons (.slice .str) .unit)))
abbrev R28 : List RT := [.d (.slice (.int .i64))]
noncomputable def F28 (N : Nat) : Fn := { fns := [], writes := [13], loops := [(3, S28, O28)], conds := [(31, J28_31), (52, J28_52)], mats := [], vecs := [], fins := [] }
noncomputable def L28 (N : Nat) : Nat → S28.den → Option (Ctl × O28.den) := loopFn (tab.ctx (F28 N)) N (loopCode Try.f28 3) S28 O28
theorem L28_succ (N n : Nat) (t0 : ByteArray) (t1 : (Ty.den (.slice (.int .i64)))) (t2 : (Ty.den (.slice .str))) (t8 : Int) (b13 : (Ty.den (.slice (.int .i64)))) : L28 N (n + 1) ((t0, t1, t2, (), t8, ()), (b13, ())) =
 (if decide ((0 : Int) ≤ t8) = true then
  if (0 : Int) ≤ t8 ∧ t8 < (↑(List.length t1) : Int) then
    if
        (0 : Int) ≤ IntKind.i64.wrap (t8 + (1 : Int)) ∧
          IntKind.i64.wrap (t8 + (1 : Int)) < (↑(List.length b13) : Int) then
      (if
              decide
                  (List.getD t1 t8.toNat (Ty.int IntKind.i64).zero <
                    List.getD b13 (IntKind.i64.wrap (t8 + (1 : Int))).toNat (Ty.int IntKind.i64).zero) =
                true then
            if
                (0 : Int) ≤ IntKind.i64.wrap (t8 + (1 : Int)) ∧
                  IntKind.i64.wrap (t8 + (1 : Int)) < (↑(List.length b13) : Int) then
              some
                (Ctl.normal,
                  (t0, t1, t2, (), t8,
                    List.getD b13 (IntKind.i64.wrap (t8 + (1 : Int))).toNat (Ty.int IntKind.i64).zero, ()),
                  b13, ())
            else none
          else
            some
              (Ctl.normal, (t0, t1, t2, (), t8, List.getD t1 t8.toNat (Ty.int IntKind.i64).zero, ()),
                b13, ())).bind
        fun (r : Ctl × J28_31.den) =>
        r.fst.elim
          ((if
                  (0 : Int) ≤ r.snd.fst.snd.snd.snd.snd.fst ∧
                    r.snd.fst.snd.snd.snd.snd.fst <
                      (↑(List.length r.snd.fst.snd.snd.fst) : Int) then
                if
                    decide
                        (r.snd.fst.fst =
                          List.getD r.snd.fst.snd.snd.fst (Int.toNat r.snd.fst.snd.snd.snd.snd.fst) (Ty.zero .str)) =
                      true then
                  if
                      (0 : Int) ≤ IntKind.i64.wrap (r.snd.fst.snd.snd.snd.snd.fst + (1 : Int)) ∧
                        IntKind.i64.wrap (r.snd.fst.snd.snd.snd.snd.fst + (1 : Int)) <
                          (↑(List.length r.snd.fst.snd.fst) : Int) then
                    some
                      (decide
                        (r.snd.fst.snd.snd.snd.snd.snd.fst <
                          IntKind.i64.wrap
                            (List.getD r.snd.fst.snd.fst
                                (IntKind.i64.wrap (r.snd.fst.snd.snd.snd.snd.fst + (1 : Int))).toNat
                                (Ty.int IntKind.i64).zero +
                              (1 : Int))))
                  else none
                else some false
              else none).bind
            fun (b : Bool) =>
            (if b = true then
                  if
                      (0 : Int) ≤ IntKind.i64.wrap (r.snd.fst.snd.snd.snd.snd.fst + (1 : Int)) ∧
                        IntKind.i64.wrap (r.snd.fst.snd.snd.snd.snd.fst + (1 : Int)) <
                          (↑(List.length r.snd.fst.snd.fst) : Int) then
                    some
                      (Ctl.normal,
                        (r.snd.fst.fst, r.snd.fst.snd.fst, r.snd.fst.snd.snd.fst, (),
                          r.snd.fst.snd.snd.snd.snd.fst,
                          IntKind.i64.wrap
                            (List.getD r.snd.fst.snd.fst
                                (IntKind.i64.wrap (r.snd.fst.snd.snd.snd.snd.fst + (1 : Int))).toNat
                                (Ty.int IntKind.i64).zero +
                              (1 : Int)),
                          ()),
                        r.snd.snd.fst, ())
                  else none
                else
                  some
                    (Ctl.normal,
                      (r.snd.fst.fst, r.snd.fst.snd.fst, r.snd.fst.snd.snd.fst, (),
                        r.snd.fst.snd.snd.snd.snd.fst, r.snd.fst.snd.snd.snd.snd.snd.fst, ()),
                      r.snd.snd.fst, ())).bind
              fun (r : Ctl × J28_52.den) =>
              r.fst.elim
                (if
                    (0 : Int) ≤ r.snd.fst.snd.snd.snd.snd.fst ∧
                      r.snd.fst.snd.snd.snd.snd.fst < (↑(List.length r.snd.snd.fst) : Int) then
                  L28 N n
                    ((r.snd.fst.fst, r.snd.fst.snd.fst, r.snd.fst.snd.snd.fst, (),
                        IntKind.i64.wrap (r.snd.fst.snd.snd.snd.snd.fst - (1 : Int)), ()),
                      List.set r.snd.snd.fst (Int.toNat r.snd.fst.snd.snd.snd.snd.fst)
                        r.snd.fst.snd.snd.snd.snd.snd.fst,
                      ())
                else none)
                (fun (id : Nat) =>
                  if id = (1 : Nat) then
                    L28 N n
                      ((r.snd.fst.fst, r.snd.fst.snd.fst, r.snd.fst.snd.snd.fst, (),
                          IntKind.i64.wrap (r.snd.fst.snd.snd.snd.snd.fst - (1 : Int)), ()),
                        r.snd.snd.fst, ())
                  else some (Ctl.exit id, ((), ()), r.snd.snd.fst, ()))
                (fun (id : Nat) => some (Ctl.goto id, ((), ()), r.snd.snd.fst, ()))
                (some (Ctl.ret, ((), ()), r.snd.snd.fst, ())))
          (fun (id : Nat) =>
            if id = (1 : Nat) then
              L28 N n
                ((r.snd.fst.fst, r.snd.fst.snd.fst, r.snd.fst.snd.snd.fst, (),
                    IntKind.i64.wrap (r.snd.fst.snd.snd.snd.snd.fst - (1 : Int)), ()),
                  r.snd.snd.fst, ())
            else some (Ctl.exit id, ((), ()), r.snd.snd.fst, ()))
          (fun (id : Nat) => some (Ctl.goto id, ((), ()), r.snd.snd.fst, ()))
          (some (Ctl.ret, ((), ()), r.snd.snd.fst, ()))
    else none
  else none
else some (Ctl.exit (0 : Nat), ((), ()), b13, ())) := by kernel_rfl
noncomputable def g28 (N : Nat) (x : A28.den) : Option (RTs.den R28) :=
 if
    (0 : Int) ≤ IntKind.i64.wrap ((↑(List.length x.2.2.1) : Int) + (1 : Int)) ∧
      IntKind.i64.wrap ((↑(List.length x.2.2.1) : Int) + (1 : Int)) ≤
          IntKind.i64.wrap ((↑(List.length x.2.2.1) : Int) + (1 : Int)) ∧
        IntKind.i64.wrap ((↑(List.length x.2.2.1) : Int) + (1 : Int)) *
            ((↑(8 : Nat) : Int) + (1 : Int)) ≤
          (↑((2 : Nat) ^ (40 : Nat)) : Int) then
  if
      IntKind.i64.wrap ((↑(List.length x.2.2.1) : Int) + (1 : Int)) =
        IntKind.i64.wrap ((↑(List.length x.2.2.1) : Int) + (1 : Int)) then
    (L28 N N
          ((x.1, x.2.1, x.2.2.1, (), IntKind.i64.wrap ((↑(List.length x.2.2.1) : Int) - (1 : Int)), ()),
            List.replicate (IntKind.i64.wrap ((↑(List.length x.2.2.1) : Int) + (1 : Int))).toNat (Ty.int IntKind.i64).zero,
            ())).bind
      fun (r : Ctl × O28.den) =>
      r.fst.elim none (fun (id : Nat) => if id = (0 : Nat) then some (r.snd.snd.fst, ()) else none)
        (fun (id : Nat) => none) none
  else none
else none
theorem run28 (N : Nat) (x : A28.den) : run (tab.ctx (F28 N)) N Try.f28 A28 R28 x = g28 N x := by kernel_rfl
theorem ok28 (N : Nat) : okFn (tab.ctx (F28 N)) Try.f28 A28 = true := by kernel_rfl
theorem fns28 (N : Nat) : FnOK Try.prog (tab.ctx (F28 N)) := fnOK_nil
theorem pure28 (N : Nat) : PureOK Try.prog 28 A28 R28 (g28 N) := pureOK (tab.ctxOK tab_ok _) (fns28 N) Try.func28 (ok28 N) (run28 N)
end Go.Ev

/-
  quitclaim/quitclaimref12.Table: what it answers. (Printed by wip/tools/gen.py.)
-/
namespace Go.Ev
open Go.Proofs
abbrev A14 : Ty := (.cons (.slice .str) (.cons (.slice .str) .unit))
abbrev R14 : List RT := [.own (.slice (.int .i64))]
noncomputable def F14 (N : Nat) (g : A14.den → Option (RTs.den R14)) : Fn := { fns := [(14, .pure A14 R14 g), (28, .pure A28 R28 (g28 N))], writes := [], loops := [], conds := [], mats := [], vecs := [], fins := [] }
noncomputable def h14 (N : Nat) (g : A14.den → Option (RTs.den R14)) (x : A14.den) : Option (RTs.den R14) :=
 if decide ((↑(List.length x.1) : Int) = (0 : Int)) = true then
  if
      (0 : Int) ≤ IntKind.i64.wrap ((↑(List.length x.2.1) : Int) + (1 : Int)) ∧
        IntKind.i64.wrap ((↑(List.length x.2.1) : Int) + (1 : Int)) ≤
            IntKind.i64.wrap ((↑(List.length x.2.1) : Int) + (1 : Int)) ∧
          IntKind.i64.wrap ((↑(List.length x.2.1) : Int) + (1 : Int)) *
              ((↑(8 : Nat) : Int) + (1 : Int)) ≤
            (↑((2 : Nat) ^ (40 : Nat)) : Int) then
    some
      ([List.replicate (IntKind.i64.wrap ((↑(List.length x.2.1) : Int) + (1 : Int))).toNat (Ty.int IntKind.i64).zero],
        ())
  else none
else
  if (0 : Int) ≤ (1 : Int) ∧ (1 : Int) ≤ (↑(List.length x.1) : Int) then
    (g (List.drop (Int.toNat (1 : Int)) x.1, x.2.1, ())).bind fun (r : RTs.den R14) =>
      if (0 : Int) ≤ (0 : Int) ∧ (0 : Int) < (↑(List.length x.1) : Int) then
        if
            (0 : Int) ≤ (0 : Int) ∧
              (0 : Int) < (↑(List.length r.fst) : Int) then
          (g28 N
                (List.getD x.1 (Int.toNat (0 : Int)) (Ty.zero .str),
                  List.getD r.fst (Int.toNat (0 : Int)) (Ty.int IntKind.i64).slice.zero, x.2.1, ())).bind
            fun (r_1 : RTs.den R28) =>
            if ([r_1.fst].length + List.length r.fst) * ((24 : Nat) + (1 : Nat)) ≤ (2 : Nat) ^ (40 : Nat) then
              some ([r_1.fst] ++ r.fst, ())
            else none
        else none
      else none
  else none
theorem run14 (N : Nat) (g : A14.den → Option (RTs.den R14)) (x : A14.den) : run (tab.ctx (F14 N g)) N Try.f14 A14 R14 x = h14 N g x := by kernel_rfl
theorem ok14 (N : Nat) (g : A14.den → Option (RTs.den R14)) : okFn (tab.ctx (F14 N g)) Try.f14 A14 = true := by kernel_rfl
noncomputable def g14 (N : Nat) : Nat → A14.den → Option (RTs.den R14)
  | 0, _ => none
  | n + 1, x => h14 N (g14 N n) x
theorem fns14 (N : Nat) {g : A14.den → Option (RTs.den R14)} (h : PureOK Try.prog 14 A14 R14 g) : FnOK Try.prog (tab.ctx (F14 N g)) := fnOK_cons h (fnOK_cons (pure28 N) fnOK_nil)
theorem pure14 (N : Nat) : ∀ n, PureOK Try.prog 14 A14 R14 (g14 N n)
  | 0 => pureNone Try.func14 (ok14 N fun _ => none)
  | n + 1 => pureOK (tab.ctxOK tab_ok _) (fns14 N (pure14 N n)) Try.func14 (ok14 N _) (run14 N (g14 N n))
end Go.Ev

/-
  quitclaim/diff.table: what it answers. (Printed by wip/tools/gen.py.)
-/
namespace Go.Ev
open Go.Proofs
abbrev S25_3 : Shape := ⟨[(0, .d (.slice .str)), (1, .d (.slice .str)), (5, .msl 0), (14, .d (.int .i64)), (15, .d (.int .i64))], [.mat (.int .i64)]⟩
abbrev O25_3 : Shape := ⟨[(0, .d (.slice .str)), (1, .d (.slice .str)), (5, .msl 0)], [.mat (.int .i64)]⟩
abbrev S25_8 : Shape := ⟨[(0, .d (.slice .str)), (1, .d (.slice .str)), (5, .msl 0), (7, .d (.int .i64))], [.mat (.int .i64)]⟩
abbrev O25_8 : Shape := ⟨[(5, .msl 0)], [.mat (.int .i64)]⟩
abbrev S25_11 : Shape := ⟨[(0, .d (.slice .str)), (1, .d (.slice .str)), (5, .msl 0), (7, .d (.int .i64)), (8, .d (.int .i64))], [.mat (.int .i64)]⟩
abbrev O25_11 : Shape := ⟨[(0, .d (.slice .str)), (1, .d (.slice .str)), (5, .msl 0), (7, .d (.int .i64))], [.mat (.int .i64)]⟩
abbrev J25_71 : Shape := ⟨[(0, .d (.slice .str)), (1, .d (.slice .str)), (5, .msl 0), (7, .d (.int .i64)), (8, .d (.int .i64))], [.mat (.int .i64)]⟩
abbrev A25 : Ty := (.cons (.slice .str) (.cons (.slice .str) .unit))
abbrev R25 : List RT := [.d (.slice (.slice (.int .i64)))]
noncomputable def F25 (N : Nat) : Fn := { fns := [], writes := [23], loops := [(3, S25_3, O25_3), (8, S25_8, O25_8), (11, S25_11, O25_11)], conds := [(71, J25_71)], mats := [12], vecs := [], fins := [] }
noncomputable def L25_3 (N : Nat) : Nat → S25_3.den → Option (Ctl × O25_3.den) := loopFn (tab.ctx (F25 N)) N (loopCode Try.f25 3) S25_3 O25_3
noncomputable def L25_8 (N : Nat) : Nat → S25_8.den → Option (Ctl × O25_8.den) := loopFn (tab.ctx (F25 N)) N (loopCode Try.f25 8) S25_8 O25_8
noncomputable def L25_11 (N : Nat) : Nat → S25_11.den → Option (Ctl × O25_11.den) := loopFn (tab.ctx (F25 N)) N (loopCode Try.f25 11) S25_11 O25_11
theorem L25_3_succ (N n : Nat) (t0 : (Ty.den (.slice .str))) (t1 : (Ty.den (.slice .str))) (t14 : Int) (t15 : Int) (b12 : List (Option (List (Ty.den (.int .i64))))) : L25_3 N (n + 1) ((t0, t1, (), t14, t15, ()), (b12, ())) =
 (if decide (t15 < t14) = true then
  if
      (0 : Int) ≤ IntKind.i64.wrap ((↑(List.length t1) : Int) + (1 : Int)) ∧
        IntKind.i64.wrap ((↑(List.length t1) : Int) + (1 : Int)) ≤
            IntKind.i64.wrap ((↑(List.length t1) : Int) + (1 : Int)) ∧
          IntKind.i64.wrap ((↑(List.length t1) : Int) + (1 : Int)) *
              ((↑(8 : Nat) : Int) + (1 : Int)) ≤
            (↑((2 : Nat) ^ (40 : Nat)) : Int) then
    if
        IntKind.i64.wrap ((↑(List.length t1) : Int) + (1 : Int)) =
          IntKind.i64.wrap ((↑(List.length t1) : Int) + (1 : Int)) then
      if (0 : Int) ≤ t15 ∧ t15 < (↑b12.length : Int) then
        if (b12.getD t15.toNat (none : Option (List (Ty.den (.int .i64))))).isSome = true then none
        else
          L25_3 N n
            ((t0, t1, (), t14, IntKind.i64.wrap (t15 + (1 : Int)), ()),
              b12.set t15.toNat
                (some
                  (List.replicate (IntKind.i64.wrap ((↑(List.length t1) : Int) + (1 : Int))).toNat
                    (Ty.int IntKind.i64).zero)),
              ())
      else none
    else none
  else none
else some (Ctl.exit (0 : Nat), (t0, t1, (), ()), b12, ())) := by kernel_rfl
theorem L25_8_succ (N n : Nat) (t0 : (Ty.den (.slice .str))) (t1 : (Ty.den (.slice .str))) (t7 : Int) (b12 : List (Option (List (Ty.den (.int .i64))))) : L25_8 N (n + 1) ((t0, t1, (), t7, ()), (b12, ())) =
 (if decide ((0 : Int) ≤ t7) = true then
  (L25_11 N N
        ((t0, t1, (), t7, IntKind.i64.wrap ((↑(List.length t1) : Int) - (1 : Int)), ()), b12,
          ())).bind
    fun (r : Ctl × O25_11.den) =>
    r.fst.elim none
      (fun (id : Nat) =>
        if id = (4 : Nat) then
          L25_8 N n
            ((r.snd.fst.fst, r.snd.fst.snd.fst, (), IntKind.i64.wrap (r.snd.fst.snd.snd.snd.fst - (1 : Int)),
                ()),
              r.snd.snd.fst, ())
        else
          if id = (3 : Nat) then
            L25_8 N n
              ((r.snd.fst.fst, r.snd.fst.snd.fst, (), IntKind.i64.wrap (r.snd.fst.snd.snd.snd.fst - (1 : Int)),
                  ()),
                r.snd.snd.fst, ())
          else some (Ctl.exit id, ((), ()), r.snd.snd.fst, ()))
      (fun (id : Nat) => some (Ctl.goto id, ((), ()), r.snd.snd.fst, ()))
      (some (Ctl.ret, ((), ()), r.snd.snd.fst, ()))
else some (Ctl.exit (2 : Nat), ((), ()), b12, ())) := by kernel_rfl
theorem L25_11_succ (N n : Nat) (t0 : (Ty.den (.slice .str))) (t1 : (Ty.den (.slice .str))) (t7 : Int) (t8 : Int) (b12 : List (Option (List (Ty.den (.int .i64))))) : L25_11 N (n + 1) ((t0, t1, (), t7, t8, ()), (b12, ())) =
 (if decide ((0 : Int) ≤ t8) = true then
  if (0 : Int) ≤ t7 ∧ t7 < (↑b12.length : Int) then
    (b12.getD t7.toNat (none : Option (List (Ty.den (.int .i64))))).bind fun (r : List Int) =>
      if
          (0 : Int) ≤ IntKind.i64.wrap (t7 + (1 : Int)) ∧
            IntKind.i64.wrap (t7 + (1 : Int)) < (↑b12.length : Int) then
        (b12.getD (IntKind.i64.wrap (t7 + (1 : Int))).toNat (none : Option (List (Ty.den (.int .i64))))).bind fun (r : List Int) =>
          (b12.getD (IntKind.i64.wrap (t7 + (1 : Int))).toNat (none : Option (List (Ty.den (.int .i64))))).bind fun (xs : List Int) =>
            if (0 : Int) ≤ t8 ∧ t8 < (↑xs.length : Int) then
              (b12.getD (IntKind.i64.wrap (t7 + (1 : Int))).toNat (none : Option (List (Ty.den (.int .i64))))).bind fun (xs : List Int) =>
                if (0 : Int) ≤ t7 ∧ t7 < (↑b12.length : Int) then
                  (b12.getD t7.toNat (none : Option (List (Ty.den (.int .i64))))).bind fun (r : List Int) =>
                    (b12.getD t7.toNat (none : Option (List (Ty.den (.int .i64))))).bind fun (xs_1 : List Int) =>
                      if
                          (0 : Int) ≤ IntKind.i64.wrap (t8 + (1 : Int)) ∧
                            IntKind.i64.wrap (t8 + (1 : Int)) < (↑xs_1.length : Int) then
                        (b12.getD t7.toNat (none : Option (List (Ty.den (.int .i64))))).bind fun (xs_2 : List Int) =>
                          (b12.getD t7.toNat (none : Option (List (Ty.den (.int .i64))))).bind fun (xs_3 : List Int) =>
                            if (0 : Int) ≤ t8 ∧ t8 < (↑xs_3.length : Int) then
                              (b12.getD t7.toNat (none : Option (List (Ty.den (.int .i64))))).bind fun (xs_4 : List Int) =>
                                if
                                    (0 : Int) ≤ t7 ∧
                                      t7 < (↑(List.length t0) : Int) then
                                  if
                                      (0 : Int) ≤ t8 ∧
                                        t8 < (↑(List.length t1) : Int) then
                                    (if
                                            decide
                                                (List.getD t0 t7.toNat (Ty.zero .str) =
                                                  List.getD t1 t8.toNat (Ty.zero .str)) =
                                              true then
                                          if
                                              (0 : Int) ≤ t7 ∧
                                                t7 <
                                                  (↑(b12.set t7.toNat
                                                          (some
                                                            (xs_4.set t8.toNat
                                                              (if
                                                                  xs.getD t8.toNat (Ty.int IntKind.i64).zero <
                                                                    xs_2.getD (IntKind.i64.wrap (t8 + (1 : Int))).toNat
                                                                      (Ty.int IntKind.i64).zero then
                                                                xs_2.getD (IntKind.i64.wrap (t8 + (1 : Int))).toNat
                                                                  (Ty.int IntKind.i64).zero
                                                              else
                                                                xs.getD t8.toNat (Ty.int IntKind.i64).zero)))).length :
                                                    Int) then
                                            ((b12.set t7.toNat
                                                      (some
                                                        (xs_4.set t8.toNat
                                                          (if
                                                              xs.getD t8.toNat (Ty.int IntKind.i64).zero <
                                                                xs_2.getD (IntKind.i64.wrap (t8 + (1 : Int))).toNat
                                                                  (Ty.int IntKind.i64).zero then
                                                            xs_2.getD (IntKind.i64.wrap (t8 + (1 : Int))).toNat
                                                              (Ty.int IntKind.i64).zero
                                                          else xs.getD t8.toNat (Ty.int IntKind.i64).zero)))).getD
                                                  t7.toNat (none : Option (List (Ty.den (.int .i64))))).bind
                                              fun (r : List Int) =>
                                              if
                                                  (0 : Int) ≤ t7 ∧
                                                    t7 <
                                                      (↑(b12.set t7.toNat
                                                              (some
                                                                (xs_4.set t8.toNat
                                                                  (if
                                                                      xs.getD t8.toNat (Ty.int IntKind.i64).zero <
                                                                        xs_2.getD
                                                                          (IntKind.i64.wrap (t8 + (1 : Int))).toNat
                                                                          (Ty.int IntKind.i64).zero then
                                                                    xs_2.getD (IntKind.i64.wrap (t8 + (1 : Int))).toNat
                                                                      (Ty.int IntKind.i64).zero
                                                                  else
                                                                    xs.getD t8.toNat
                                                                      (Ty.int IntKind.i64).zero)))).length :
                                                        Int) then
                                                ((b12.set t7.toNat
                                                          (some
                                                            (xs_4.set t8.toNat
                                                              (if
                                                                  xs.getD t8.toNat (Ty.int IntKind.i64).zero <
                                                                    xs_2.getD (IntKind.i64.wrap (t8 + (1 : Int))).toNat
                                                                      (Ty.int IntKind.i64).zero then
                                                                xs_2.getD (IntKind.i64.wrap (t8 + (1 : Int))).toNat
                                                                  (Ty.int IntKind.i64).zero
                                                              else xs.getD t8.toNat (Ty.int IntKind.i64).zero)))).getD
                                                      t7.toNat (none : Option (List (Ty.den (.int .i64))))).bind
                                                  fun (r : List Int) =>
                                                  ((b12.set t7.toNat
                                                            (some
                                                              (xs_4.set t8.toNat
                                                                (if
                                                                    xs.getD t8.toNat (Ty.int IntKind.i64).zero <
                                                                      xs_2.getD
                                                                        (IntKind.i64.wrap (t8 + (1 : Int))).toNat
                                                                        (Ty.int IntKind.i64).zero then
                                                                  xs_2.getD (IntKind.i64.wrap (t8 + (1 : Int))).toNat
                                                                    (Ty.int IntKind.i64).zero
                                                                else xs.getD t8.toNat (Ty.int IntKind.i64).zero)))).getD
                                                        t7.toNat (none : Option (List (Ty.den (.int .i64))))).bind
                                                    fun (xs_5 : List Int) =>
                                                    if
                                                        (0 : Int) ≤ t8 ∧
                                                          t8 < (↑xs_5.length : Int) then
                                                      ((b12.set t7.toNat
                                                                (some
                                                                  (xs_4.set t8.toNat
                                                                    (if
                                                                        xs.getD t8.toNat (Ty.int IntKind.i64).zero <
                                                                          xs_2.getD
                                                                            (IntKind.i64.wrap (t8 + (1 : Int))).toNat
                                                                            (Ty.int IntKind.i64).zero then
                                                                      xs_2.getD
                                                                        (IntKind.i64.wrap (t8 + (1 : Int))).toNat
                                                                        (Ty.int IntKind.i64).zero
                                                                    else
                                                                      xs.getD t8.toNat
                                                                        (Ty.int IntKind.i64).zero)))).getD
                                                            t7.toNat (none : Option (List (Ty.den (.int .i64))))).bind
                                                        fun (xs_6 : List Int) =>
                                                        if
                                                            (0 : Int) ≤
                                                                IntKind.i64.wrap (t7 + (1 : Int)) ∧
                                                              IntKind.i64.wrap (t7 + (1 : Int)) <
                                                                (↑(b12.set t7.toNat
                                                                        (some
                                                                          (xs_4.set t8.toNat
                                                                            (if
                                                                                xs.getD t8.toNat
                                                                                    (Ty.int IntKind.i64).zero <
                                                                                  xs_2.getD
                                                                                    (IntKind.i64.wrap
                                                                                        (t8 + (1 : Int))).toNat
                                                                                    (Ty.int IntKind.i64).zero then
                                                                              xs_2.getD
                                                                                (IntKind.i64.wrap
                                                                                    (t8 + (1 : Int))).toNat
                                                                                (Ty.int IntKind.i64).zero
                                                                            else
                                                                              xs.getD t8.toNat
                                                                                (Ty.int IntKind.i64).zero)))).length :
                                                                  Int) then
                                                          ((b12.set t7.toNat
                                                                    (some
                                                                      (xs_4.set t8.toNat
                                                                        (if
                                                                            xs.getD t8.toNat (Ty.int IntKind.i64).zero <
                                                                              xs_2.getD
                                                                                (IntKind.i64.wrap
                                                                                    (t8 + (1 : Int))).toNat
                                                                                (Ty.int IntKind.i64).zero then
                                                                          xs_2.getD
                                                                            (IntKind.i64.wrap (t8 + (1 : Int))).toNat
                                                                            (Ty.int IntKind.i64).zero
                                                                        else
                                                                          xs.getD t8.toNat
                                                                            (Ty.int IntKind.i64).zero)))).getD
                                                                (IntKind.i64.wrap (t7 + (1 : Int))).toNat (none : Option (List (Ty.den (.int .i64))))).bind
                                                            fun (r : List Int) =>
                                                            ((b12.set t7.toNat
                                                                      (some
                                                                        (xs_4.set t8.toNat
                                                                          (if
                                                                              xs.getD t8.toNat
                                                                                  (Ty.int IntKind.i64).zero <
                                                                                xs_2.getD
                                                                                  (IntKind.i64.wrap
                                                                                      (t8 + (1 : Int))).toNat
                                                                                  (Ty.int IntKind.i64).zero then
                                                                            xs_2.getD
                                                                              (IntKind.i64.wrap (t8 + (1 : Int))).toNat
                                                                              (Ty.int IntKind.i64).zero
                                                                          else
                                                                            xs.getD t8.toNat
                                                                              (Ty.int IntKind.i64).zero)))).getD
                                                                  (IntKind.i64.wrap (t7 + (1 : Int))).toNat (none : Option (List (Ty.den (.int .i64))))).bind
                                                              fun (xs_7 : List Int) =>
                                                              if
                                                                  (0 : Int) ≤
                                                                      IntKind.i64.wrap (t8 + (1 : Int)) ∧
                                                                    IntKind.i64.wrap (t8 + (1 : Int)) <
                                                                      (↑xs_7.length : Int) then
                                                                ((b12.set t7.toNat
                                                                          (some
                                                                            (xs_4.set t8.toNat
                                                                              (if
                                                                                  xs.getD t8.toNat
                                                                                      (Ty.int IntKind.i64).zero <
                                                                                    xs_2.getD
                                                                                      (IntKind.i64.wrap
                                                                                          (t8 + (1 : Int))).toNat
                                                                                      (Ty.int IntKind.i64).zero then
                                                                                xs_2.getD
                                                                                  (IntKind.i64.wrap
                                                                                      (t8 + (1 : Int))).toNat
                                                                                  (Ty.int IntKind.i64).zero
                                                                              else
                                                                                xs.getD t8.toNat
                                                                                  (Ty.int IntKind.i64).zero)))).getD
                                                                      (IntKind.i64.wrap (t7 + (1 : Int))).toNat
                                                                      none).bind
                                                                  fun (xs_8 : List Int) =>
                                                                  ((b12.set t7.toNat
                                                                            (some
                                                                              (xs_4.set t8.toNat
                                                                                (if
                                                                                    xs.getD t8.toNat
                                                                                        (Ty.int IntKind.i64).zero <
                                                                                      xs_2.getD
                                                                                        (IntKind.i64.wrap
                                                                                            (t8 + (1 : Int))).toNat
                                                                                        (Ty.int IntKind.i64).zero then
                                                                                  xs_2.getD
                                                                                    (IntKind.i64.wrap
                                                                                        (t8 + (1 : Int))).toNat
                                                                                    (Ty.int IntKind.i64).zero
                                                                                else
                                                                                  xs.getD t8.toNat
                                                                                    (Ty.int IntKind.i64).zero)))).getD
                                                                        t7.toNat (none : Option (List (Ty.den (.int .i64))))).bind
                                                                    fun (xs_9 : List Int) =>
                                                                    if
                                                                        (0 : Int) ≤ t8 ∧
                                                                          t8 <
                                                                            (↑xs_9.length :
                                                                              Int) then
                                                                      ((b12.set t7.toNat
                                                                                (some
                                                                                  (xs_4.set t8.toNat
                                                                                    (if
                                                                                        xs.getD t8.toNat
                                                                                            (Ty.int IntKind.i64).zero <
                                                                                          xs_2.getD
                                                                                            (IntKind.i64.wrap
                                                                                                (t8 + (1 : Int))).toNat
                                                                                            (Ty.int
                                                                                                IntKind.i64).zero then
                                                                                      xs_2.getD
                                                                                        (IntKind.i64.wrap
                                                                                            (t8 + (1 : Int))).toNat
                                                                                        (Ty.int IntKind.i64).zero
                                                                                    else
                                                                                      xs.getD t8.toNat
                                                                                        (Ty.int
                                                                                            IntKind.i64).zero)))).getD
                                                                            t7.toNat (none : Option (List (Ty.den (.int .i64))))).bind
                                                                        fun (xs_10 : List Int) =>
                                                                        some
                                                                          (Ctl.normal,
                                                                            (t0, t1, (), t7, t8, ()),
                                                                            (b12.set t7.toNat
                                                                                  (some
                                                                                    (xs_4.set t8.toNat
                                                                                      (if
                                                                                          xs.getD t8.toNat
                                                                                              (Ty.int
                                                                                                  IntKind.i64).zero <
                                                                                            xs_2.getD
                                                                                              (IntKind.i64.wrap
                                                                                                  (t8 +
                                                                                                    (1 : Int))).toNat
                                                                                              (Ty.int
                                                                                                  IntKind.i64).zero then
                                                                                        xs_2.getD
                                                                                          (IntKind.i64.wrap
                                                                                              (t8 + (1 : Int))).toNat
                                                                                          (Ty.int IntKind.i64).zero
                                                                                      else
                                                                                        xs.getD t8.toNat
                                                                                          (Ty.int
                                                                                              IntKind.i64).zero)))).set
                                                                              t7.toNat
                                                                              (some
                                                                                (xs_10.set t8.toNat
                                                                                  (if
                                                                                      xs_6.getD t8.toNat
                                                                                          (Ty.int IntKind.i64).zero <
                                                                                        IntKind.i64.wrap
                                                                                          (xs_8.getD
                                                                                              (IntKind.i64.wrap
                                                                                                  (t8 +
                                                                                                    (1 : Int))).toNat
                                                                                              (Ty.int
                                                                                                  IntKind.i64).zero +
                                                                                            (1 : Int)) then
                                                                                    IntKind.i64.wrap
                                                                                      (xs_8.getD
                                                                                          (IntKind.i64.wrap
                                                                                              (t8 + (1 : Int))).toNat
                                                                                          (Ty.int IntKind.i64).zero +
                                                                                        (1 : Int))
                                                                                  else
                                                                                    xs_6.getD t8.toNat
                                                                                      (Ty.int IntKind.i64).zero))),
                                                                            ())
                                                                    else none
                                                              else none
                                                        else none
                                                    else none
                                              else none
                                          else none
                                        else
                                          some
                                            (Ctl.normal, (t0, t1, (), t7, t8, ()),
                                              b12.set t7.toNat
                                                (some
                                                  (xs_4.set t8.toNat
                                                    (if
                                                        xs.getD t8.toNat (Ty.int IntKind.i64).zero <
                                                          xs_2.getD (IntKind.i64.wrap (t8 + (1 : Int))).toNat
                                                            (Ty.int IntKind.i64).zero then
                                                      xs_2.getD (IntKind.i64.wrap (t8 + (1 : Int))).toNat
                                                        (Ty.int IntKind.i64).zero
                                                    else xs.getD t8.toNat (Ty.int IntKind.i64).zero))),
                                              ())).bind
                                      fun (r : Ctl × J25_71.den) =>
                                      r.fst.elim
                                        (L25_11 N n
                                          ((r.snd.fst.fst, r.snd.fst.snd.fst, (), r.snd.fst.snd.snd.snd.fst,
                                              IntKind.i64.wrap (r.snd.fst.snd.snd.snd.snd.fst - (1 : Int)), ()),
                                            r.snd.snd.fst, ()))
                                        (fun (id : Nat) =>
                                          if id = (5 : Nat) then
                                            L25_11 N n
                                              ((r.snd.fst.fst, r.snd.fst.snd.fst, (), r.snd.fst.snd.snd.snd.fst,
                                                  IntKind.i64.wrap (r.snd.fst.snd.snd.snd.snd.fst - (1 : Int)),
                                                  ()),
                                                r.snd.snd.fst, ())
                                          else
                                            some
                                              (Ctl.exit id,
                                                (r.snd.fst.fst, r.snd.fst.snd.fst, (),
                                                  r.snd.fst.snd.snd.snd.fst, ()),
                                                r.snd.snd.fst, ()))
                                        (fun (id : Nat) =>
                                          some
                                            (Ctl.goto id,
                                              (r.snd.fst.fst, r.snd.fst.snd.fst, (), r.snd.fst.snd.snd.snd.fst,
                                                ()),
                                              r.snd.snd.fst, ()))
                                        (some
                                          (Ctl.ret,
                                            (r.snd.fst.fst, r.snd.fst.snd.fst, (), r.snd.fst.snd.snd.snd.fst,
                                              ()),
                                            r.snd.snd.fst, ()))
                                  else none
                                else none
                            else none
                      else none
                else none
            else none
      else none
  else none
else some (Ctl.exit (4 : Nat), (t0, t1, (), t7, ()), b12, ())) := by kernel_rfl
noncomputable def g25 (N : Nat) (x : A25.den) : Option (RTs.den R25) :=
 if
    (0 : Int) ≤ IntKind.i64.wrap ((↑(List.length x.1) : Int) + (1 : Int)) ∧
      IntKind.i64.wrap ((↑(List.length x.1) : Int) + (1 : Int)) ≤
          IntKind.i64.wrap ((↑(List.length x.1) : Int) + (1 : Int)) ∧
        IntKind.i64.wrap ((↑(List.length x.1) : Int) + (1 : Int)) *
            ((↑(24 : Nat) : Int) + (1 : Int)) ≤
          (↑((2 : Nat) ^ (40 : Nat)) : Int) then
  if
      IntKind.i64.wrap ((↑(List.length x.1) : Int) + (1 : Int)) =
          IntKind.i64.wrap ((↑(List.length x.1) : Int) + (1 : Int)) ∧
        (0 : Nat) < (1 : Nat) then
    (L25_3 N N
          ((x.1, x.2.1, (),
              (↑(List.replicate (IntKind.i64.wrap ((↑(List.length x.1) : Int) + (1 : Int))).toNat (none : Option (List (Ty.den (.int .i64))))).length : Int),
              (0 : Int), ()),
            List.replicate (IntKind.i64.wrap ((↑(List.length x.1) : Int) + (1 : Int))).toNat (none : Option (List (Ty.den (.int .i64)))), ())).bind
      fun (r : Ctl × O25_3.den) =>
      r.fst.elim none
        (fun (id : Nat) =>
          if id = (0 : Nat) then
            (L25_8 N N
                  ((r.snd.fst.fst, r.snd.fst.snd.fst, (),
                      IntKind.i64.wrap ((↑(List.length r.snd.fst.fst) : Int) - (1 : Int)), ()),
                    r.snd.snd.fst, ())).bind
              fun (r : Ctl × O25_8.den) =>
              r.fst.elim none
                (fun (id : Nat) =>
                  if id = (2 : Nat) then
                    ((allRows r.snd.snd.fst).bind fun (xs : List (List Int)) => some xs).bind
                      fun (x : (Ty.int IntKind.i64).slice.slice.den) => some (x, ())
                  else none)
                (fun (id : Nat) => none) none
          else none)
        (fun (id : Nat) => none) none
  else none
else none
theorem run25 (N : Nat) (x : A25.den) : run (tab.ctx (F25 N)) N Try.f25 A25 R25 x = g25 N x := by kernel_rfl
theorem ok25 (N : Nat) : okFn (tab.ctx (F25 N)) Try.f25 A25 = true := by kernel_rfl
theorem fns25 (N : Nat) : FnOK Try.prog (tab.ctx (F25 N)) := fnOK_nil
theorem pure25 (N : Nat) : PureOK Try.prog 25 A25 R25 (g25 N) := pureOK (tab.ctxOK tab_ok _) (fns25 N) Try.func25 (ok25 N) (run25 N)
end Go.Ev

/-
  THE TABLE OF COMMON LINES: both the program's and the document's.
-/
namespace Go.Ev.Pl
open Go.Proofs

/-- A row by its places. -/
def tb {β : Type} (n : Nat) (f : Nat → β) : List β := (List.range n).map f

section
variable {β : Type} {n i : Nat} {f g : Nat → β}
theorem tb_length : (tb n f).length = n := by simp [tb]
theorem tb_getD (h : i < n) (z : β) : List.getD (tb n f) i z = f i := by
  simp [tb, List.getD_eq_getElem?_getD, h]
theorem tb_getElem (h : i < n) (h' : i < (tb n f).length) : (tb n f)[i] = f i := by simp [tb]
theorem tb_congr (h : ∀ k, k < n → f k = g k) : tb n f = tb n g := by
  unfold tb
  exact List.map_congr_left fun k hk => h k (List.mem_range.1 hk)
theorem tb_set (v : β) : List.set (tb n f) i v = tb n (fun k => if k = i then v else f k) := by
  apply List.ext_getElem?
  intro k
  simp only [tb, List.getElem?_set, List.length_map, List.length_range, List.getElem?_map, List.getElem?_range]
  by_cases hk : k < n
  · by_cases hik : i = k
    · subst hik; simp [hk]
    · simp [hik, hk, Ne.symm hik]
  · by_cases hik : i = k
    · subst hik; simp [hk]
    · simp [hik, hk]
theorem tb_replicate (v : β) : List.replicate n v = tb n (fun _ => v) := by
  apply List.ext_getElem
  · simp [tb]
  · intro i h1 h2; simp [tb]
end

theorem tn0 (i : Nat) : Int.toNat (i : Int) = i := Int.toNat_natCast i
theorem tn1 (i : Nat) : Int.toNat ((i : Int) + 1) = i + 1 := rfl
theorem ite_dec {p : Prop} [Decidable p] {β : Type} {a b : β} (h : p) : (if decide p = true then a else b) = a := if_pos (decide_eq_true h)
theorem ite_ndec {p : Prop} [Decidable p] {β : Type} {a b : β} (h : ¬ p) : (if decide p = true then a else b) = b := if_neg (by simpa using h)

theorem ite_dec' {p : Prop} {i : Decidable p} {k : Decidable (@decide p i = true)} {β : Type} {a b : β} (h : p) : @ite β (@decide p i = true) k a b = a := if_pos (decide_eq_true h)
theorem ite_ndec' {p : Prop} {i : Decidable p} {k : Decidable (@decide p i = true)} {β : Type} {a b : β} (h : ¬ p) : @ite β (@decide p i = true) k a b = b := if_neg (by simpa using h)
theorem ite_pos' {p : Prop} {i : Decidable p} {β : Type} {a b : β} (h : p) : @ite β p i a b = a := if_pos h

abbrev Ls := List ByteArray

def rowP (x new : Ls) (m : Nat) : List Int := tb (new.length + 1) fun k => if m ≤ k then ((K x (new.drop k) : Nat) : Int) else 0
def rowK (x new : Ls) : List Int := tb (new.length + 1) fun k => ((K x (new.drop k) : Nat) : Int)

theorem rowP_zero (x new : Ls) : rowP x new 0 = rowK x new := tb_congr fun k _ => by simp
theorem rowP_len (x new : Ls) : rowP x new new.length = tb (new.length + 1) fun _ => (0 : Int) := tb_congr fun k hk => by
  split
  · have : new.drop k = [] := List.drop_eq_nil_of_le (by omega)
    rw [this]; simp
  · rfl
theorem rowK_nil (new : Ls) : rowK [] new = tb (new.length + 1) fun _ => (0 : Int) := tb_congr fun k hk => by simp

theorem K_lt {x new : Ls} (k : Nat) : K x (new.drop k) ≤ new.length := by
  have h1 := K_le_right x (new.drop k)
  have h2 : (new.drop k).length ≤ new.length := by simp
  omega

/-- One place more of a row. -/
theorem rowP_step (a : ByteArray) (xs new : Ls) (j : Nat) (hj : j < new.length) (v : Int)
    (hv : v = ((K (a :: xs) (new.drop j) : Nat) : Int)) : tb (new.length + 1) (fun k => if k = j then v else if j + 1 ≤ k then ((K (a :: xs) (new.drop k) : Nat) : Int) else 0) = rowP (a :: xs) new j := tb_congr fun k hk => by
  by_cases h : k = j
  · subst h; simp [hv]
  · by_cases h2 : j + 1 ≤ k
    · rw [if_neg h, if_pos h2, if_pos (by omega)]
    · rw [if_neg h, if_neg h2, if_neg (by omega)]

theorem K_step (a : ByteArray) (xs new : Ls) (j : Nat) (hj : j < new.length) : K (a :: xs) (new.drop j) = max (max (K xs (new.drop j)) (K (a :: xs) (new.drop (j + 1)))) (if a = new[j] then K xs (new.drop (j + 1)) + 1 else 0) := by
  rw [List.drop_eq_getElem_cons hj, K_cons]

theorem L28_ne (N n : Nat) (a : ByteArray) (r : List Int) (new : Ls) (j : Nat) (p q u : Nat)
    (hn : new.length ≤ 1000000) (hj : j < new.length) (b : List Int) (lb : b.length = new.length + 1)
    (g1 : List.getD r j (Ty.zero (.int .i64)) = (p : Int)) (g2 : List.getD r (j + 1) (Ty.zero (.int .i64)) = (q : Int)) (g3 : List.getD b (j + 1) (Ty.zero (.int .i64)) = (u : Int)) (l1 : r.length = new.length + 1) (hp : p ≤ new.length) (hq : q ≤ new.length) (hu : u ≤ new.length) (h2 : ¬ a = new[j]) :
    ∃ v : Nat, v = max p u ∧ L28 N (n + 1) ((a, r, new, (), (j : Int), ()), (b, ())) = L28 N n ((a, r, new, (), (j : Int) - 1, ()), (List.set b j (v : Int), ())) := by
  rw [L28_succ]
  dsimp only [Ty.den, Sh.den]
  have g4 : List.getD new j (Ty.zero .str) = new[j] := by simp [List.getD_eq_getElem?_getD, List.getElem?_eq_getElem hj]
  have d2 : decide (a = new[j]) = false := decide_eq_false h2
  by_cases h1 : p < u
  · refine ⟨u, by omega, ?_⟩
    repeat first
      | simp (disch := omega) only [↓ite_dec, ↓ite_ndec, ↓if_pos, ite_dec', ite_ndec', ite_pos', w64, tn0, tn1, g1, g2, g3, g4, l1, lb, d2, Option.bind_some, Ctl.elim, if_true, Bool.false_eq_true, if_false]
      | dsimp only [Ty.den, Sh.den]
  · refine ⟨p, by omega, ?_⟩
    repeat first
      | simp (disch := omega) only [↓ite_dec, ↓ite_ndec, ↓if_pos, ite_dec', ite_ndec', ite_pos', w64, tn0, tn1, g1, g2, g3, g4, l1, lb, d2, Option.bind_some, Ctl.elim, if_true, Bool.false_eq_true, if_false]
      | dsimp only [Ty.den, Sh.den]

theorem L28_eq (N n : Nat) (a : ByteArray) (r : List Int) (new : Ls) (j : Nat) (p q u : Nat)
    (hn : new.length ≤ 1000000) (hj : j < new.length) (b : List Int) (lb : b.length = new.length + 1)
    (g1 : List.getD r j (Ty.zero (.int .i64)) = (p : Int)) (g2 : List.getD r (j + 1) (Ty.zero (.int .i64)) = (q : Int)) (g3 : List.getD b (j + 1) (Ty.zero (.int .i64)) = (u : Int)) (l1 : r.length = new.length + 1) (hp : p ≤ new.length) (hq : q ≤ new.length) (hu : u ≤ new.length) (h2 : a = new[j]) :
    ∃ v : Nat, v = max (max p u) (q + 1) ∧ L28 N (n + 1) ((a, r, new, (), (j : Int), ()), (b, ())) = L28 N n ((a, r, new, (), (j : Int) - 1, ()), (List.set b j (v : Int), ())) := by
  rw [L28_succ]
  dsimp only [Ty.den, Sh.den]
  have g4 : List.getD new j (Ty.zero .str) = new[j] := by simp [List.getD_eq_getElem?_getD, List.getElem?_eq_getElem hj]
  have d2 : decide (a = new[j]) = true := decide_eq_true h2
  by_cases h1 : p < u
  · by_cases h3 : u < q + 1
    · refine ⟨q + 1, by omega, ?_⟩
      repeat first
        | simp (disch := omega) only [↓ite_dec, ↓ite_ndec, ↓if_pos, ite_dec', ite_ndec', ite_pos', w64, tn0, tn1, g1, g2, g3, g4, l1, lb, d2, Option.bind_some, Ctl.elim, if_true]
        | dsimp only [Ty.den, Sh.den]
      rfl
    · refine ⟨u, by omega, ?_⟩
      repeat first
        | simp (disch := omega) only [↓ite_dec, ↓ite_ndec, ↓if_pos, ite_dec', ite_ndec', ite_pos', w64, tn0, tn1, g1, g2, g3, g4, l1, lb, d2, Option.bind_some, Ctl.elim, if_true]
        | dsimp only [Ty.den, Sh.den]
  · by_cases h3 : p < q + 1
    · refine ⟨q + 1, by omega, ?_⟩
      repeat first
        | simp (disch := omega) only [↓ite_dec, ↓ite_ndec, ↓if_pos, ite_dec', ite_ndec', ite_pos', w64, tn0, tn1, g1, g2, g3, g4, l1, lb, d2, Option.bind_some, Ctl.elim, if_true]
        | dsimp only [Ty.den, Sh.den]
      rfl
    · refine ⟨p, by omega, ?_⟩
      repeat first
        | simp (disch := omega) only [↓ite_dec, ↓ite_ndec, ↓if_pos, ite_dec', ite_ndec', ite_pos', w64, tn0, tn1, g1, g2, g3, g4, l1, lb, d2, Option.bind_some, Ctl.elim, if_true]
        | dsimp only [Ty.den, Sh.den]

theorem L28_ev (N : Nat) (a : ByteArray) (xs new : Ls) (hn : new.length ≤ 1000000) : ∀ (m n : Nat), m ≤ new.length → m < n →
    L28 N n ((a, rowK xs new, new, (), (m : Int) - 1, ()), (rowP (a :: xs) new m, ())) = some (Ctl.exit 0, ((), ()), rowK (a :: xs) new, ()) := by
  intro m
  induction m with
  | zero =>
    intro n hm hn
    obtain ⟨n, rfl⟩ : ∃ k, n = k + 1 := ⟨n - 1, by omega⟩
    rw [L28_succ, if_neg (by rw [decide_eq_true_eq]; omega), rowP_zero]
  | succ j ih =>
    intro n hm hn'
    obtain ⟨n, rfl⟩ : ∃ k, n = k + 1 := ⟨n - 1, by omega⟩
    have e : ((j + 1 : Nat) : Int) - 1 = (j : Int) := by omega
    have hj : j < new.length := by omega
    have k1 := K_lt (x := xs) (new := new) j
    have k2 := K_lt (x := xs) (new := new) (j + 1)
    have k3 := K_lt (x := a :: xs) (new := new) (j + 1)
    have hs := K_step a xs new j hj
    rw [e]
    have g1 : List.getD (rowK xs new) j (Ty.zero (.int .i64)) = ((K xs (new.drop j) : Nat) : Int) := tb_getD (by omega) _
    have g2 : List.getD (rowK xs new) (j + 1) (Ty.zero (.int .i64)) = ((K xs (new.drop (j + 1)) : Nat) : Int) := tb_getD (by omega) _
    have g3 : List.getD (rowP (a :: xs) new (j + 1)) (j + 1) (Ty.zero (.int .i64)) = ((K (a :: xs) (new.drop (j + 1)) : Nat) : Int) := by
      unfold rowP; rw [tb_getD (by omega)]; simp
    have l1 : (rowK xs new).length = new.length + 1 := tb_length
    have l2 : (rowP (a :: xs) new (j + 1)).length = new.length + 1 := tb_length
    have fin : ∀ v : Nat, v = K (a :: xs) (new.drop j) → L28 N n ((a, rowK xs new, new, (), (j : Int) - 1, ()), (List.set (rowP (a :: xs) new (j + 1)) j (v : Int), ())) = some (Ctl.exit 0, ((), ()), rowK (a :: xs) new, ()) := fun v hv => by
      have : List.set (rowP (a :: xs) new (j + 1)) j (v : Int) = rowP (a :: xs) new j := by
        unfold rowP
        rw [tb_set]
        exact rowP_step a xs new j hj v (by rw [hv])
      rw [this]
      exact ih n (by omega) (by omega)
    by_cases h2 : a = new[j]
    · rw [if_pos h2] at hs
      obtain ⟨v, hv, h⟩ := L28_eq N n a _ new j _ _ _ hn hj _ l2 g1 g2 g3 l1 k1 k2 k3 h2
      rw [h]; exact fin v (by omega)
    · rw [if_neg h2] at hs
      obtain ⟨v, hv, h⟩ := L28_ne N n a _ new j _ _ _ hn hj _ l2 g1 g2 g3 l1 k1 k2 k3 h2
      rw [h]; exact fin v (by omega)

theorem e28 (a : ByteArray) (xs new : Ls) (hn : new.length ≤ 1000000) (N : Nat) (hN : new.length < N) : g28 N (a, rowK xs new, new, ()) = some (rowK (a :: xs) new, ()) := by
  unfold g28
  have h := L28_ev N a xs new hn new.length N (Nat.le_refl _) hN
  rw [rowP_len] at h
  have hr : List.replicate (new.length + 1) (Ty.zero (.int .i64)) = tb (new.length + 1) fun _ => (0 : Int) := tb_replicate _
  simp (disch := omega) only [↓if_pos, w64, tn1, hr, h, Option.bind_some, Ctl.elim, if_true]

/-- K of all places. -/
def tabK (old new : Ls) : List (List Int) := tb (old.length + 1) fun i => rowK (old.drop i) new

theorem tabK_cons (a : ByteArray) (xs new : Ls) : tabK (a :: xs) new = rowK (a :: xs) new :: tabK xs new := by
  unfold tabK tb
  rw [List.length_cons, List.range_succ_eq_map, List.map_cons, List.map_map]
  rfl

theorem tabK_length (old new : Ls) : (tabK old new).length = old.length + 1 := tb_length

theorem e14 (new : Ls) (hn : new.length ≤ 1000) (N : Nat) (hN : new.length < N) : ∀ (old : Ls) (n : Nat), old.length ≤ 1000 → old.length < n → g14 N n (old, new, ()) = some (tabK old new, ()) := by
  intro old
  induction old with
  | nil =>
    intro n _ hn'
    obtain ⟨n, rfl⟩ : ∃ k, n = k + 1 := ⟨n - 1, by simp at hn'; omega⟩
    show h14 N (g14 N n) _ = _
    unfold h14
    have hr : List.replicate (new.length + 1) (Ty.zero (.int .i64)) = rowK [] new := by rw [rowK_nil]; exact tb_replicate _
    have e0 : ((([] : Ls).length : Nat) : Int) = 0 := rfl
    simp (disch := omega) only [e0, ↓ite_dec, ↓if_pos, w64, tn1, hr]
    rfl
  | cons a xs ih =>
    intro n hl hn'
    simp only [List.length_cons] at hl hn'
    obtain ⟨n, rfl⟩ : ∃ k, n = k + 1 := ⟨n - 1, by omega⟩
    show h14 N (g14 N n) _ = _
    unfold h14
    have ih' := ih n (by omega) (by omega)
    have ih'' : g14 N n (List.drop 1 (a :: xs), new, ()) = some (tabK xs new, ()) := ih'
    have t1 : Int.toNat (1 : Int) = 1 := rfl
    have t0 : Int.toNat (0 : Int) = 0 := rfl
    have k1 : List.getD (tabK xs new) 0 (Ty.zero (.slice (.int .i64))) = rowK xs new := tb_getD (by omega) _
    have k2 : List.getD (a :: xs) 0 (Ty.zero .str) = a := rfl
    have k3 := tabK_length xs new
    have k4 : (a :: xs).length = xs.length + 1 := rfl
    have k5 := e28 a xs new (by omega) N hN
    have k6 : ∀ r : List Int, [r].length = 1 := fun _ => rfl
    simp (disch := omega) only [k4, t1, t0, ↓ite_ndec, ↓if_pos, ih'', Option.bind_some, k1, k2, k3, k5, k6]
    rw [tabK_cons]
    rfl

end Go.Ev.Pl

/-
  THE PROGRAM'S TABLE OF COMMON LINES.
-/
namespace Go.Ev.Pl
open Go.Proofs

theorem getD_set {β : Type} {l : List β} {i : Nat} (h : i < l.length) (v z : β) : List.getD (List.set l i v) i z = v := by
  simp [List.getD_eq_getElem?_getD, List.getElem?_set, h]
theorem getD_set' {β : Type} {l : List β} {i k : Nat} (h : i ≠ k) (v z : β) : List.getD (List.set l i v) k z = List.getD l k z := by
  simp [List.getD_eq_getElem?_getD, List.getElem?_set, h]
theorem ite_neg' {p : Prop} {i : Decidable p} {β : Type} {a b : β} (h : ¬ p) : @ite β p i a b = b := if_neg h

theorem L25_n1 (N n : Nat) (old new : Ls) (b : List (Option (List Int))) (ri rk : List Int) (i j : Nat) (p q u : Nat)
    (hn : new.length ≤ 1000000) (ho : old.length ≤ 1000000) (hi : i < old.length) (hj : j < new.length) (lb : b.length = old.length + 1) (gi : List.getD b i none = some ri) (gk : List.getD b (i + 1) none = some rk)
    (li : ri.length = new.length + 1) (lk : rk.length = new.length + 1)
    (g1 : List.getD rk j (Ty.zero (.int .i64)) = (p : Int)) (g2 : List.getD rk (j + 1) (Ty.zero (.int .i64)) = (q : Int)) (g3 : List.getD ri (j + 1) (Ty.zero (.int .i64)) = (u : Int)) (hp : p ≤ new.length) (hq : q ≤ new.length) (hu : u ≤ new.length) (h2 : ¬ old[i] = new[j]) (h1 : p < u) :
    L25_11 N (n + 1) ((old, new, (), (i : Int), (j : Int), ()), (b, ())) = L25_11 N n ((old, new, (), (i : Int), (j : Int) - 1, ()), (List.set b i (some (List.set ri j ((u : Nat) : Int))), ())) := by
  rw [L25_11_succ]
  dsimp only [Ty.den, Sh.den]
  have g4 : List.getD new j (Ty.zero .str) = new[j] := by simp [List.getD_eq_getElem?_getD, List.getElem?_eq_getElem hj]
  have g5 : List.getD old i (Ty.zero .str) = old[i] := by simp [List.getD_eq_getElem?_getD, List.getElem?_eq_getElem hi]
  have gs : ∀ r, List.getD (List.set b i r) i none = r := fun r => getD_set (by omega) _ _
  have gt : ∀ r, List.getD (List.set b i r) (i + 1) none = some rk := fun r => (getD_set' (by omega) _ _).trans gk
  have ls : ∀ r, (List.set b i r).length = old.length + 1 := fun r => by rw [List.length_set, lb]
  have d2 : decide (old[i] = new[j]) = false := decide_eq_false h2
  repeat first
    | simp (disch := omega) only [↓ite_dec, ↓ite_ndec, ↓if_pos, ite_dec', ite_ndec', ite_pos', ite_neg', w64, tn0, tn1, gi, gk, gs, gt, g1, g2, g3, g4, g5, li, lk, ls, d2, List.length_set, List.set_set, getD_set, getD_set', Option.bind_some, Ctl.elim, if_true, Bool.false_eq_true, if_false]
    | dsimp only [Ty.den, Sh.den]

theorem L25_n2 (N n : Nat) (old new : Ls) (b : List (Option (List Int))) (ri rk : List Int) (i j : Nat) (p q u : Nat)
    (hn : new.length ≤ 1000000) (ho : old.length ≤ 1000000) (hi : i < old.length) (hj : j < new.length) (lb : b.length = old.length + 1) (gi : List.getD b i none = some ri) (gk : List.getD b (i + 1) none = some rk)
    (li : ri.length = new.length + 1) (lk : rk.length = new.length + 1)
    (g1 : List.getD rk j (Ty.zero (.int .i64)) = (p : Int)) (g2 : List.getD rk (j + 1) (Ty.zero (.int .i64)) = (q : Int)) (g3 : List.getD ri (j + 1) (Ty.zero (.int .i64)) = (u : Int)) (hp : p ≤ new.length) (hq : q ≤ new.length) (hu : u ≤ new.length) (h2 : ¬ old[i] = new[j]) (h1 : ¬ p < u) :
    L25_11 N (n + 1) ((old, new, (), (i : Int), (j : Int), ()), (b, ())) = L25_11 N n ((old, new, (), (i : Int), (j : Int) - 1, ()), (List.set b i (some (List.set ri j ((p : Nat) : Int))), ())) := by
  rw [L25_11_succ]
  dsimp only [Ty.den, Sh.den]
  have g4 : List.getD new j (Ty.zero .str) = new[j] := by simp [List.getD_eq_getElem?_getD, List.getElem?_eq_getElem hj]
  have g5 : List.getD old i (Ty.zero .str) = old[i] := by simp [List.getD_eq_getElem?_getD, List.getElem?_eq_getElem hi]
  have gs : ∀ r, List.getD (List.set b i r) i none = r := fun r => getD_set (by omega) _ _
  have gt : ∀ r, List.getD (List.set b i r) (i + 1) none = some rk := fun r => (getD_set' (by omega) _ _).trans gk
  have ls : ∀ r, (List.set b i r).length = old.length + 1 := fun r => by rw [List.length_set, lb]
  have d2 : decide (old[i] = new[j]) = false := decide_eq_false h2
  repeat first
    | simp (disch := omega) only [↓ite_dec, ↓ite_ndec, ↓if_pos, ite_dec', ite_ndec', ite_pos', ite_neg', w64, tn0, tn1, gi, gk, gs, gt, g1, g2, g3, g4, g5, li, lk, ls, d2, List.length_set, List.set_set, getD_set, getD_set', Option.bind_some, Ctl.elim, if_true, Bool.false_eq_true, if_false]
    | dsimp only [Ty.den, Sh.den]

theorem L25_e1 (N n : Nat) (old new : Ls) (b : List (Option (List Int))) (ri rk : List Int) (i j : Nat) (p q u : Nat)
    (hn : new.length ≤ 1000000) (ho : old.length ≤ 1000000) (hi : i < old.length) (hj : j < new.length) (lb : b.length = old.length + 1) (gi : List.getD b i none = some ri) (gk : List.getD b (i + 1) none = some rk)
    (li : ri.length = new.length + 1) (lk : rk.length = new.length + 1)
    (g1 : List.getD rk j (Ty.zero (.int .i64)) = (p : Int)) (g2 : List.getD rk (j + 1) (Ty.zero (.int .i64)) = (q : Int)) (g3 : List.getD ri (j + 1) (Ty.zero (.int .i64)) = (u : Int)) (hp : p ≤ new.length) (hq : q ≤ new.length) (hu : u ≤ new.length) (h2 : old[i] = new[j]) (h1 : p < u) (h3 : u < q + 1) :
    L25_11 N (n + 1) ((old, new, (), (i : Int), (j : Int), ()), (b, ())) = L25_11 N n ((old, new, (), (i : Int), (j : Int) - 1, ()), (List.set b i (some (List.set ri j ((q + 1 : Nat) : Int))), ())) := by
  rw [L25_11_succ]
  dsimp only [Ty.den, Sh.den]
  have g4 : List.getD new j (Ty.zero .str) = new[j] := by simp [List.getD_eq_getElem?_getD, List.getElem?_eq_getElem hj]
  have g5 : List.getD old i (Ty.zero .str) = old[i] := by simp [List.getD_eq_getElem?_getD, List.getElem?_eq_getElem hi]
  have gs : ∀ r, List.getD (List.set b i r) i none = r := fun r => getD_set (by omega) _ _
  have gt : ∀ r, List.getD (List.set b i r) (i + 1) none = some rk := fun r => (getD_set' (by omega) _ _).trans gk
  have ls : ∀ r, (List.set b i r).length = old.length + 1 := fun r => by rw [List.length_set, lb]
  have d2 : decide (old[i] = new[j]) = true := decide_eq_true h2
  repeat first
    | simp (disch := omega) only [↓ite_dec, ↓ite_ndec, ↓if_pos, ite_dec', ite_ndec', ite_pos', ite_neg', w64, tn0, tn1, gi, gk, gs, gt, g1, g2, g3, g4, g5, li, lk, ls, d2, List.length_set, List.set_set, getD_set, getD_set', Option.bind_some, Ctl.elim, if_true, Bool.false_eq_true, if_false]
    | dsimp only [Ty.den, Sh.den]
  rfl

theorem L25_e2 (N n : Nat) (old new : Ls) (b : List (Option (List Int))) (ri rk : List Int) (i j : Nat) (p q u : Nat)
    (hn : new.length ≤ 1000000) (ho : old.length ≤ 1000000) (hi : i < old.length) (hj : j < new.length) (lb : b.length = old.length + 1) (gi : List.getD b i none = some ri) (gk : List.getD b (i + 1) none = some rk)
    (li : ri.length = new.length + 1) (lk : rk.length = new.length + 1)
    (g1 : List.getD rk j (Ty.zero (.int .i64)) = (p : Int)) (g2 : List.getD rk (j + 1) (Ty.zero (.int .i64)) = (q : Int)) (g3 : List.getD ri (j + 1) (Ty.zero (.int .i64)) = (u : Int)) (hp : p ≤ new.length) (hq : q ≤ new.length) (hu : u ≤ new.length) (h2 : old[i] = new[j]) (h1 : p < u) (h3 : ¬ u < q + 1) :
    L25_11 N (n + 1) ((old, new, (), (i : Int), (j : Int), ()), (b, ())) = L25_11 N n ((old, new, (), (i : Int), (j : Int) - 1, ()), (List.set b i (some (List.set ri j ((u : Nat) : Int))), ())) := by
  rw [L25_11_succ]
  dsimp only [Ty.den, Sh.den]
  have g4 : List.getD new j (Ty.zero .str) = new[j] := by simp [List.getD_eq_getElem?_getD, List.getElem?_eq_getElem hj]
  have g5 : List.getD old i (Ty.zero .str) = old[i] := by simp [List.getD_eq_getElem?_getD, List.getElem?_eq_getElem hi]
  have gs : ∀ r, List.getD (List.set b i r) i none = r := fun r => getD_set (by omega) _ _
  have gt : ∀ r, List.getD (List.set b i r) (i + 1) none = some rk := fun r => (getD_set' (by omega) _ _).trans gk
  have ls : ∀ r, (List.set b i r).length = old.length + 1 := fun r => by rw [List.length_set, lb]
  have d2 : decide (old[i] = new[j]) = true := decide_eq_true h2
  repeat first
    | simp (disch := omega) only [↓ite_dec, ↓ite_ndec, ↓if_pos, ite_dec', ite_ndec', ite_pos', ite_neg', w64, tn0, tn1, gi, gk, gs, gt, g1, g2, g3, g4, g5, li, lk, ls, d2, List.length_set, List.set_set, getD_set, getD_set', Option.bind_some, Ctl.elim, if_true, Bool.false_eq_true, if_false]
    | dsimp only [Ty.den, Sh.den]

theorem L25_e3 (N n : Nat) (old new : Ls) (b : List (Option (List Int))) (ri rk : List Int) (i j : Nat) (p q u : Nat)
    (hn : new.length ≤ 1000000) (ho : old.length ≤ 1000000) (hi : i < old.length) (hj : j < new.length) (lb : b.length = old.length + 1) (gi : List.getD b i none = some ri) (gk : List.getD b (i + 1) none = some rk)
    (li : ri.length = new.length + 1) (lk : rk.length = new.length + 1)
    (g1 : List.getD rk j (Ty.zero (.int .i64)) = (p : Int)) (g2 : List.getD rk (j + 1) (Ty.zero (.int .i64)) = (q : Int)) (g3 : List.getD ri (j + 1) (Ty.zero (.int .i64)) = (u : Int)) (hp : p ≤ new.length) (hq : q ≤ new.length) (hu : u ≤ new.length) (h2 : old[i] = new[j]) (h1 : ¬ p < u) (h3 : p < q + 1) :
    L25_11 N (n + 1) ((old, new, (), (i : Int), (j : Int), ()), (b, ())) = L25_11 N n ((old, new, (), (i : Int), (j : Int) - 1, ()), (List.set b i (some (List.set ri j ((q + 1 : Nat) : Int))), ())) := by
  rw [L25_11_succ]
  dsimp only [Ty.den, Sh.den]
  have g4 : List.getD new j (Ty.zero .str) = new[j] := by simp [List.getD_eq_getElem?_getD, List.getElem?_eq_getElem hj]
  have g5 : List.getD old i (Ty.zero .str) = old[i] := by simp [List.getD_eq_getElem?_getD, List.getElem?_eq_getElem hi]
  have gs : ∀ r, List.getD (List.set b i r) i none = r := fun r => getD_set (by omega) _ _
  have gt : ∀ r, List.getD (List.set b i r) (i + 1) none = some rk := fun r => (getD_set' (by omega) _ _).trans gk
  have ls : ∀ r, (List.set b i r).length = old.length + 1 := fun r => by rw [List.length_set, lb]
  have d2 : decide (old[i] = new[j]) = true := decide_eq_true h2
  repeat first
    | simp (disch := omega) only [↓ite_dec, ↓ite_ndec, ↓if_pos, ite_dec', ite_ndec', ite_pos', ite_neg', w64, tn0, tn1, gi, gk, gs, gt, g1, g2, g3, g4, g5, li, lk, ls, d2, List.length_set, List.set_set, getD_set, getD_set', Option.bind_some, Ctl.elim, if_true, Bool.false_eq_true, if_false]
    | dsimp only [Ty.den, Sh.den]
  rfl

theorem L25_e4 (N n : Nat) (old new : Ls) (b : List (Option (List Int))) (ri rk : List Int) (i j : Nat) (p q u : Nat)
    (hn : new.length ≤ 1000000) (ho : old.length ≤ 1000000) (hi : i < old.length) (hj : j < new.length) (lb : b.length = old.length + 1) (gi : List.getD b i none = some ri) (gk : List.getD b (i + 1) none = some rk)
    (li : ri.length = new.length + 1) (lk : rk.length = new.length + 1)
    (g1 : List.getD rk j (Ty.zero (.int .i64)) = (p : Int)) (g2 : List.getD rk (j + 1) (Ty.zero (.int .i64)) = (q : Int)) (g3 : List.getD ri (j + 1) (Ty.zero (.int .i64)) = (u : Int)) (hp : p ≤ new.length) (hq : q ≤ new.length) (hu : u ≤ new.length) (h2 : old[i] = new[j]) (h1 : ¬ p < u) (h3 : ¬ p < q + 1) :
    L25_11 N (n + 1) ((old, new, (), (i : Int), (j : Int), ()), (b, ())) = L25_11 N n ((old, new, (), (i : Int), (j : Int) - 1, ()), (List.set b i (some (List.set ri j ((p : Nat) : Int))), ())) := by
  rw [L25_11_succ]
  dsimp only [Ty.den, Sh.den]
  have g4 : List.getD new j (Ty.zero .str) = new[j] := by simp [List.getD_eq_getElem?_getD, List.getElem?_eq_getElem hj]
  have g5 : List.getD old i (Ty.zero .str) = old[i] := by simp [List.getD_eq_getElem?_getD, List.getElem?_eq_getElem hi]
  have gs : ∀ r, List.getD (List.set b i r) i none = r := fun r => getD_set (by omega) _ _
  have gt : ∀ r, List.getD (List.set b i r) (i + 1) none = some rk := fun r => (getD_set' (by omega) _ _).trans gk
  have ls : ∀ r, (List.set b i r).length = old.length + 1 := fun r => by rw [List.length_set, lb]
  have d2 : decide (old[i] = new[j]) = true := decide_eq_true h2
  repeat first
    | simp (disch := omega) only [↓ite_dec, ↓ite_ndec, ↓if_pos, ite_dec', ite_ndec', ite_pos', ite_neg', w64, tn0, tn1, gi, gk, gs, gt, g1, g2, g3, g4, g5, li, lk, ls, d2, List.length_set, List.set_set, getD_set, getD_set', Option.bind_some, Ctl.elim, if_true, Bool.false_eq_true, if_false]
    | dsimp only [Ty.den, Sh.den]

theorem L25_step (N n : Nat) (old new : Ls) (b : List (Option (List Int))) (ri rk : List Int) (i j : Nat) (p q u : Nat)
    (hn : new.length ≤ 1000000) (ho : old.length ≤ 1000000) (hi : i < old.length) (hj : j < new.length) (lb : b.length = old.length + 1) (gi : List.getD b i none = some ri) (gk : List.getD b (i + 1) none = some rk)
    (li : ri.length = new.length + 1) (lk : rk.length = new.length + 1)
    (g1 : List.getD rk j (Ty.zero (.int .i64)) = (p : Int)) (g2 : List.getD rk (j + 1) (Ty.zero (.int .i64)) = (q : Int)) (g3 : List.getD ri (j + 1) (Ty.zero (.int .i64)) = (u : Int)) (hp : p ≤ new.length) (hq : q ≤ new.length) (hu : u ≤ new.length) :
    ∃ v : Nat, v = max (max p u) (if old[i] = new[j] then q + 1 else 0) ∧ L25_11 N (n + 1) ((old, new, (), (i : Int), (j : Int), ()), (b, ())) = L25_11 N n ((old, new, (), (i : Int), (j : Int) - 1, ()), (List.set b i (some (List.set ri j (v : Int))), ())) := by
  by_cases h2 : old[i] = new[j]
  · rw [if_pos h2]
    by_cases h1 : p < u
    · by_cases h3 : u < q + 1
      · exact ⟨q + 1, by omega, L25_e1 N n old new b ri rk i j p q u hn ho hi hj lb gi gk li lk g1 g2 g3 hp hq hu h2 h1 h3⟩
      · exact ⟨u, by omega, L25_e2 N n old new b ri rk i j p q u hn ho hi hj lb gi gk li lk g1 g2 g3 hp hq hu h2 h1 h3⟩
    · by_cases h3 : p < q + 1
      · exact ⟨q + 1, by omega, L25_e3 N n old new b ri rk i j p q u hn ho hi hj lb gi gk li lk g1 g2 g3 hp hq hu h2 h1 h3⟩
      · exact ⟨p, by omega, L25_e4 N n old new b ri rk i j p q u hn ho hi hj lb gi gk li lk g1 g2 g3 hp hq hu h2 h1 h3⟩
  · rw [if_neg h2]
    by_cases h1 : p < u
    · exact ⟨u, by omega, L25_n1 N n old new b ri rk i j p q u hn ho hi hj lb gi gk li lk g1 g2 g3 hp hq hu h2 h1⟩
    · exact ⟨p, by omega, L25_n2 N n old new b ri rk i j p q u hn ho hi hj lb gi gk li lk g1 g2 g3 hp hq hu h2 h1⟩

/-- The table while it is drawn: rows behind 'i' whole, row 'i' from 'm' on. -/
def mx (old new : Ls) (i m : Nat) : List (Option (List Int)) := tb (old.length + 1) fun k =>
  some (if k < i then tb (new.length + 1) fun _ => (0 : Int) else if k = i then rowP (old.drop i) new m else rowK (old.drop k) new)

theorem mx_length (old new : Ls) (i m : Nat) : (mx old new i m).length = old.length + 1 := tb_length
theorem rowP_length (x new : Ls) (m : Nat) : (rowP x new m).length = new.length + 1 := tb_length
theorem rowK_length (x new : Ls) : (rowK x new).length = new.length + 1 := tb_length

theorem mx_set (old new : Ls) (i j : Nat) (v : Int) (hi : i < old.length) (hj : j < new.length) (hv : v = ((K (old.drop i) (new.drop j) : Nat) : Int)) :
    List.set (mx old new i (j + 1)) i (some (List.set (rowP (old.drop i) new (j + 1)) j v)) = mx old new i j := by
  unfold mx
  rw [tb_set]
  refine tb_congr fun k hk => ?_
  by_cases h : k = i
  · subst h
    rw [if_pos rfl, if_neg (by omega), if_pos rfl]
    unfold rowP
    rw [tb_set]
    congr 1
    rw [List.drop_eq_getElem_cons hi] at hv ⊢
    exact rowP_step _ _ new j hj v hv
  · rw [if_neg h]
    by_cases h2 : k < i
    · rw [if_pos h2, if_pos h2]
    · rw [if_neg h2, if_neg h2, if_neg h, if_neg h]

theorem mx_zero (old new : Ls) (i : Nat) (hi : i < old.length) : mx old new (i + 1) 0 = mx old new i new.length := tb_congr fun k hk => by
  by_cases h : k < i
  · rw [if_pos (by omega), if_pos h]
  · by_cases h2 : k = i
    · subst h2
      rw [if_pos (by omega), if_neg (by omega), if_pos rfl, rowP_len]
    · by_cases h3 : k = i + 1
      · subst h3
        rw [if_neg (by omega), if_pos rfl, if_neg (by omega), if_neg (by omega), rowP_zero]
      · rw [if_neg (by omega), if_neg h3, if_neg h, if_neg h2]

theorem L25_11_ev (N : Nat) (old new : Ls) (hn : new.length ≤ 1000000) (ho : old.length ≤ 1000000) (i : Nat) (hi : i < old.length) : ∀ (m n : Nat), m ≤ new.length → m < n →
    L25_11 N n ((old, new, (), (i : Int), (m : Int) - 1, ()), (mx old new i m, ())) = some (Ctl.exit 4, (old, new, (), (i : Int), ()), mx old new i 0, ()) := by
  intro m
  induction m with
  | zero =>
    intro n hm hn
    obtain ⟨n, rfl⟩ : ∃ k, n = k + 1 := ⟨n - 1, by omega⟩
    rw [L25_11_succ, if_neg (by rw [decide_eq_true_eq]; omega)]
  | succ j ih =>
    intro n hm hn'
    obtain ⟨n, rfl⟩ : ∃ k, n = k + 1 := ⟨n - 1, by omega⟩
    have e : ((j + 1 : Nat) : Int) - 1 = (j : Int) := by omega
    have hj : j < new.length := by omega
    have k1 := K_lt (x := old.drop (i + 1)) (new := new) j
    have k2 := K_lt (x := old.drop (i + 1)) (new := new) (j + 1)
    have k3 := K_lt (x := old.drop i) (new := new) (j + 1)
    have hs := K_step old[i] (old.drop (i + 1)) new j hj
    rw [← List.drop_eq_getElem_cons hi] at hs
    rw [e]
    have gi : List.getD (mx old new i (j + 1)) i none = some (rowP (old.drop i) new (j + 1)) := by
      unfold mx; rw [tb_getD (by omega), if_neg (by omega), if_pos rfl]
    have gk : List.getD (mx old new i (j + 1)) (i + 1) none = some (rowK (old.drop (i + 1)) new) := by
      unfold mx; rw [tb_getD (by omega), if_neg (by omega), if_neg (by omega)]
    obtain ⟨v, hv, h⟩ := L25_step N n old new _ _ _ i j _ _ _ hn ho hi hj (mx_length _ _ _ _) gi gk (rowP_length _ _ _) (rowK_length _ _)
      (tb_getD (by omega) _) (tb_getD (by omega) _) (by unfold rowP; rw [tb_getD (by omega), if_pos (by omega)]) k1 k2 k3
    rw [h, mx_set old new i j v hi hj (by rw [hv, hs])]
    exact ih n (by omega) (by omega)

theorem L25_8_ev (N : Nat) (old new : Ls) (hn : new.length ≤ 1000000) (ho : old.length ≤ 1000000) (hN : new.length < N) : ∀ (m n : Nat), m ≤ old.length → m < n →
    L25_8 N n ((old, new, (), (m : Int) - 1, ()), (mx old new m 0, ())) = some (Ctl.exit 2, ((), ()), mx old new 0 0, ()) := by
  intro m
  induction m with
  | zero =>
    intro n hm hn
    obtain ⟨n, rfl⟩ : ∃ k, n = k + 1 := ⟨n - 1, by omega⟩
    rw [L25_8_succ, if_neg (by rw [decide_eq_true_eq]; omega)]
  | succ i ih =>
    intro n hm hn'
    obtain ⟨n, rfl⟩ : ∃ k, n = k + 1 := ⟨n - 1, by omega⟩
    have e : ((i + 1 : Nat) : Int) - 1 = (i : Int) := by omega
    rw [e, L25_8_succ, if_pos (by rw [decide_eq_true_eq]; omega)]
    dsimp only [Ty.den, Sh.den]
    rw [w64 (by omega) (by omega), mx_zero old new i (by omega), L25_11_ev N old new hn ho i (by omega) new.length N (by omega) hN]
    simp only [Option.bind_some, Ctl.elim, if_true]
    rw [w64 (by omega) (by omega)]
    exact ih n (by omega) (by omega)

def mz (old new : Ls) (i : Nat) : List (Option (List Int)) := tb (old.length + 1) fun k => if k < i then some (tb (new.length + 1) fun _ => (0 : Int)) else none

theorem mz_set (old new : Ls) (i : Nat) : List.set (mz old new i) i (some (tb (new.length + 1) fun _ => (0 : Int))) = mz old new (i + 1) := by
  unfold mz
  rw [tb_set]
  refine tb_congr fun k hk => ?_
  by_cases h : k = i
  · rw [if_pos h, if_pos (by omega)]
  · rw [if_neg h]
    by_cases h2 : k < i
    · rw [if_pos h2, if_pos (by omega)]
    · rw [if_neg h2, if_neg (by omega)]

theorem L25_3_ev (N : Nat) (old new : Ls) (hn : new.length ≤ 1000000) (ho : old.length ≤ 1000000) : ∀ (d i n : Nat), old.length + 1 - i = d → i ≤ old.length + 1 → d < n →
    L25_3 N n ((old, new, (), ((old.length + 1 : Nat) : Int), (i : Int), ()), (mz old new i, ())) = some (Ctl.exit 0, (old, new, (), ()), mz old new (old.length + 1), ()) := by
  intro d
  induction d with
  | zero =>
    intro i n hd hi hn
    obtain ⟨n, rfl⟩ : ∃ k, n = k + 1 := ⟨n - 1, by omega⟩
    rw [L25_3_succ, if_neg (by rw [decide_eq_true_eq]; omega)]
    have : i = old.length + 1 := by omega
    rw [this]
  | succ d ih =>
    intro i n hd hi hn'
    obtain ⟨n, rfl⟩ : ∃ k, n = k + 1 := ⟨n - 1, by omega⟩
    rw [L25_3_succ]
    dsimp only [Ty.den, Sh.den]
    have lz : (mz old new i).length = old.length + 1 := tb_length
    have gz : List.getD (mz old new i) i none = none := by unfold mz; rw [tb_getD (by omega), if_neg (by omega)]
    have hr : List.replicate (new.length + 1) (Ty.zero (.int .i64)) = tb (new.length + 1) fun _ => (0 : Int) := tb_replicate _
    have hs := mz_set old new i
    have hx := ih (i + 1) n (by omega) (by omega) (by omega)
    repeat first
      | simp (disch := omega) only [↓ite_dec, ↓if_pos, ite_dec', ite_pos', w64, tn0, tn1, lz, gz, hr, hs, Option.isSome_none, Bool.false_eq_true, if_false]
      | dsimp only [Ty.den, Sh.den]
    exact hx

theorem allRows_tb (n : Nat) (f : Nat → List Int) : allRows (tb n fun k => some (f k)) = some (tb n f) := by
  unfold tb
  generalize List.range n = l
  induction l with
  | nil => rfl
  | cons a l ih => simp only [List.map_cons, allRows, ih]; rfl

theorem e25 (old new : Ls) (hn : new.length ≤ 1000000) (ho : old.length ≤ 1000000) (N : Nat) (hN : new.length + old.length + 1 < N) : g25 N (old, new, ()) = some (tabK old new, ()) := by
  unfold g25
  have h1 := L25_3_ev N old new hn ho (old.length + 1) 0 N (by omega) (by omega) (by omega)
  have h2 := L25_8_ev N old new hn ho (by omega) old.length N (by omega) (by omega)
  have hz : List.replicate (old.length + 1) (none : Option (List Int)) = mz old new 0 := by
    rw [tb_replicate]; exact tb_congr fun k _ => by simp
  have lz : (mz old new 0).length = old.length + 1 := tb_length
  have hm : mz old new (old.length + 1) = mx old new old.length 0 := tb_congr fun k hk => by
    rw [if_pos hk]
    by_cases h : k < old.length
    · rw [if_pos h]
    · have : k = old.length := by omega
      subst this
      rw [if_neg h, if_pos rfl, List.drop_length, rowP_zero, rowK_nil]
  have ha : allRows (mx old new 0 0) = some (tabK old new) := by
    have : mx old new 0 0 = tb (old.length + 1) fun k => some (rowK (old.drop k) new) := tb_congr fun k hk => by
      by_cases h : k = 0
      · subst h; rw [if_neg (by omega), if_pos rfl, rowP_zero]
      · rw [if_neg (by omega), if_neg h]
    rw [this, allRows_tb]; rfl
  have h1' : L25_3 N N ((old, new, (), (((old.length + 1 : Nat) : Nat) : Int), (0 : Int), ()), (mz old new 0, ())) = _ := h1
  rw [hm] at h1'
  dsimp only [Ty.den, Sh.den]
  have z1 : (0 : Nat) < 1 := by omega
  repeat first
    | simp (disch := omega) only [↓if_pos, ite_pos', w64, tn1, hz, lz, h1', h2, ha, Option.bind_some, Ctl.elim, if_true, z1]
    | dsimp only [Ty.den, Sh.den]

end Go.Ev.Pl

/-
  quitclaim/quitclaimref12.Of: what it answers. (Printed by wip/tools/gen.py.)
-/
namespace Go.Ev
open Go.Proofs
abbrev S13 : Shape := ⟨[(0, .d (.slice .str)), (1, .d (.slice .str)), (5, .d (.slice (.slice (.int .i64)))), (6, .own (.agg (.cons (.int .i64) (.cons (.slice .str) (.cons (.slice .str) .unit))))), (7, .ptr 0 0), (8, .d (.int .i64)), (9, .d (.int .i64))], [.box [.d (.int .i64), .own .str, .own .str]]⟩
abbrev O13 : Shape := ⟨[(6, .own (.agg (.cons (.int .i64) (.cons (.slice .str) (.cons (.slice .str) .unit))))), (7, .ptr 0 0)], [.box [.d (.int .i64), .own .str, .own .str]]⟩
abbrev J13_75 : Shape := ⟨[(0, .d (.slice .str)), (1, .d (.slice .str)), (5, .d (.slice (.slice (.int .i64)))), (6, .own (.agg (.cons (.int .i64) (.cons (.slice .str) (.cons (.slice .str) .unit))))), (7, .ptr 0 0), (8, .d (.int .i64)), (9, .d (.int .i64))], [.box [.d (.int .i64), .own .str, .own .str]]⟩
abbrev J13_111 : Shape := ⟨[(0, .d (.slice .str)), (1, .d (.slice .str)), (5, .d (.slice (.slice (.int .i64)))), (6, .own (.agg (.cons (.int .i64) (.cons (.slice .str) (.cons (.slice .str) .unit))))), (7, .ptr 0 0), (8, .d (.int .i64)), (9, .d (.int .i64))], [.box [.d (.int .i64), .own .str, .own .str]]⟩
abbrev J13_67 : Shape := ⟨[(0, .d (.slice .str)), (1, .d (.slice .str)), (5, .d (.slice (.slice (.int .i64)))), (6, .own (.agg (.cons (.int .i64) (.cons (.slice .str) (.cons (.slice .str) .unit))))), (7, .ptr 0 0), (8, .d (.int .i64)), (9, .d (.int .i64))], [.box [.d (.int .i64), .own .str, .own .str]]⟩
abbrev J13_141 : Shape := ⟨[(6, .own (.agg (.cons (.int .i64) (.cons (.slice .str) (.cons (.slice .str) .unit)))))], [.box [.d (.int .i64), .own .str, .own .str]]⟩
abbrev A13 : Ty := (.cons (.slice .str) (.cons (.slice .str) .unit))
abbrev R13 : List RT := [.d (.slice (.agg (.cons (.int .i64) (.cons (.slice .str) (.cons (.slice .str) .unit)))))]
noncomputable def F13 (N : Nat) : Fn := { fns := [(14, .pure A14 R14 (g14 N N))], writes := [], loops := [(5, S13, O13)], conds := [(75, J13_75), (111, J13_111), (67, J13_67), (141, J13_141)], mats := [], vecs := [], fins := [] }
noncomputable def L13 (N : Nat) : Nat → S13.den → Option (Ctl × O13.den) := loopFn (tab.ctx (F13 N)) N (loopCode Try.f13 5) S13 O13
theorem L13_succ (N n : Nat) (t0 : (Ty.den (.slice .str))) (t1 : (Ty.den (.slice .str))) (t5 : (Ty.den (.slice (.slice (.int .i64))))) (t6 : List (Ty.den (.agg (.cons (.int .i64) (.cons (.slice .str) (.cons (.slice .str) .unit)))))) (t8 : Int) (t9 : Int) (b7_0 : Int) (b7_1 : (Ty.den (.slice .str))) (b7_2 : (Ty.den (.slice .str))) : L13 N (n + 1) ((t0, t1, t5, t6, (), t8, t9, ()), ((b7_0, b7_1, b7_2, ()), ())) =
 ((if decide (t8 < (↑(List.length t0) : Int)) = false then some (decide (t9 < (↑(List.length t1) : Int)))
    else some true).bind
  fun (b : Bool) =>
  if b = true then
    (if decide (t8 < (↑(List.length t0) : Int)) = true then some (decide (t9 < (↑(List.length t1) : Int)))
        else some false).bind
      fun (b : Bool) =>
      (if b = true then
            if (0 : Int) ≤ t8 ∧ t8 < (↑(List.length t0) : Int) then
              if (0 : Int) ≤ t9 ∧ t9 < (↑(List.length t1) : Int) then
                if decide (List.getD t0 t8.toNat (Ty.zero .str) = List.getD t1 t9.toNat (Ty.zero .str)) = true then
                  if (0 : Int) ≤ t8 ∧ t8 < (↑(List.length t5) : Int) then
                    if
                        (0 : Int) ≤ t9 ∧
                          t9 <
                            (↑(List.length (List.getD t5 t8.toNat (Ty.int IntKind.i64).slice.zero)) :
                              Int) then
                      if
                          (0 : Int) ≤ IntKind.i64.wrap (t8 + (1 : Int)) ∧
                            IntKind.i64.wrap (t8 + (1 : Int)) < (↑(List.length t5) : Int) then
                        if
                            (0 : Int) ≤ IntKind.i64.wrap (t9 + (1 : Int)) ∧
                              IntKind.i64.wrap (t9 + (1 : Int)) <
                                (↑(List.length
                                      (List.getD t5 (IntKind.i64.wrap (t8 + (1 : Int))).toNat
                                        (Ty.int IntKind.i64).slice.zero)) :
                                  Int) then
                          some
                            (decide
                              (List.getD (List.getD t5 t8.toNat (Ty.int IntKind.i64).slice.zero) t9.toNat
                                  (Ty.int IntKind.i64).zero =
                                IntKind.i64.wrap
                                  (List.getD
                                      (List.getD t5 (IntKind.i64.wrap (t8 + (1 : Int))).toNat
                                        (Ty.int IntKind.i64).slice.zero)
                                      (IntKind.i64.wrap (t9 + (1 : Int))).toNat (Ty.int IntKind.i64).zero +
                                    (1 : Int))))
                        else none
                      else none
                    else none
                  else none
                else some false
              else none
            else none
          else some false).bind
        fun (b_1 : Bool) =>
        (if b_1 = true then
              (if
                      decide
                          ((0 : Int) < IntKind.i64.wrap ((↑(List.length b7_1) : Int) + (↑(List.length b7_2) : Int))) =
                        true then
                    if
                        (t6.length + [(b7_0, b7_1, b7_2, ())].length) * ((56 : Nat) + (1 : Nat)) ≤
                          (2 : Nat) ^ (40 : Nat) then
                      some
                        (Ctl.normal,
                          (t0, t1, t5, t6 ++ [(b7_0, b7_1, b7_2, ())], (), t8, t9, ()),
                          (b7_0, b7_1, b7_2, ()), ())
                    else none
                  else
                    some
                      (Ctl.normal, (t0, t1, t5, t6, (), t8, t9, ()), (b7_0, b7_1, b7_2, ()),
                        ())).bind
                fun (r : Ctl × J13_75.den) =>
                r.fst.elim
                  (some
                    (Ctl.normal,
                      (r.snd.fst.fst, r.snd.fst.snd.fst, r.snd.fst.snd.snd.fst, r.snd.fst.snd.snd.snd.fst, (),
                        IntKind.i64.wrap (r.snd.fst.snd.snd.snd.snd.snd.fst + (1 : Int)),
                        IntKind.i64.wrap (r.snd.fst.snd.snd.snd.snd.snd.snd.fst + (1 : Int)), ()),
                      (IntKind.i64.wrap (r.snd.fst.snd.snd.snd.snd.snd.snd.fst + (1 : Int)), [], [], ()),
                      ()))
                  (fun (id : Nat) =>
                    some
                      (Ctl.exit id,
                        (r.snd.fst.fst, r.snd.fst.snd.fst, r.snd.fst.snd.snd.fst, r.snd.fst.snd.snd.snd.fst, (),
                          r.snd.fst.snd.snd.snd.snd.snd.fst, r.snd.fst.snd.snd.snd.snd.snd.snd.fst, ()),
                        (r.snd.snd.fst.fst, r.snd.snd.fst.snd.fst, r.snd.snd.fst.snd.snd.fst, ()), ()))
                  (fun (id : Nat) =>
                    some
                      (Ctl.goto id,
                        (r.snd.fst.fst, r.snd.fst.snd.fst, r.snd.fst.snd.snd.fst, r.snd.fst.snd.snd.snd.fst, (),
                          r.snd.fst.snd.snd.snd.snd.snd.fst, r.snd.fst.snd.snd.snd.snd.snd.snd.fst, ()),
                        (r.snd.snd.fst.fst, r.snd.snd.fst.snd.fst, r.snd.snd.fst.snd.snd.fst, ()), ()))
                  (some
                    (Ctl.ret,
                      (r.snd.fst.fst, r.snd.fst.snd.fst, r.snd.fst.snd.snd.fst, r.snd.fst.snd.snd.snd.fst, (),
                        r.snd.fst.snd.snd.snd.snd.snd.fst, r.snd.fst.snd.snd.snd.snd.snd.snd.fst, ()),
                      (r.snd.snd.fst.fst, r.snd.snd.fst.snd.fst, r.snd.snd.fst.snd.snd.fst, ()), ()))
            else
              (if decide (t9 = (↑(List.length t1) : Int)) = false then
                    if b = true then
                      if
                          (0 : Int) ≤ IntKind.i64.wrap (t8 + (1 : Int)) ∧
                            IntKind.i64.wrap (t8 + (1 : Int)) < (↑(List.length t5) : Int) then
                        if
                            (0 : Int) ≤ t9 ∧
                              t9 <
                                (↑(List.length
                                      (List.getD t5 (IntKind.i64.wrap (t8 + (1 : Int))).toNat
                                        (Ty.int IntKind.i64).slice.zero)) :
                                  Int) then
                          if
                              (0 : Int) ≤ t8 ∧
                                t8 < (↑(List.length t5) : Int) then
                            if
                                (0 : Int) ≤ IntKind.i64.wrap (t9 + (1 : Int)) ∧
                                  IntKind.i64.wrap (t9 + (1 : Int)) <
                                    (↑(List.length (List.getD t5 t8.toNat (Ty.int IntKind.i64).slice.zero)) :
                                      Int) then
                              some
                                (decide
                                  (List.getD (List.getD t5 t8.toNat (Ty.int IntKind.i64).slice.zero)
                                      (IntKind.i64.wrap (t9 + (1 : Int))).toNat (Ty.int IntKind.i64).zero ≤
                                    List.getD
                                      (List.getD t5 (IntKind.i64.wrap (t8 + (1 : Int))).toNat
                                        (Ty.int IntKind.i64).slice.zero)
                                      t9.toNat (Ty.int IntKind.i64).zero))
                            else none
                          else none
                        else none
                      else none
                    else some false
                  else some true).bind
                fun (b : Bool) =>
                (if b = true then
                      if (0 : Int) ≤ t8 ∧ t8 < (↑(List.length t0) : Int) then
                        if
                            (List.length b7_1 + [List.getD t0 t8.toNat (Ty.zero .str)].length) * ((16 : Nat) + (1 : Nat)) ≤
                              (2 : Nat) ^ (40 : Nat) then
                          some
                            (Ctl.normal,
                              (t0, t1, t5, t6, (), IntKind.i64.wrap (t8 + (1 : Int)), t9, ()),
                              (b7_0, b7_1 ++ [List.getD t0 t8.toNat (Ty.zero .str)], b7_2, ()), ())
                        else none
                      else none
                    else
                      if (0 : Int) ≤ t9 ∧ t9 < (↑(List.length t1) : Int) then
                        if
                            (List.length b7_2 + [List.getD t1 t9.toNat (Ty.zero .str)].length) * ((16 : Nat) + (1 : Nat)) ≤
                              (2 : Nat) ^ (40 : Nat) then
                          some
                            (Ctl.normal,
                              (t0, t1, t5, t6, (), t8, IntKind.i64.wrap (t9 + (1 : Int)), ()),
                              (b7_0, b7_1, b7_2 ++ [List.getD t1 t9.toNat (Ty.zero .str)], ()), ())
                        else none
                      else none).bind
                  fun (r : Ctl × J13_111.den) =>
                  some
                    (r.fst,
                      (r.snd.fst.fst, r.snd.fst.snd.fst, r.snd.fst.snd.snd.fst, r.snd.fst.snd.snd.snd.fst, (),
                        r.snd.fst.snd.snd.snd.snd.snd.fst, r.snd.fst.snd.snd.snd.snd.snd.snd.fst, ()),
                      (r.snd.snd.fst.fst, r.snd.snd.fst.snd.fst, r.snd.snd.fst.snd.snd.fst, ()),
                      ())).bind
          fun (r : Ctl × J13_67.den) =>
          r.fst.elim
            (L13 N n
              ((r.snd.fst.fst, r.snd.fst.snd.fst, r.snd.fst.snd.snd.fst, r.snd.fst.snd.snd.snd.fst, (),
                  r.snd.fst.snd.snd.snd.snd.snd.fst, r.snd.fst.snd.snd.snd.snd.snd.snd.fst, ()),
                (r.snd.snd.fst.fst, r.snd.snd.fst.snd.fst, r.snd.snd.fst.snd.snd.fst, ()), ()))
            (fun (id : Nat) =>
              if id = (1 : Nat) then
                L13 N n
                  ((r.snd.fst.fst, r.snd.fst.snd.fst, r.snd.fst.snd.snd.fst, r.snd.fst.snd.snd.snd.fst, (),
                      r.snd.fst.snd.snd.snd.snd.snd.fst, r.snd.fst.snd.snd.snd.snd.snd.snd.fst, ()),
                    (r.snd.snd.fst.fst, r.snd.snd.fst.snd.fst, r.snd.snd.fst.snd.snd.fst, ()), ())
              else
                some
                  (Ctl.exit id, (r.snd.fst.snd.snd.snd.fst, (), ()),
                    (r.snd.snd.fst.fst, r.snd.snd.fst.snd.fst, r.snd.snd.fst.snd.snd.fst, ()), ()))
            (fun (id : Nat) =>
              some
                (Ctl.goto id, (r.snd.fst.snd.snd.snd.fst, (), ()),
                  (r.snd.snd.fst.fst, r.snd.snd.fst.snd.fst, r.snd.snd.fst.snd.snd.fst, ()), ()))
            (some
              (Ctl.ret, (r.snd.fst.snd.snd.snd.fst, (), ()),
                (r.snd.snd.fst.fst, r.snd.snd.fst.snd.fst, r.snd.snd.fst.snd.snd.fst, ()), ()))
  else some (Ctl.exit (0 : Nat), (t6, (), ()), (b7_0, b7_1, b7_2, ()), ())) := by kernel_rfl
noncomputable def g13 (N : Nat) (x : A13.den) : Option (RTs.den R13) :=
 (g14 N N (x.1, x.2.1, ())).bind fun (r : RTs.den R14) =>
  (L13 N N
        ((x.1, x.2.1, r.fst, [], (), (0 : Int), (0 : Int), ()), ((0 : Int), [], [], ()),
          ())).bind
    fun (r : Ctl × O13.den) =>
    r.fst.elim none
      (fun (id : Nat) =>
        if id = (0 : Nat) then
          (if
                  decide
                      ((0 : Int) <
                        IntKind.i64.wrap
                          ((↑(List.length r.snd.snd.fst.snd.fst) : Int) +
                            (↑(List.length r.snd.snd.fst.snd.snd.fst) : Int))) =
                    true then
                if
                    (List.length r.snd.fst.fst +
                          [(r.snd.snd.fst.fst, r.snd.snd.fst.snd.fst, r.snd.snd.fst.snd.snd.fst, ())].length) *
                        ((56 : Nat) + (1 : Nat)) ≤
                      (2 : Nat) ^ (40 : Nat) then
                  some
                    (Ctl.normal,
                      (r.snd.fst.fst ++
                          [(r.snd.snd.fst.fst, r.snd.snd.fst.snd.fst, r.snd.snd.fst.snd.snd.fst, ())],
                        ()),
                      (r.snd.snd.fst.fst, r.snd.snd.fst.snd.fst, r.snd.snd.fst.snd.snd.fst, ()), ())
                else none
              else
                some
                  (Ctl.normal, (r.snd.fst.fst, ()),
                    (r.snd.snd.fst.fst, r.snd.snd.fst.snd.fst, r.snd.snd.fst.snd.snd.fst, ()), ())).bind
            fun (r : Ctl × J13_141.den) =>
            r.fst.elim (some (r.snd.fst.fst, ())) (fun (id : Nat) => none) (fun (id : Nat) => none) none
        else none)
      (fun (id : Nat) => none) none
theorem run13 (N : Nat) (x : A13.den) : run (tab.ctx (F13 N)) N Try.f13 A13 R13 x = g13 N x := by kernel_rfl
theorem ok13 (N : Nat) : okFn (tab.ctx (F13 N)) Try.f13 A13 = true := by kernel_rfl
theorem fns13 (N : Nat) : FnOK Try.prog (tab.ctx (F13 N)) := (fnOK_cons (pure14 N N) fnOK_nil)
theorem pure13 (N : Nat) : PureOK Try.prog 13 A13 R13 (g13 N) := pureOK (tab.ctxOK tab_ok _) (fns13 N) Try.func13 (ok13 N) (run13 N)
end Go.Ev

/-
  A SLICE THAT GROWS, ITS LAST ELEMENT OPEN: one element more.
-/
namespace Go.Ev
open Go.RowKit (Below)

section
variable {P : Program} {w0 : World} {com0 : Com} {f : Frm} {nt : Nat} {G : Gh} {st : St} {a : Act} {w : World}

def Gh.more (G : Gh) (r g n m : Nat) : Gh := { G with com := fun b o => G.com b o ∨ (b = g ∧ o < m), wr := upd G.wr g (.blk r), row := upd G.row r (upd (G.row r) n (some g)) }

/-- What is left to show of the memory that an append leaves. -/
theorem Inv.more (hI : Inv w0 com0 f nt G st a w) {r g n m : Nat} {b b' : Blk} (hr : st.bl[r]? = some b) {w1 : World} {cur : Array Value} (hwr : G.wr (G.loc r) = .blk r) (hno : ∀ o, ¬ G.com (G.loc r) o)
    (hg : G.wr g = .blk r ∨ w.heap.size ≤ g) (hgl : g < w1.heap.size) (hglo : w0.heap.size ≤ g) (hrow : G.row r n = none) (hbel : Below w0.heap.size w w1) (hsame : ∀ k, k < w.heap.size → k ≠ g → w1.heap[k]? = w.heap[k]?) (hgne : g ≠ G.loc r)
    (hcell : ∀ o, G.com g o → w1.cell? ⟨g, o, none⟩ = w.cell? ⟨g, o, none⟩)
    (hb' : Ext (fun t => t ≠ .blk r) G w (G.more r g n m) (w1.setRow (G.loc r) cur) → BlkOK (G.more r g n m) (w1.setRow (G.loc r) cur) r b') :
    Inv w0 com0 f nt (G.more r g n m) { fr := fun j => Ev.clrB r (st.fr j), bl := st.bl.set r b' } a (w1.setRow (G.loc r) cur) := by
  have hlt := hI.lt hr
  have hw0 := hI.wrhi (G.loc r) (by rw [hwr]; simp)
  have hother : ∀ k, k < w.heap.size → k ≠ g → k ≠ G.loc r → (w1.setRow (G.loc r) cur).heap[k]? = w.heap[k]? := fun k h1 h2 h3 => (setRow_other w1 _ k cur h3).trans (hsame k h1 h2)
  have hgn : ∀ g', G.wr g' ≠ .blk r → G.wr g' ≠ .none → g' ≠ g := fun g' h1 h2 e => by
    subst e
    rcases hg with h | h
    · exact h1 h
    · exact absurd (hI.wrhi g' h2).2 (by omega)
  have hx : Ext (fun t => t ≠ .blk r) G w (G.more r g n m) (w1.setRow (G.loc r) cur) := by
    refine ⟨fun _ _ h => .inl h, fun b o h => ?_, Nat.le_refl _, fun _ _ => ⟨rfl, rfl, rfl⟩, fun r' _ => ⟨rfl, fun i g' h => ?_, fun t i => ?_⟩, fun g' hg' hn => ?_⟩
    · have hbl : b ≠ G.loc r := fun e => by subst e; exact hno o h
      by_cases e : b = g
      · subst e
        rw [← hcell o h]
        exact World.cell?_of_block (w := w1) (setRow_other w1 _ b cur hbl)
      · exact World.cell?_of_block (w := w) (hother b (hI.comlt b o h) e hbl)
    · by_cases e : r' = r
      · subst e
        have : i ≠ n := fun e => by subst e; rw [hrow] at h; cases h
        simp [Gh.more, upd, this, h]
      · simp [Gh.more, upd, e, h]
    · have : r' ≠ r := fun e => t (by rw [e])
      simp [Gh.more, upd, this]
    · have h1 := hgn g' hg' hn
      have h2 : g' ≠ G.loc r := fun e => by subst e; exact hg' hwr
      exact ⟨by simp [Gh.more, upd, h1], hother g' (hI.wrhi g' hn).2 h1 h2, fun o h => h.resolve_right (fun h => h1 h.1)⟩
  have hb' := hb' hx
  have hi := hI.clrB r
  refine ⟨hi.below.trans (hbel.trans ⟨rfl, rfl, rfl, by rw [setRow_size]; exact Nat.le_refl _, fun k hk => setRow_other w1 _ k _ (by omega)⟩), f.st (hx.less fun t ht => by obtain ⟨_, _, _, rfl⟩ := ht; simp) hi.foreign, hi.defers, hi.size, by simpa [Gh.more] using hI.nb, fun g' hg' => ?_,
    fun b o hbo => ⟨fun h => ?_, fun h => .inl ((hI.comlo b o hbo).2 h)⟩, fun b o h => ?_, fun k => (hi.slots k).ext hx (fun _ => by simp), fun k p hp => ?_, fun r' b'' hr' => ?_⟩
  · rw [setRow_size]
    by_cases e : g' = g
    · subst e; exact ⟨hglo, hgl⟩
    · simp only [Gh.more, upd, e, if_false] at hg'
      have := hI.wrhi g' hg'
      exact ⟨this.1, Nat.lt_of_lt_of_le this.2 hbel.size⟩
  · rcases h with h | ⟨rfl, _⟩
    · exact (hI.comlo b o hbo).1 h
    · omega
  · rw [setRow_size]
    rcases h with h | ⟨rfl, _⟩
    · exact Nat.lt_of_lt_of_le (hI.comlt b o h) hbel.size
    · exact hgl
  · have h1 := hi.alias k p hp
    cases p with
    | slot j => exact h1
    | leaf r' off =>
      have hne : r' ≠ r := by
        intro e
        subst e
        simp only [Ev.clrB] at hp
        split at hp
        · rename_i h2
          split at hp
          · cases hp
          · rename_i h3; rw [hp] at h2; injection h2 with h2; injection h2 with h2 _; exact h3 h2.symm
        · rename_i h2; exact h2 _ _ hp
      simp only [AliasOK] at h1 ⊢
      refine ⟨by simpa using h1.1, fun b hr' => ?_⟩
      simp only [List.getElem?_set_ne (Ne.symm hne)] at hr'
      exact (h1.2 b hr').ext hx (hI.lt hr') (by simpa using hne) (hI.blocks r' b hr')
  · by_cases e : r' = r
    · subst e
      rw [List.getElem?_set_self (by rw [← hI.nb]; exact hlt)] at hr'
      cases hr'
      exact hb'
    · rw [List.getElem?_set_ne (Ne.symm e)] at hr'
      exact (hI.blocks r' b'' hr').ext hx (hI.lt hr') (by simpa using e) (fun _ _ => by simp)

/-- One element more. -/
theorem vec_grow (hI : Inv w0 com0 f nt G st a w) {e : Ty} {t tx ty : TypeId} (hok : okTy P (.slice e) t = true) {u : TypeId} {i : TypeInfo} (hu : P.underlying t = some (.slice u)) (hi : P.info? u = some i)
    {ux : TypeId} (hux : P.underlying tx = some (.slice ux)) {r : Nat} {xs : List e.den} {has : Bool} {ls ls' : List AV} (hb : st.bl[r]? = some (.vec e xs has ls)) {v : Value} {t0 : TypeId} (hv : w.heap[G.loc r]? = some (.cells #[v] t0 (0, 0))) {y : e.den}
    (hy : fromLeaves e ls = some (y, [])) {vy : Value} {ce : List Value} (hce : ce.length = e.width) (hsrc : Src P e.width tx vy 1 ce w) (hlay : ∀ G' w', Lay G' w' r 0 ls' ce) (hbd : (xs.length + 2) * (i.bytes + 1) ≤ appendMost) :
    ∃ G' w1 g' cap', (Builtin.append_ #[t, tx] ty #[v, vy]).run P w = .ok (.slice (some ⟨g', 0, none⟩) ((if has = true then xs ++ [y] else xs).length + 1) cap') w1 ∧ w1.heap[G.loc r]? = some (.cells #[v] t0 (0, 0)) ∧
      Inv w0 com0 f nt G' { fr := fun j => Ev.clrB r (st.fr j), bl := st.bl.set r (.vec e (if has = true then xs ++ [y] else xs) true ls') } a (w1.setRow (G.loc r) #[.slice (some ⟨g', 0, none⟩) ((if has = true then xs ++ [y] else xs).length + 1) cap']) ∧
      G'.row r (if has = true then xs ++ [y] else xs).length = some g' ∧ G'.rwd r = e.width ∧ G'.loc = G.loc ∧ G'.nb = G.nb := by
  obtain ⟨u', hu', he, hw⟩ := okTy_slice hok
  have : u' = u := by rw [hu] at hu'; injection hu' with h; injection h with h; exact h.symm
  subst this
  obtain ⟨i', z, hi', hsz, hz, hagz, hzc⟩ := okTy_info he
  have : i' = i := by rw [hi] at hi'; injection hi' with h; exact h.symm
  subst this
  have hzl : z.cells.size = e.width := by
    have h1 : z.cells.toList.length = z.cells.size := Array.length_toList
    have h2 := zc_len hzc
    rw [h1] at h2
    simpa using h2
  obtain ⟨v1, t1, b1, b2, b3, b4, b5, b6⟩ := hI.blocks r _ hb
  have : v1 = v := by rw [hv] at b1; injection b1 with b1; injection b1 with b1; injection b1 with b1; injection b1 with b1; exact b1.symm
  subst this
  have : t1 = t0 := by rw [hv] at b1; injection b1 with b1; injection b1 with _ b1; exact b1.symm
  subst this
  -- what the old cells are
  have old : ∃ zs : List e.den, zs = (if has = true then xs ++ [y] else xs) ∧ ∃ ds rest, Parts (Cells G.com w e) ds zs ∧ zs.length ≤ xs.length + 1 ∧ G.row r zs.length = none ∧ (∀ k, zs.length < k → G.row r k = none) ∧
      ((v1 = .slice none 0 0 ∧ zs = []) ∨ ∃ g cap cur tg, v1 = .slice (some ⟨g, 0, none⟩) zs.length cap ∧ g ≠ G.loc r ∧ w.heap[g]? = some (.cells cur tg (0, 0)) ∧ G.wr g = .blk r ∧ zs.length ≤ cap ∧ cap ≤ maxLen ∧ cur.size = cap * e.width ∧ cur.toList = ds ++ rest ∧ ∀ o, G.com g o → o < ds.length) := by
    refine ⟨_, rfl, ?_⟩
    rcases b6 with ⟨rfl, rfl, rfl, q4⟩ | ⟨rfl, g, cap, cur, tg, ds, c, rest, q2, q3, q4, q5, q6, q7, q8, q9, q10, q11, q12, q13, q14, q15⟩
    · exact ⟨[], [], .nil, by simp, q4 _, fun k _ => q4 k, .inl ⟨rfl, rfl⟩⟩
    · obtain ⟨c1, c2, k1, k2, k3⟩ := fromLeaves_sound hy q13.ll
      simp only [LL] at k3
      subst k3
      rw [List.append_nil] at k1
      subst k1
      simp only [if_true]
      refine ⟨ds ++ c, rest, q11.append (by simpa using Parts.cons k2 .nil), by simp, q15 _ (by simp), fun k hk => q15 k (by simp at hk; omega), .inr ⟨g, cap, cur, tg, by rw [q2]; simp, q4, q5, q6, by simpa using q7, q8, q9, q10, fun o ho => ?_⟩⟩
      have := (q14 o).1 ho
      simp; omega
  obtain ⟨zs, hzs, ds, rest, hp, hzl1, hrow, hrow', hcase⟩ := old
  rw [← hzs]
  have hdl := hp.len (fun _ _ hx => hx.len)
  have hlo := (hI.wrhi (G.loc r) (by rw [b2]; simp))
  have hmost : (zs.length + 1) * i'.bytes ≤ 140737488355328 := by
    have : (zs.length + 1) * i'.bytes ≤ (xs.length + 2) * i'.bytes := Nat.mul_le_mul_right _ (by omega)
    rw [Nat.mul_add] at hbd; simp only [appendMost] at hbd; omega
  have hlen : zs.length + 1 ≤ maxLen := by
    rw [Nat.mul_add] at hbd; simp only [appendMost] at hbd; simp only [maxLen]; omega
  have hlen63 : ((zs.length + 1 : Nat) : Int) ≤ 9223372036854775807 := by simp only [maxLen] at hlen; omega
  -- the arm that grows
  have grow : ∀ (base : Option Addr) (cap : Nat), v1 = .slice base zs.length cap → cap < zs.length + 1 → (Builtin.firstCells i'.size zs.length (.slice base zs.length cap)).run P w.drew = .ok ds.toArray w.drew →
      ∃ G' w1 g' cap', (Builtin.append_ #[t, tx] ty #[v1, vy]).run P w = .ok (.slice (some ⟨g', 0, none⟩) (zs.length + 1) cap') w1 ∧ w1.heap[G.loc r]? = some (.cells #[v1] t1 (0, 0)) ∧
      Inv w0 com0 f nt G' { fr := fun j => Ev.clrB r (st.fr j), bl := st.bl.set r (.vec e zs true ls') } a (w1.setRow (G.loc r) #[.slice (some ⟨g', 0, none⟩) (zs.length + 1) cap']) ∧
      G'.row r zs.length = some g' ∧ G'.rwd r = e.width ∧ G'.loc = G.loc ∧ G'.nb = G.nb := by
    intro base cap hvb hcap hfc
    have hr := run_append_grow_src (P := P) w t tx ty u' i' z hu hi hz base zs.length cap ds hfc vy 1 ce (by rw [hsz]; exact hsrc) hcap hlen63 (growslice_fits hcap hmost)
    have hge := grownCap_ge w (zs.length + 1) cap u'
    have hcm := grownCap_le_maxLen w (zs.length + 1) cap u' hlen
    subst hvb
    refine ⟨G.more r w.heap.size zs.length ds.length, _, _, _, hr, ?_, ?_⟩
    · have : w.drew.heap[G.loc r]? = some (.cells #[.slice base zs.length cap] t1 (0, 0)) := hv
      rw [← this]
      exact Below.heap_alloc w.drew _ _ hlo.2
    · have hgl : w.heap.size ≠ G.loc r := Nat.ne_of_gt hlo.2
      have key := hI.more (g := w.heap.size) (n := zs.length) (m := ds.length) (b' := .vec e zs true ls') hb (w1 := w.drew.alloc (.cells ((ds ++ ce).toArray ++ Builtin.zeroCells z.cells (grownCap w (zs.length + 1) cap u' - (zs.length + 1))) u')) (cur := #[.slice (some ⟨w.heap.size, 0, none⟩) (zs.length + 1) (grownCap w (zs.length + 1) cap u')]) b2 b3 (.inr (Nat.le_refl _))
        (by rw [World.size_alloc]; exact Nat.lt_succ_self _) (Nat.le_trans hI.below.size (Nat.le_refl _)) hrow ((Below.refl _ _).drew.alloc hI.below.size _) (fun k hk _ => Below.heap_alloc w.drew _ k hk) hgl
        (fun o ho => absurd (hI.comlt _ _ ho) (Nat.lt_irrefl _)) (fun hx => ?_)
      · exact ⟨key, by simp [Gh.more, upd], b5.symm, rfl, rfl⟩
      · refine ⟨_, t1, setRow_heap _ _ #[_] _ t1 (0, 0) ((Below.heap_alloc w.drew _ _ hlo.2).trans hv), ?_, ?_, hw, b5, .inr ⟨rfl, w.heap.size, grownCap w (zs.length + 1) cap u', (ds ++ ce).toArray ++ Builtin.zeroCells z.cells (grownCap w (zs.length + 1) cap u' - (zs.length + 1)), u', ds, ce, (Builtin.zeroCells z.cells (grownCap w (zs.length + 1) cap u' - (zs.length + 1))).toList, rfl, by simp [Gh.more, upd], hgl, ?_, by simp [Gh.more, upd], hge, hcm, ?_, ?_, hp.mono (fun _ _ h => h.mono hx.com hx.cell), hce, hlay _ _, fun o => ⟨fun h => ?_, fun h => .inr ⟨rfl, h⟩⟩, fun k hk => ?_⟩⟩
        · simp only [Gh.more, upd]
          rw [if_neg (Ne.symm hgl)]
          exact b2
        · intro o ho
          rcases ho with ho | ⟨ho, _⟩
          · exact b3 o ho
          · exact hgl ho.symm
        · exact (setRow_other _ _ _ _ hgl).trans (heap_alloc_new w.drew _)
        · rw [Array.size_append, size_zeroCells, hzl, List.size_toArray, List.length_append, hdl, hce, ← Nat.succ_mul, ← Nat.add_mul]; congr 1; omega
        · rw [Array.toList_append]
        · rcases h with h | h
          · exact absurd (hI.comlt _ _ h) (Nat.lt_irrefl _)
          · exact h.2
        · simp only [Gh.more, upd, if_true]
          rw [if_neg (by omega)]
          exact hrow' k hk
  rcases hcase with ⟨rfl, hz0⟩ | ⟨g, cap, cur, tg, rfl, h2, h3, h4, h5, h6, h7, h8, h9⟩
  · subst hz0
    have hd0 : ds = [] := List.eq_nil_of_length_eq_zero (by simpa using hdl)
    refine grow none 0 rfl (by simp) ?_
    rw [hd0]
    exact run_firstCells_none _ _ _ _ _
  · by_cases hroom : zs.length + 1 ≤ cap
    · have hcap : zs.length * e.width + ce.length ≤ cur.size := by rw [hce, h7, ← Nat.succ_mul]; exact Nat.mul_le_mul_right _ hroom
      have hst := run_storeCells_at P g (zs.length * e.width) tg ce 0 cur w h3 (by simpa using hcap) hsrc.one
      simp only [Nat.add_zero] at hst
      have hrun : (Builtin.append_ #[t, tx] ty #[.slice (some ⟨g, 0, none⟩) zs.length cap, vy]).run P w = .ok (.slice (some ⟨g, 0, none⟩) (zs.length + 1) cap)
          (w.setRow g (cur.toList.take (zs.length * e.width) ++ ce ++ cur.toList.drop (zs.length * e.width + ce.length)).toArray) := by
        rcases hsrc.kind with ⟨e', hk⟩ | hk
        · simp [Builtin.append_, run_underlying hu, run_underlying hk, sizeOf, typeInfo, hi, hsrc.len, hroom, hsz, hsrc.cells, Addr.add_lit, hst]
        · rw [hux] at hk; cases hk
      have htk : cur.toList.take (zs.length * e.width) = ds := by rw [← hdl, h8, List.take_left' rfl]
      rw [htk] at hrun
      have hglo := hI.wrhi g (by rw [h4]; simp)
      refine ⟨G.more r g zs.length ds.length, _, _, _, hrun, (setRow_other w g _ _ (Ne.symm h2)).trans hv, ?_⟩
      have hcellg : ∀ o, G.com g o → (w.setRow g (ds ++ ce ++ cur.toList.drop (zs.length * e.width + ce.length)).toArray).cell? ⟨g, o, none⟩ = w.cell? ⟨g, o, none⟩ := fun o ho => by
        have ho' := h9 o ho
        rw [cell_of_row _ _ _ _ tg (0, 0) (setRow_heap w g cur _ tg (0, 0) h3), cell_of_row w _ _ cur tg (0, 0) h3]
        have k1 : (ds ++ ce ++ cur.toList.drop (zs.length * e.width + ce.length))[o]? = ds[o]? := by rw [List.append_assoc, List.getElem?_append_left ho']
        have k2 : cur.toList[o]? = ds[o]? := by rw [h8, List.getElem?_append_left ho']
        rw [List.getElem?_toArray, k1, ← k2]
        simp
      have key := hI.more (g := g) (n := zs.length) (m := ds.length) (b' := .vec e zs true ls') hb (w1 := w.setRow g (ds ++ ce ++ cur.toList.drop (zs.length * e.width + ce.length)).toArray) (cur := #[.slice (some ⟨g, 0, none⟩) (zs.length + 1) cap]) b2 b3 (.inl h4)
        (by rw [setRow_size]; exact hglo.2) hglo.1 hrow ⟨rfl, rfl, rfl, by rw [setRow_size]; exact Nat.le_refl _, fun k hk => setRow_other w _ k _ (by omega)⟩ (fun k _ hk => setRow_other w g k _ hk) h2 hcellg (fun hx => ?_)
      · exact ⟨key, by simp [Gh.more, upd], b5.symm, rfl, rfl⟩
      · refine ⟨_, t1, setRow_heap _ _ #[_] _ t1 (0, 0) ((setRow_other w g _ _ (Ne.symm h2)).trans hv), ?_, ?_, hw, b5, .inr ⟨rfl, g, cap, (ds ++ ce ++ cur.toList.drop (zs.length * e.width + ce.length)).toArray, tg, ds, ce, cur.toList.drop (zs.length * e.width + ce.length), rfl, by simp [Gh.more, upd], h2, (setRow_other _ _ _ _ h2).trans (setRow_heap w g cur _ tg (0, 0) h3), by simp [Gh.more, upd], hroom, h6, ?_, rfl, hp.mono (fun _ _ h => h.mono hx.com hx.cell), hce, hlay _ _, fun o => ⟨fun h => ?_, fun h => .inr ⟨rfl, h⟩⟩, fun k hk => ?_⟩⟩
        · simp only [Gh.more, upd]
          rw [if_neg (Ne.symm h2)]
          exact b2
        · intro o ho
          rcases ho with ho | ⟨ho, _⟩
          · exact b3 o ho
          · exact h2 ho.symm
        · rw [← h7]
          simp only [List.size_toArray, List.length_append, List.length_drop, Array.length_toList, hdl]
          omega
        · rcases h with h | h
          · exact h9 o h
          · exact h.2
        · simp only [Gh.more, upd, if_true]
          rw [if_neg (by omega)]
          exact hrow' k hk
    · refine grow (some ⟨g, 0, none⟩) cap rfl (by omega) ?_
      refine run_firstCells_some _ _ _ _ _ _ _ (by rw [hdl, hsz]) (fun j u hj => ?_)
      rw [addr_add rfl, Nat.zero_add, World.cell?_drew, cell_of_row w g j cur tg (0, 0) h3]
      have hlt := getElem?_lt hj
      have : cur.toList[j]? = some u := by rw [h8, List.getElem?_append_left hlt]; exact hj
      simpa using this

end
end Go.Ev

/-
  diff.Of's grow: by hand.
-/
namespace Go.Ev
open Go.Proofs Go.RowKit

theorem setCell_row {w : World} {g : Nat} {v : Value} {t : TypeId} (h : w.heap[g]? = some (.cells #[v] t (0, 0))) (u : Value) : w.setCell ⟨g, 0, none⟩ u = w.setRow g #[u] := by
  unfold World.setCell World.setRow
  congr 1
  apply Array.ext_getElem?
  intro i
  simp only [Array.getElem?_modify]
  split
  · rename_i e
    subst e
    simp [h]
  · rfl

theorem frozen_row {w : World} {g : Nat} {c : Array Value} {t : TypeId} (h : w.heap[g]? = some (.cells c t (0, 0))) : w.frozen? ⟨g, 0, none⟩ = false := by
  simp [World.frozen?, h]

theorem wp_append_op {P : Program} {d : Option Tmp} {ty : TypeId} {pos : String} {after : Array Edge} {guard : Option (Nat × Bool)} {args : Array Operand} {ats : Array TypeId} {a : Act} {w w' : World} {K : Act → World → Prop} {Q : Exit → Act → World → Prop} {x y v : Value}
    (hargs : args.map a.eval = #[x, y]) (h : (Builtin.append_ ats ty #[x, y]).run P w = .ok v w') (hk : K (a.put d v) w') : Oper.wp P { dst := d, op := .call { callee := .builtin .append, args := args, argTypes := ats }, type := ty, pos := pos, after := after, guard := guard } a w K Q := by
  unfold Oper.wp
  rw [show (execOp a.eval { dst := d, op := .call { callee := .builtin .append, args := args, argTypes := ats }, type := ty, pos := pos, after := after, guard := guard }).run P w = .ok (.value v) w' by simp [execOp, resolve, hargs, invoke, builtin, h], Oper.upon_value]
  exact hk

set_option maxHeartbeats 1000000 in
set_option maxRecDepth 100000 in
theorem grow_open {w : World} {g0 g1 g2 g n cap : Nat} (hn : n < 140737488355328) (h1 : w.cell? ⟨g1, 0, none⟩ = some (.bool true)) (h0 : w.cell? ⟨g0, 0, none⟩ = some (.slice (some ⟨g, 0, none⟩) (n + 1) cap)) :
    Calls Try.prog 26 #[.pointer (some ⟨g1, 0, none⟩), .pointer (some ⟨g0, 0, none⟩), .pointer (some ⟨g2, 0, none⟩)] w fun e w' => e = .returned (.pointer (some ⟨g, n * 3, none⟩)) ∧ w' = w := by
  have hw : wrap64 (n : Int) = n := by unfold wrap64; omega
  go_enter Try.func26, Try.ntmps26
  go_wp2
  go_ret
  simp

set_option maxHeartbeats 1000000 in
set_option maxRecDepth 100000 in
theorem grow_new {w w2 : World} {g0 g1 g2 g n cap : Nat} {j : Int} {v : Value} (hn : n < 140737488355328) (c1 : w.cell? ⟨g1, 0, none⟩ = some (.bool false)) (c0 : w.cell? ⟨g0, 0, none⟩ = some v) (h2 : w.cell? ⟨g2, 0, none⟩ = some (.int .i64 j))
    (hap : (Builtin.append_ #[25, 25] 25 #[v, .slice (some ⟨w.heap.size, 0, none⟩) 1 1]).run Try.prog (w.alloc (.cells #[.int .i64 j, .slice none 0 0, .slice none 0 0] 38)) = .ok (.slice (some ⟨g, 0, none⟩) (n + 1) cap) w2)
    (f0 : w2.frozen? ⟨g0, 0, none⟩ = false) (f1 : w2.frozen? ⟨g1, 0, none⟩ = false) (k0 : w2.cell? ⟨g0, 0, none⟩ = some v) (k1 : (w2.setCell ⟨g0, 0, none⟩ (.slice (some ⟨g, 0, none⟩) (n + 1) cap)).cell? ⟨g1, 0, none⟩ = some (.bool false))
    (c4 : ((w2.setCell ⟨g0, 0, none⟩ (.slice (some ⟨g, 0, none⟩) (n + 1) cap)).setCell ⟨g1, 0, none⟩ (.bool true)).cell? ⟨g0, 0, none⟩ = some (.slice (some ⟨g, 0, none⟩) (n + 1) cap)) :
    Calls Try.prog 26 #[.pointer (some ⟨g1, 0, none⟩), .pointer (some ⟨g0, 0, none⟩), .pointer (some ⟨g2, 0, none⟩)] w fun e w' => e = .returned (.pointer (some ⟨g, n * 3, none⟩)) ∧ w' = (w2.setCell ⟨g0, 0, none⟩ (.slice (some ⟨g, 0, none⟩) (n + 1) cap)).setCell ⟨g1, 0, none⟩ (.bool true) := by
  have hw : wrap64 (n : Int) = n := by unfold wrap64; omega
  go_enter Try.func26, Try.ntmps26
  iterate 37 go_step
  refine wp_append_op (x := v) (y := .slice (some ⟨w.heap.size, 0, none⟩) 1 1) (by simp [Act.eval]) hap ?_
  clear hap
  go_wp2
  go_ret
  simp

abbrev H26 : Ty := .agg (.cons (.int .i64) (.cons (.slice .str) (.cons (.slice .str) .unit)))
abbrev B26 : List BSh := [.vec H26 [.d (.int .i64), .own .str, .own .str], .box [.d .bool], .box [.d (.int .i64)]]
abbrev S26 : ISh := ⟨[.ptr 1 0, .ptr 0 0, .ptr 2 0], B26⟩
abbrev O26 : ISh := ⟨[.uptr 0 0], B26⟩

/-- grow, on data. -/
def g26 (x : S26.den) : Option O26.den :=
  match x.2 with
  | ((xs, has, (at_, old, new, ())), (b, ()), (j, ()), ()) =>
    let zs : List (Ty.den H26) := if has = true then xs ++ [(at_, old, new, ())] else xs
    if b = true then (if has = true ∧ xs.length < 1000000 then some ((((xs.length : Nat) : Int), ()), x.2) else none)
    else if (xs.length + 2) * (56 + 1) ≤ appendMost then some ((((zs.length : Nat) : Int), ()), ((zs, true, (j, [], [], ())), (true, ()), (j, ()), ())) else none

theorem fr_clr {fr : Nat → AV × Option Place} (h : ∀ k, (fr k).2 = none) (r : Nat) : (fun j => Ev.clrB r (fr j)) = fr := by
  funext j
  have := h j
  unfold Ev.clrB
  rw [this]

theorem box_one {G : Gh} {w : World} {r : Nat} {τ : Ty} {x : τ.den} {v : Value} (hv : ∀ cs, Cells G.com w τ cs x → cs = [v]) (h : BlkOK G w r (.box [.d τ x])) : ∃ t, w.heap[G.loc r]? = some (.cells #[v] t (0, 0)) ∧ G.wr (G.loc r) = .blk r := by
  obtain ⟨cur, t, h1, h2, h3, h4⟩ := h
  simp only [Lay] at h4
  obtain ⟨c, cs', h5, h6, h7, h8, rfl⟩ := h4
  have := hv c h8
  subst this
  have : cur = #[v] := Array.ext' (by rw [h5]; rfl)
  subst this
  exact ⟨t, h1, h2⟩

theorem okc26 : CtxOK Try.prog (tab.ctx {}) := tab.ctxOK tab_ok _
theorem ok25' : okTy Try.prog (.slice H26) 25 = true := okc26.ty 25 (by decide)
theorem by25 : ∃ u i, Try.prog.underlying 25 = some (.slice u) ∧ Try.prog.info? u = some i ∧ i.bytes = 56 := okc26.bytes 25 H26 rfl

theorem inl26 : InlOK Try.prog 26 S26 O26 g26 := by
  refine ⟨⟨Try.f26, Try.func26, by kernel_rfl, of_decide_eq_false (by kernel_rfl)⟩, ?_⟩
  intro x o hg w0 com0 f nt G fr a w p vs hI hal hta
  obtain ⟨⟨_, _, _, _⟩, ⟨xs, has, at_, old, new, _⟩, ⟨b, _⟩, ⟨j, _⟩, _⟩ := x
  simp only [S26, LS.mk, Sh.av, TA] at hta
  obtain ⟨v1, _, rfl, _, k1, v0, _, rfl, _, k0, v2, _, rfl, _, k2, rfl⟩ := hta
  simp only [VA] at k0 k1 k2
  obtain ⟨k1, rfl⟩ := k1
  obtain ⟨k0, rfl⟩ := k0
  obtain ⟨k2, rfl⟩ := k2
  have hb0 : ({ fr := fr, bl := BL.mk B26 ((xs, has, (at_, old, new, ())), (b, ()), (j, ()), ()) } : St).bl[0]? = some (.vec H26 xs has [.d (.int .i64) at_, .own .str old, .own .str new]) := rfl
  have hb1 : ({ fr := fr, bl := BL.mk B26 ((xs, has, (at_, old, new, ())), (b, ()), (j, ()), ()) } : St).bl[1]? = some (.box [.d .bool b]) := rfl
  have hb2 : ({ fr := fr, bl := BL.mk B26 ((xs, has, (at_, old, new, ())), (b, ()), (j, ()), ()) } : St).bl[2]? = some (.box [.d (.int .i64) j]) := rfl
  obtain ⟨t1, h1, l1⟩ := box_one (v := .bool b) (fun _ h => by simpa only [Cells] using h) (hI.blocks 1 _ hb1)
  obtain ⟨t2, h2, l2⟩ := box_one (v := .int .i64 j) (fun _ h => by simpa only [Cells] using h) (hI.blocks 2 _ hb2)
  have c1 : w.cell? ⟨G.loc 1, 0, none⟩ = some (.bool b) := by rw [cell_of_row w _ _ _ _ (0, 0) h1]; rfl
  have c2 : w.cell? ⟨G.loc 2, 0, none⟩ = some (.int .i64 j) := by rw [cell_of_row w _ _ _ _ (0, 0) h2]; rfl
  have hvec := hI.blocks 0 _ hb0
  obtain ⟨v, t0, b1, b2, b3, b4, b5, b6⟩ := hvec
  have c0 : w.cell? ⟨G.loc 0, 0, none⟩ = some v := by rw [cell_of_row w _ _ _ _ (0, 0) b1]; rfl
  have hw3 : Ty.width H26 = 3 := rfl
  simp only [g26] at hg
  split at hg
  · rename_i hbt
    subst hbt
    split at hg
    · rename_i hh
      obtain ⟨rfl, hlt⟩ := hh
      cases hg
      rcases b6 with ⟨b6, _⟩ | ⟨_, g, cap, cur, tg, ds, c, rest, q2, q3, q4⟩
      · cases b6
      · subst q2
        refine (grow_open (n := xs.length) (by omega) c1 c0).mono ?_
        rintro e w' ⟨rfl, rfl⟩
        refine ⟨[_], G, rfl, hI, ?_⟩
        simp only [O26, LS.mk, Sh.av, TA, VA]
        refine ⟨_, _, rfl, rfl, ⟨k0, by omega, g, q3, ?_⟩, rfl⟩
        rw [← b5, hw3]
        simp
    · cases hg
  · rename_i hbf
    have hbf : b = false := by cases b <;> simp_all
    subst hbf
    split at hg
    · rename_i hbd
      cases hg
      obtain ⟨u, i, hu, hi, hbytes⟩ := by25
      obtain ⟨u', hu', he, hw⟩ := okTy_slice ok25'
      -- the new element, in memory of its own
      have hcells : Cells G.com w H26 [.int .i64 j, .slice none 0 0, .slice none 0 0] (j, ([] : List ByteArray), ([] : List ByteArray), ()) :=
        ⟨[.int .i64 j], _, rfl, rfl, [.slice none 0 0], _, rfl, ⟨none, 0, 0, [], rfl, rfl, Nat.le_refl _, .nil, .inl rfl⟩, [.slice none 0 0], [], rfl, ⟨none, 0, 0, [], rfl, rfl, Nat.le_refl _, .nil, .inl rfl⟩, rfl⟩
      obtain ⟨hI1, _, _⟩ := hI.fresh (cur := #[.int .i64 j, .slice none 0 0, .slice none 0 0]) (t := 38) (e := H26) (xs := [(j, ([] : List ByteArray), ([] : List ByteArray), ())]) (ds := [.int .i64 j, .slice none 0 0, .slice none 0 0]) (cap := 1) hw
        (by simpa using Parts.cons hcells .nil) (by simp) (by decide) rfl rfl
      have hv1 : (w.alloc (.cells #[.int .i64 j, .slice none 0 0, .slice none 0 0] 38)).heap[(G.fresh w.heap.size 3).loc 0]? = some (.cells #[v] t0 (0, 0)) :=
        (Below.heap_alloc w _ _ (hI.wrhi (G.loc 0) (by rw [b2]; simp)).2).trans b1
      have hsrc : Src Try.prog (Ty.width H26) 25 (.slice (some ⟨w.heap.size, 0, none⟩) 1 1) 1 [.int .i64 j, .slice none 0 0, .slice none 0 0] (w.alloc (.cells #[.int .i64 j, .slice none 0 0, .slice none 0 0] 38)) := by
        refine Src.ofSlice _ hu' ⟨w.heap.size, 0, none⟩ 1 1 _ rfl (fun k u hk => ?_) (by simp [Value.oneCell'])
        rw [addr_add rfl, Nat.zero_add, cell_of_row _ _ _ _ _ (0, 0) (heap_alloc_new w _)]
        simpa using hk
      obtain ⟨G', w2, g', cap', hap, r1, r3, r3', r4, r5, r6⟩ := vec_grow hI1 (P := Try.prog) (t := 25) (tx := 25) (ty := 25) ok25' hu hi hu hb0 hv1 (y := (at_, old, new, ())) rfl rfl hsrc (ls' := [.d (.int .i64) j, .own .str [], .own .str []])
        (fun G' w' => ⟨[.int .i64 j], _, rfl, rfl, Nat.one_pos, rfl, [.slice none 0 0], _, rfl, rfl, Nat.one_pos, ⟨_, rfl, ⟨[], .nil, Nat.one_pos, .inl ⟨rfl, rfl⟩⟩, rfl⟩, [.slice none 0 0], [], rfl, rfl, Nat.one_pos, ⟨_, rfl, ⟨[], .nil, Nat.one_pos, .inl ⟨rfl, rfl⟩⟩, rfl⟩, rfl⟩)
        (by rw [hbytes]; exact hbd)
      rw [fr_clr hal] at r3
      have e0 : G'.loc = G.loc := r5
      have r1 : w2.heap[G.loc 0]? = some (.cells #[v] t0 (0, 0)) := r1
      have r3 : Inv w0 com0 f nt G' { fr := fr, bl := [.vec H26 (if has = true then xs ++ [(at_, old, new, ())] else xs) true [.d (.int .i64) j, .own .str [], .own .str []], .box [.d .bool false], .box [.d (.int .i64) j]] } a (w2.setRow (G.loc 0) #[.slice (some ⟨g', 0, none⟩) ((if has = true then xs ++ [(at_, old, new, ())] else xs).length + 1) cap']) := r3
      obtain ⟨t1', s1, m1⟩ := box_one (v := .bool false) (fun _ h => by simpa only [Cells] using h) (r3.blocks 1 (.box [.d .bool false]) rfl)
      rw [e0] at s1 m1
      have hne : G.loc 0 ≠ G.loc 1 := fun e => by
        have := l1
        rw [← e, b2] at this
        cases this
      have s1' : w2.heap[G.loc 1]? = some (.cells #[.bool false] t1' (0, 0)) := by
        rw [← s1]; exact (setRow_other w2 _ _ _ (Ne.symm hne)).symm
      obtain ⟨cur, t', p1, p2, p3⟩ := r3.storeLeaves (rr := 1) (off := 0) (n := 1) (pre := []) (post := []) (new := [.d .bool true]) (vs := [.bool true]) (ls := [.d .bool false]) rfl rfl rfl rfl (fun w' _ => Lay.single (a := .d .bool true) (c := [.bool true]) (by simp [LeafV, Cells]) Nat.one_pos)
      rw [fr_clr hal, e0] at p3
      rw [e0, s1] at p1
      have hcur : cur = #[.bool false] := by injection p1 with p1; injection p1 with p1; exact p1.symm
      subst hcur
      have q0 := setCell_row r1 (.slice (some ⟨g', 0, none⟩) ((if has = true then xs ++ [(at_, old, new, ())] else xs).length + 1) cap')
      have q1 := setCell_row s1 (.bool true)
      have hsr := setRow_heap w2 (G.loc 0) _ #[.slice (some ⟨g', 0, none⟩) ((if has = true then xs ++ [(at_, old, new, ())] else xs).length + 1) cap'] t0 (0, 0) r1
      have hlen : (if has = true then xs ++ [(at_, old, new, ())] else xs).length ≤ xs.length + 1 := by split <;> simp
      refine (grow_new (n := (if has = true then xs ++ [(at_, old, new, ())] else xs).length) (by simp only [appendMost] at hbd; omega) c1 c0 c2 hap (frozen_row r1) (frozen_row s1') (by rw [cell_of_row w2 _ _ _ _ (0, 0) r1]; rfl) (by rw [q0, cell_of_row _ _ _ _ _ (0, 0) s1]; rfl)
        (by rw [q0, q1, cell_of_row _ _ _ _ _ (0, 0) ((setRow_other _ _ _ _ hne).trans hsr)]; rfl)).mono ?_
      rintro e w' ⟨rfl, rfl⟩
      refine ⟨[_], G', rfl, ?_, ?_⟩
      · rw [q0, q1]
        exact p3
      · rw [q0, q1]
        simp only [O26, LS.mk, Sh.av, TA, VA]
        refine ⟨_, _, rfl, rfl, ⟨by rw [r6]; exact k0, Int.natCast_nonneg _, g', r3', ?_⟩, rfl⟩
        rw [r4, hw3]
        simp
    · cases hg
end Go.Ev

/-
  quitclaim/diff.Of: what it answers. (Printed by wip/tools/gen.py.)
-/
namespace Go.Ev
open Go.Proofs
abbrev S10 : Shape := ⟨[(0, .d (.slice .str)), (1, .d (.slice .str)), (6, .d (.slice (.slice (.int .i64)))), (7, .ptr 0 0), (8, .ptr 1 0), (9, .d (.int .i64)), (10, .ptr 2 0), (11, .fnc 26 [1, 0, 2])], [.vec (.agg (.cons (.int .i64) (.cons (.slice .str) (.cons (.slice .str) .unit)))) [.d (.int .i64), .own .str, .own .str], .box [.d .bool], .box [.d (.int .i64)]]⟩
abbrev O10 : Shape := ⟨[(7, .ptr 0 0)], [.vec (.agg (.cons (.int .i64) (.cons (.slice .str) (.cons (.slice .str) .unit)))) [.d (.int .i64), .own .str, .own .str], .box [.d .bool], .box [.d (.int .i64)]]⟩
abbrev J10_95 : Shape := ⟨[(0, .d (.slice .str)), (1, .d (.slice .str)), (6, .d (.slice (.slice (.int .i64)))), (7, .ptr 0 0), (8, .ptr 1 0), (9, .d (.int .i64)), (10, .ptr 2 0), (11, .fnc 26 [1, 0, 2])], [.vec (.agg (.cons (.int .i64) (.cons (.slice .str) (.cons (.slice .str) .unit)))) [.d (.int .i64), .own .str, .own .str], .box [.d .bool], .box [.d (.int .i64)]]⟩
abbrev A10 : Ty := (.cons (.slice .str) (.cons (.slice .str) .unit))
abbrev R10 : List RT := [.d (.slice (.agg (.cons (.int .i64) (.cons (.slice .str) (.cons (.slice .str) .unit))))), .d (.int .i64)]
noncomputable def F10 (N : Nat) : Fn := { fns := [(24, .pure A24 R24 (g24 N)), (25, .pure A25 R25 (g25 N)), (26, .inl S26 O26 g26)], writes := [], loops := [(8, S10, O10)], conds := [(95, J10_95)], mats := [], vecs := [7], fins := [142] }
noncomputable def L10 (N : Nat) : Nat → S10.den → Option (Ctl × O10.den) := loopFn (tab.ctx (F10 N)) N (loopCode Try.f10 8) S10 O10
theorem L10_succ (N n : Nat) (t0 : (Ty.den (.slice .str))) (t1 : (Ty.den (.slice .str))) (t6 : (Ty.den (.slice (.slice (.int .i64))))) (t9 : Int) (b7 : List (Ty.den (.agg (.cons (.int .i64) (.cons (.slice .str) (.cons (.slice .str) .unit)))))) (h7 : Bool) (b7_0 : Int) (b7_1 : (Ty.den (.slice .str))) (b7_2 : (Ty.den (.slice .str))) (b8_0 : Bool) (b10_0 : Int) : L10 N (n + 1) ((t0, t1, t6, (), (), t9, (), (), ()), ((b7, h7, b7_0, b7_1, b7_2, ()), (b8_0, ()), (b10_0, ()), ())) =
 ((if decide (t9 < (↑(List.length t0) : Int)) = false then some (decide (b10_0 < (↑(List.length t1) : Int)))
    else some true).bind
  fun (b : Bool) =>
  if b = true then
    (if decide (t9 < (↑(List.length t0) : Int)) = true then
          if decide (b10_0 < (↑(List.length t1) : Int)) = true then
            if (0 : Int) ≤ t9 ∧ t9 < (↑(List.length t0) : Int) then
              if (0 : Int) ≤ b10_0 ∧ b10_0 < (↑(List.length t1) : Int) then
                if decide (List.getD t0 t9.toNat (Ty.zero .str) = List.getD t1 b10_0.toNat (Ty.zero .str)) = true then
                  if (0 : Int) ≤ t9 ∧ t9 < (↑(List.length t6) : Int) then
                    if
                        (0 : Int) ≤ b10_0 ∧
                          b10_0 <
                            (↑(List.length (List.getD t6 t9.toNat (Ty.int IntKind.i64).slice.zero)) :
                              Int) then
                      if
                          (0 : Int) ≤ IntKind.i64.wrap (t9 + (1 : Int)) ∧
                            IntKind.i64.wrap (t9 + (1 : Int)) < (↑(List.length t6) : Int) then
                        if
                            (0 : Int) ≤ IntKind.i64.wrap (b10_0 + (1 : Int)) ∧
                              IntKind.i64.wrap (b10_0 + (1 : Int)) <
                                (↑(List.length
                                      (List.getD t6 (IntKind.i64.wrap (t9 + (1 : Int))).toNat
                                        (Ty.int IntKind.i64).slice.zero)) :
                                  Int) then
                          some
                            (decide
                              (List.getD (List.getD t6 t9.toNat (Ty.int IntKind.i64).slice.zero) b10_0.toNat
                                  (Ty.int IntKind.i64).zero =
                                IntKind.i64.wrap
                                  (List.getD
                                      (List.getD t6 (IntKind.i64.wrap (t9 + (1 : Int))).toNat
                                        (Ty.int IntKind.i64).slice.zero)
                                      (IntKind.i64.wrap (b10_0 + (1 : Int))).toNat (Ty.int IntKind.i64).zero +
                                    (1 : Int))))
                        else none
                      else none
                    else none
                  else none
                else some false
              else none
            else none
          else some false
        else some false).bind
      fun (b : Bool) =>
      if b = true then
        L10 N n
          ((t0, t1, t6, (), (), IntKind.i64.wrap (t9 + (1 : Int)), (), (), ()),
            (b7, h7, b7_0, b7_1, b7_2, ()), (false, ()),
            (IntKind.i64.wrap (b10_0 + (1 : Int)), ()), ())
      else
        (if decide (b10_0 = (↑(List.length t1) : Int)) = false then
              if decide (t9 < (↑(List.length t0) : Int)) = true then
                if
                    (0 : Int) ≤ IntKind.i64.wrap (t9 + (1 : Int)) ∧
                      IntKind.i64.wrap (t9 + (1 : Int)) < (↑(List.length t6) : Int) then
                  if
                      (0 : Int) ≤ b10_0 ∧
                        b10_0 <
                          (↑(List.length
                                (List.getD t6 (IntKind.i64.wrap (t9 + (1 : Int))).toNat
                                  (Ty.int IntKind.i64).slice.zero)) :
                            Int) then
                    if (0 : Int) ≤ t9 ∧ t9 < (↑(List.length t6) : Int) then
                      if
                          (0 : Int) ≤ IntKind.i64.wrap (b10_0 + (1 : Int)) ∧
                            IntKind.i64.wrap (b10_0 + (1 : Int)) <
                              (↑(List.length (List.getD t6 t9.toNat (Ty.int IntKind.i64).slice.zero)) :
                                Int) then
                        some
                          (decide
                            (List.getD (List.getD t6 t9.toNat (Ty.int IntKind.i64).slice.zero)
                                (IntKind.i64.wrap (b10_0 + (1 : Int))).toNat (Ty.int IntKind.i64).zero ≤
                              List.getD
                                (List.getD t6 (IntKind.i64.wrap (t9 + (1 : Int))).toNat (Ty.int IntKind.i64).slice.zero)
                                b10_0.toNat (Ty.int IntKind.i64).zero))
                      else none
                    else none
                  else none
                else none
              else some false
            else some true).bind
          fun (b : Bool) =>
          (if b = true then
                (g26
                      (((), (), (), ()), (b7, h7, b7_0, b7_1, b7_2, ()),
                        (b8_0, ()), (b10_0, ()), ())).bind
                  fun (o : O26.den) =>
                  if o.snd.fst.snd.fst = true ∧ o.fst.fst = (↑o.snd.fst.fst.length : Int) then
                    if (0 : Int) ≤ t9 ∧ t9 < (↑(List.length t0) : Int) then
                      if
                          o.snd.fst.snd.fst = true ∧
                            (List.length o.snd.fst.snd.snd.snd.fst + [List.getD t0 t9.toNat (Ty.zero .str)].length) *
                                ((16 : Nat) + (1 : Nat)) ≤
                              (2 : Nat) ^ (40 : Nat) then
                        if o.snd.fst.snd.fst = true ∧ o.fst.fst = (↑o.snd.fst.fst.length : Int) then
                          some
                            (Ctl.normal,
                              (t0, t1, t6, (), (), IntKind.i64.wrap (t9 + (1 : Int)), (),
                                (), ()),
                              (o.snd.fst.fst, o.snd.fst.snd.fst, o.snd.fst.snd.snd.fst,
                                o.snd.fst.snd.snd.snd.fst ++ [List.getD t0 t9.toNat (Ty.zero .str)],
                                o.snd.fst.snd.snd.snd.snd.fst, ()),
                              (o.snd.snd.fst.fst, ()), (o.snd.snd.snd.fst.fst, ()), ())
                        else none
                      else none
                    else none
                  else none
              else
                (g26
                      (((), (), (), ()), (b7, h7, b7_0, b7_1, b7_2, ()),
                        (b8_0, ()), (b10_0, ()), ())).bind
                  fun (o : O26.den) =>
                  if o.snd.fst.snd.fst = true ∧ o.fst.fst = (↑o.snd.fst.fst.length : Int) then
                    if
                        (0 : Int) ≤ o.snd.snd.snd.fst.fst ∧
                          o.snd.snd.snd.fst.fst < (↑(List.length t1) : Int) then
                      if
                          o.snd.fst.snd.fst = true ∧
                            (List.length o.snd.fst.snd.snd.snd.snd.fst +
                                  [List.getD t1 (Int.toNat o.snd.snd.snd.fst.fst) (Ty.zero .str)].length) *
                                ((16 : Nat) + (1 : Nat)) ≤
                              (2 : Nat) ^ (40 : Nat) then
                        if o.snd.fst.snd.fst = true ∧ o.fst.fst = (↑o.snd.fst.fst.length : Int) then
                          some
                            (Ctl.normal, (t0, t1, t6, (), (), t9, (), (), ()),
                              (o.snd.fst.fst, o.snd.fst.snd.fst, o.snd.fst.snd.snd.fst, o.snd.fst.snd.snd.snd.fst,
                                o.snd.fst.snd.snd.snd.snd.fst ++
                                  [List.getD t1 (Int.toNat o.snd.snd.snd.fst.fst) (Ty.zero .str)],
                                ()),
                              (o.snd.snd.fst.fst, ()),
                              (IntKind.i64.wrap (o.snd.snd.snd.fst.fst + (1 : Int)), ()), ())
                        else none
                      else none
                    else none
                  else none).bind
            fun (r : Ctl × J10_95.den) =>
            r.fst.elim
              (L10 N n
                ((r.snd.fst.fst, r.snd.fst.snd.fst, r.snd.fst.snd.snd.fst, (), (),
                    r.snd.fst.snd.snd.snd.snd.snd.fst, (), (), ()),
                  (r.snd.snd.fst.fst, r.snd.snd.fst.snd.fst, r.snd.snd.fst.snd.snd.fst, r.snd.snd.fst.snd.snd.snd.fst,
                    r.snd.snd.fst.snd.snd.snd.snd.fst, ()),
                  (r.snd.snd.snd.fst.fst, ()), (r.snd.snd.snd.snd.fst.fst, ()), ()))
              (fun (id : Nat) =>
                if id = (2 : Nat) then
                  L10 N n
                    ((r.snd.fst.fst, r.snd.fst.snd.fst, r.snd.fst.snd.snd.fst, (), (),
                        r.snd.fst.snd.snd.snd.snd.snd.fst, (), (), ()),
                      (r.snd.snd.fst.fst, r.snd.snd.fst.snd.fst, r.snd.snd.fst.snd.snd.fst,
                        r.snd.snd.fst.snd.snd.snd.fst, r.snd.snd.fst.snd.snd.snd.snd.fst, ()),
                      (r.snd.snd.snd.fst.fst, ()), (r.snd.snd.snd.snd.fst.fst, ()), ())
                else
                  if id = (1 : Nat) then
                    L10 N n
                      ((r.snd.fst.fst, r.snd.fst.snd.fst, r.snd.fst.snd.snd.fst, (), (),
                          r.snd.fst.snd.snd.snd.snd.snd.fst, (), (), ()),
                        (r.snd.snd.fst.fst, r.snd.snd.fst.snd.fst, r.snd.snd.fst.snd.snd.fst,
                          r.snd.snd.fst.snd.snd.snd.fst, r.snd.snd.fst.snd.snd.snd.snd.fst, ()),
                        (r.snd.snd.snd.fst.fst, ()), (r.snd.snd.snd.snd.fst.fst, ()), ())
                  else
                    some
                      (Ctl.exit id, ((), ()),
                        (r.snd.snd.fst.fst, r.snd.snd.fst.snd.fst, r.snd.snd.fst.snd.snd.fst,
                          r.snd.snd.fst.snd.snd.snd.fst, r.snd.snd.fst.snd.snd.snd.snd.fst, ()),
                        (r.snd.snd.snd.fst.fst, ()), (r.snd.snd.snd.snd.fst.fst, ()), ()))
              (fun (id : Nat) =>
                some
                  (Ctl.goto id, ((), ()),
                    (r.snd.snd.fst.fst, r.snd.snd.fst.snd.fst, r.snd.snd.fst.snd.snd.fst, r.snd.snd.fst.snd.snd.snd.fst,
                      r.snd.snd.fst.snd.snd.snd.snd.fst, ()),
                    (r.snd.snd.snd.fst.fst, ()), (r.snd.snd.snd.snd.fst.fst, ()), ()))
              (some
                (Ctl.ret, ((), ()),
                  (r.snd.snd.fst.fst, r.snd.snd.fst.snd.fst, r.snd.snd.fst.snd.snd.fst, r.snd.snd.fst.snd.snd.snd.fst,
                    r.snd.snd.fst.snd.snd.snd.snd.fst, ()),
                  (r.snd.snd.snd.fst.fst, ()), (r.snd.snd.snd.snd.fst.fst, ()), ()))
  else
    some
      (Ctl.exit (0 : Nat), ((), ()), (b7, h7, b7_0, b7_1, b7_2, ()), (b8_0, ()),
        (b10_0, ()), ())) := by kernel_rfl
noncomputable def g10 (N : Nat) (x : A10.den) : Option (RTs.den R10) :=
 (g24 N (x.1, x.2.1, ())).bind fun (r : RTs.den R24) =>
  if (!r.fst) = true then some ([], (3 : Int), ())
  else
    (g25 N (x.1, x.2.1, ())).bind fun (r : RTs.den R25) =>
      (L10 N N
            ((x.1, x.2.1, r.fst, (), (), (0 : Int), (), (), ()),
              ([], false, (0 : Int), [], [], ()), (false, ()), ((0 : Int), ()),
              ())).bind
        fun (r : Ctl × O10.den) =>
        r.fst.elim none
          (fun (id : Nat) =>
            if id = (0 : Nat) then
              some
                (if r.snd.snd.fst.snd.fst = true then
                    r.snd.snd.fst.fst ++
                      [(r.snd.snd.fst.snd.snd.fst, r.snd.snd.fst.snd.snd.snd.fst, r.snd.snd.fst.snd.snd.snd.snd.fst,
                          ())]
                  else r.snd.snd.fst.fst,
                  (0 : Int), ())
            else none)
          (fun (id : Nat) => none) none
theorem run10 (N : Nat) (x : A10.den) : run (tab.ctx (F10 N)) N Try.f10 A10 R10 x = g10 N x := by kernel_rfl
theorem ok10 (N : Nat) : okFn (tab.ctx (F10 N)) Try.f10 A10 = true := by kernel_rfl
theorem fns10 (N : Nat) : FnOK Try.prog (tab.ctx (F10 N)) := (fnOK_cons (pure24 N) (fnOK_cons (pure25 N) (fnOK_inl inl26 fnOK_nil)))
theorem pure10 (N : Nat) : PureOK Try.prog 10 A10 R10 (g10 N) := pureOK (tab.ctxOK tab_ok _) (fns10 N) Try.func10 (ok10 N) (run10 N)
end Go.Ev

/-
  THE HUNKS: the document's and the program's are the walk's.
-/
namespace Go.Ev.Pl
open Go.Proofs

theorem ite_f {p : Prop} [Decidable p] {β : Type} {a b : β} (h : p) : (if decide p = false then a else b) = b := if_neg (by simpa using h)
theorem ite_nf {p : Prop} [Decidable p] {β : Type} {a b : β} (h : ¬ p) : (if decide p = false then a else b) = a := if_pos (decide_eq_false h)
theorem ite_f' {p : Prop} {i : Decidable p} {k : Decidable (@decide p i = false)} {β : Type} {a b : β} (h : p) : @ite β (@decide p i = false) k a b = b := if_neg (by simpa using h)
theorem ite_nf' {p : Prop} {i : Decidable p} {k : Decidable (@decide p i = false)} {β : Type} {a b : β} (h : ¬ p) : @ite β (@decide p i = false) k a b = a := if_pos (decide_eq_false h)

theorem L13_keep1 (N n : Nat) (x y : Ls) (out : List Hd) (i j : Nat) (b0 : Int) (b1 b2 : Ls) (hx : x.length ≤ 1000) (hy : y.length ≤ 1000) (h57 : (out.length + 1) * 57 ≤ 1099511627776) (l1 : b1.length ≤ 1000) (l2 : b2.length ≤ 1000) (hi : i < x.length) (hj : j < y.length) (h2 : x[i] = y[j]) (hs : 0 < b1.length + b2.length) :
    L13 N (n + 1) ((x, y, tabK x y, out, (), (i : Int), (j : Int), ()), ((b0, b1, b2, ()), ())) = L13 N n ((x, y, tabK x y, (out ++ [(b0, b1, b2, ())]), (), ((i : Int) + 1), ((j : Int) + 1), ()), (((j : Int) + 1, [], [], ()), ())) := by
  rw [L13_succ]
  dsimp only [Ty.den, Sh.den]
  have tl := tabK_length x y
  have ti : ∀ z, List.getD (tabK x y) i z = rowK (x.drop i) y := fun z => tb_getD (by omega) z
  have rj : ∀ u z, List.getD (rowK u y) j z = ((K u (y.drop j) : Nat) : Int) := fun u z => tb_getD (by omega) z
  have ti1 : ∀ z, List.getD (tabK x y) (i + 1) z = rowK (x.drop (i + 1)) y := fun z => tb_getD (by omega) z
  have rj1 : ∀ u z, List.getD (rowK u y) (j + 1) z = ((K u (y.drop (j + 1)) : Nat) : Int) := fun u z => tb_getD (by omega) z
  have gx : List.getD x i (Ty.zero .str) = x[i] := by simp [List.getD_eq_getElem?_getD, List.getElem?_eq_getElem hi]
  have gy : List.getD y j (Ty.zero .str) = y[j] := by simp [List.getD_eq_getElem?_getD, List.getElem?_eq_getElem hj]
  have hk : K (x.drop i) (y.drop j) = K (x.drop (i + 1)) (y.drop (j + 1)) + 1 := by
    rw [List.drop_eq_getElem_cons hi, List.drop_eq_getElem_cons hj, h2, K_eq]
  have hb : K (x.drop (i + 1)) (y.drop (j + 1)) ≤ y.length := K_lt (j + 1)
  have num : (2 : Nat) ^ 40 = 1099511627776 := rfl
  have d2 : decide (x[i] = y[j]) = true := decide_eq_true h2
  repeat first
    | simp (disch := omega) only [↓ite_dec, ↓ite_ndec, ↓ite_f, ↓ite_nf, ↓if_pos, ite_dec', ite_ndec', ite_f', ite_nf', ite_pos', w64, tn0, tn1, tl, ti, ti1, rowK_length, rj, rj1, gx, gy, d2, List.length_cons, List.length_nil, Option.bind_some, Ctl.elim, if_true, Bool.false_eq_true, if_false, num]
    | dsimp only [Ty.den, Sh.den]

theorem L13_keep0 (N n : Nat) (x y : Ls) (out : List Hd) (i j : Nat) (b0 : Int) (b1 b2 : Ls) (hx : x.length ≤ 1000) (hy : y.length ≤ 1000) (h57 : (out.length + 1) * 57 ≤ 1099511627776) (l1 : b1.length ≤ 1000) (l2 : b2.length ≤ 1000) (hi : i < x.length) (hj : j < y.length) (h2 : x[i] = y[j]) (hs : b1.length + b2.length = 0) :
    L13 N (n + 1) ((x, y, tabK x y, out, (), (i : Int), (j : Int), ()), ((b0, b1, b2, ()), ())) = L13 N n ((x, y, tabK x y, out, (), ((i : Int) + 1), ((j : Int) + 1), ()), (((j : Int) + 1, [], [], ()), ())) := by
  rw [L13_succ]
  dsimp only [Ty.den, Sh.den]
  have tl := tabK_length x y
  have ti : ∀ z, List.getD (tabK x y) i z = rowK (x.drop i) y := fun z => tb_getD (by omega) z
  have rj : ∀ u z, List.getD (rowK u y) j z = ((K u (y.drop j) : Nat) : Int) := fun u z => tb_getD (by omega) z
  have ti1 : ∀ z, List.getD (tabK x y) (i + 1) z = rowK (x.drop (i + 1)) y := fun z => tb_getD (by omega) z
  have rj1 : ∀ u z, List.getD (rowK u y) (j + 1) z = ((K u (y.drop (j + 1)) : Nat) : Int) := fun u z => tb_getD (by omega) z
  have gx : List.getD x i (Ty.zero .str) = x[i] := by simp [List.getD_eq_getElem?_getD, List.getElem?_eq_getElem hi]
  have gy : List.getD y j (Ty.zero .str) = y[j] := by simp [List.getD_eq_getElem?_getD, List.getElem?_eq_getElem hj]
  have hk : K (x.drop i) (y.drop j) = K (x.drop (i + 1)) (y.drop (j + 1)) + 1 := by
    rw [List.drop_eq_getElem_cons hi, List.drop_eq_getElem_cons hj, h2, K_eq]
  have hb : K (x.drop (i + 1)) (y.drop (j + 1)) ≤ y.length := K_lt (j + 1)
  have num : (2 : Nat) ^ 40 = 1099511627776 := rfl
  have d2 : decide (x[i] = y[j]) = true := decide_eq_true h2
  repeat first
    | simp (disch := omega) only [↓ite_dec, ↓ite_ndec, ↓ite_f, ↓ite_nf, ↓if_pos, ite_dec', ite_ndec', ite_f', ite_nf', ite_pos', w64, tn0, tn1, tl, ti, ti1, rowK_length, rj, rj1, gx, gy, d2, List.length_cons, List.length_nil, Option.bind_some, Ctl.elim, if_true, Bool.false_eq_true, if_false, num]
    | dsimp only [Ty.den, Sh.den]

theorem L13_drop1 (N n : Nat) (x y : Ls) (out : List Hd) (i j : Nat) (b0 : Int) (b1 b2 : Ls) (hx : x.length ≤ 1000) (hy : y.length ≤ 1000) (h57 : (out.length + 1) * 57 ≤ 1099511627776) (l1 : b1.length ≤ 1000) (l2 : b2.length ≤ 1000) (hi : i < x.length) (hj : j = y.length) :
    L13 N (n + 1) ((x, y, tabK x y, out, (), (i : Int), (j : Int), ()), ((b0, b1, b2, ()), ())) = L13 N n ((x, y, tabK x y, out, (), ((i : Int) + 1), (j : Int), ()), ((b0, b1 ++ [x[i]], b2, ()), ())) := by
  subst hj
  rw [L13_succ]
  dsimp only [Ty.den, Sh.den]
  have tl := tabK_length x y
  have ti : ∀ z, List.getD (tabK x y) i z = rowK (x.drop i) y := fun z => tb_getD (by omega) z
  have rj : ∀ u z, List.getD (rowK u y) y.length z = ((K u (y.drop y.length) : Nat) : Int) := fun u z => tb_getD (by omega) z
  have gx : List.getD x i (Ty.zero .str) = x[i] := by simp [List.getD_eq_getElem?_getD, List.getElem?_eq_getElem hi]
  have num : (2 : Nat) ^ 40 = 1099511627776 := rfl
  repeat first
    | simp (disch := omega) only [↓ite_dec, ↓ite_ndec, ↓ite_f, ↓ite_nf, ↓if_pos, ite_dec', ite_ndec', ite_f', ite_nf', ite_pos', w64, tn0, tn1, tl, ti, rowK_length, rj, gx, List.length_cons, List.length_nil, Option.bind_some, Ctl.elim, if_true, Bool.false_eq_true, if_false, num]
    | dsimp only [Ty.den, Sh.den]

theorem L13_drop2 (N n : Nat) (x y : Ls) (out : List Hd) (i j : Nat) (b0 : Int) (b1 b2 : Ls) (hx : x.length ≤ 1000) (hy : y.length ≤ 1000) (h57 : (out.length + 1) * 57 ≤ 1099511627776) (l1 : b1.length ≤ 1000) (l2 : b2.length ≤ 1000) (hi : i < x.length) (hj : j < y.length) (h2 : ¬ x[i] = y[j]) (hle : K (x.drop i) (y.drop (j + 1)) ≤ K (x.drop (i + 1)) (y.drop j)) :
    L13 N (n + 1) ((x, y, tabK x y, out, (), (i : Int), (j : Int), ()), ((b0, b1, b2, ()), ())) = L13 N n ((x, y, tabK x y, out, (), ((i : Int) + 1), (j : Int), ()), ((b0, b1 ++ [x[i]], b2, ()), ())) := by
  rw [L13_succ]
  dsimp only [Ty.den, Sh.den]
  have tl := tabK_length x y
  have ti : ∀ z, List.getD (tabK x y) i z = rowK (x.drop i) y := fun z => tb_getD (by omega) z
  have rj : ∀ u z, List.getD (rowK u y) j z = ((K u (y.drop j) : Nat) : Int) := fun u z => tb_getD (by omega) z
  have ti1 : ∀ z, List.getD (tabK x y) (i + 1) z = rowK (x.drop (i + 1)) y := fun z => tb_getD (by omega) z
  have rj1 : ∀ u z, List.getD (rowK u y) (j + 1) z = ((K u (y.drop (j + 1)) : Nat) : Int) := fun u z => tb_getD (by omega) z
  have gx : List.getD x i (Ty.zero .str) = x[i] := by simp [List.getD_eq_getElem?_getD, List.getElem?_eq_getElem hi]
  have gy : List.getD y j (Ty.zero .str) = y[j] := by simp [List.getD_eq_getElem?_getD, List.getElem?_eq_getElem hj]
  have num : (2 : Nat) ^ 40 = 1099511627776 := rfl
  have d2 : decide (x[i] = y[j]) = false := decide_eq_false h2
  repeat first
    | simp (disch := omega) only [↓ite_dec, ↓ite_ndec, ↓ite_f, ↓ite_nf, ↓if_pos, ite_dec', ite_ndec', ite_f', ite_nf', ite_pos', w64, tn0, tn1, tl, ti, ti1, rowK_length, rj, rj1, gx, gy, d2, List.length_cons, List.length_nil, Option.bind_some, Ctl.elim, if_true, Bool.false_eq_true, if_false, num]
    | dsimp only [Ty.den, Sh.den]

theorem L13_ins1 (N n : Nat) (x y : Ls) (out : List Hd) (i j : Nat) (b0 : Int) (b1 b2 : Ls) (hx : x.length ≤ 1000) (hy : y.length ≤ 1000) (h57 : (out.length + 1) * 57 ≤ 1099511627776) (l1 : b1.length ≤ 1000) (l2 : b2.length ≤ 1000) (hi : i = x.length) (hj : j < y.length) :
    L13 N (n + 1) ((x, y, tabK x y, out, (), (i : Int), (j : Int), ()), ((b0, b1, b2, ()), ())) = L13 N n ((x, y, tabK x y, out, (), (i : Int), ((j : Int) + 1), ()), ((b0, b1, b2 ++ [y[j]], ()), ())) := by
  subst hi
  rw [L13_succ]
  dsimp only [Ty.den, Sh.den]
  have tl := tabK_length x y
  have ti : ∀ z, List.getD (tabK x y) x.length z = rowK (x.drop x.length) y := fun z => tb_getD (by omega) z
  have rj : ∀ u z, List.getD (rowK u y) j z = ((K u (y.drop j) : Nat) : Int) := fun u z => tb_getD (by omega) z
  have gy : List.getD y j (Ty.zero .str) = y[j] := by simp [List.getD_eq_getElem?_getD, List.getElem?_eq_getElem hj]
  have num : (2 : Nat) ^ 40 = 1099511627776 := rfl
  repeat first
    | simp (disch := omega) only [↓ite_dec, ↓ite_ndec, ↓ite_f, ↓ite_nf, ↓if_pos, ite_dec', ite_ndec', ite_f', ite_nf', ite_pos', w64, tn0, tn1, tl, ti, rowK_length, rj, gy, List.length_cons, List.length_nil, Option.bind_some, Ctl.elim, if_true, Bool.false_eq_true, if_false, num]
    | dsimp only [Ty.den, Sh.den]

theorem L13_ins2 (N n : Nat) (x y : Ls) (out : List Hd) (i j : Nat) (b0 : Int) (b1 b2 : Ls) (hx : x.length ≤ 1000) (hy : y.length ≤ 1000) (h57 : (out.length + 1) * 57 ≤ 1099511627776) (l1 : b1.length ≤ 1000) (l2 : b2.length ≤ 1000) (hi : i < x.length) (hj : j < y.length) (h2 : ¬ x[i] = y[j]) (hle : ¬ K (x.drop i) (y.drop (j + 1)) ≤ K (x.drop (i + 1)) (y.drop j)) :
    L13 N (n + 1) ((x, y, tabK x y, out, (), (i : Int), (j : Int), ()), ((b0, b1, b2, ()), ())) = L13 N n ((x, y, tabK x y, out, (), (i : Int), ((j : Int) + 1), ()), ((b0, b1, b2 ++ [y[j]], ()), ())) := by
  rw [L13_succ]
  dsimp only [Ty.den, Sh.den]
  have tl := tabK_length x y
  have ti : ∀ z, List.getD (tabK x y) i z = rowK (x.drop i) y := fun z => tb_getD (by omega) z
  have rj : ∀ u z, List.getD (rowK u y) j z = ((K u (y.drop j) : Nat) : Int) := fun u z => tb_getD (by omega) z
  have ti1 : ∀ z, List.getD (tabK x y) (i + 1) z = rowK (x.drop (i + 1)) y := fun z => tb_getD (by omega) z
  have rj1 : ∀ u z, List.getD (rowK u y) (j + 1) z = ((K u (y.drop (j + 1)) : Nat) : Int) := fun u z => tb_getD (by omega) z
  have gx : List.getD x i (Ty.zero .str) = x[i] := by simp [List.getD_eq_getElem?_getD, List.getElem?_eq_getElem hi]
  have gy : List.getD y j (Ty.zero .str) = y[j] := by simp [List.getD_eq_getElem?_getD, List.getElem?_eq_getElem hj]
  have num : (2 : Nat) ^ 40 = 1099511627776 := rfl
  have d2 : decide (x[i] = y[j]) = false := decide_eq_false h2
  repeat first
    | simp (disch := omega) only [↓ite_dec, ↓ite_ndec, ↓ite_f, ↓ite_nf, ↓if_pos, ite_dec', ite_ndec', ite_f', ite_nf', ite_pos', w64, tn0, tn1, tl, ti, ti1, rowK_length, rj, rj1, gx, gy, d2, List.length_cons, List.length_nil, Option.bind_some, Ctl.elim, if_true, Bool.false_eq_true, if_false, num]
    | dsimp only [Ty.den, Sh.den]

def hd (h : Hk ByteArray) : Hd := ((h.at_ : Int), h.old, h.new, ())

theorem L13_ev (N : Nat) (x y : Ls) (hx : x.length ≤ 1000) (hy : y.length ≤ 1000) : ∀ (d i j n : Nat) (out : List Hd) (c : Option (Hk ByteArray)),
    (x.length - i) + (y.length - j) ≤ d → i ≤ x.length → j ≤ y.length → d < n → out.length ≤ i + j →
    (∀ h, c = some h → 0 < h.size ∧ h.old.length ≤ i ∧ h.new.length ≤ j) →
    ∃ out' b0 b1 b2, L13 N n ((x, y, tabK x y, out, (), (i : Int), (j : Int), ()), (hd (c.getD ⟨j, [], []⟩), ())) = some (Ctl.exit 0, (out', (), ()), (b0, b1, b2, ()), ()) ∧
      out' ++ (if 0 < b1.length + b2.length then [((b0, b1, b2, ()) : Hd)] else []) = out ++ (walk (x.drop i) (y.drop j) j c).map hd ∧
      out'.length ≤ x.length + y.length ∧ b1.length ≤ x.length ∧ b2.length ≤ y.length := by
  have fin : ∀ (n : Nat) (out : List Hd) (c : Option (Hk ByteArray)), out.length ≤ x.length + y.length → (∀ h, c = some h → 0 < h.size ∧ h.old.length ≤ x.length ∧ h.new.length ≤ y.length) →
      ∃ out' b0 b1 b2, L13 N (n + 1) ((x, y, tabK x y, out, (), (x.length : Int), (y.length : Int), ()), (hd (c.getD ⟨y.length, [], []⟩), ())) = some (Ctl.exit 0, (out', (), ()), (b0, b1, b2, ()), ()) ∧
        out' ++ (if 0 < b1.length + b2.length then [((b0, b1, b2, ()) : Hd)] else []) = out ++ (walk (x.drop x.length) (y.drop y.length) y.length c).map hd ∧
        out'.length ≤ x.length + y.length ∧ b1.length ≤ x.length ∧ b2.length ≤ y.length := by
    intro n out c ho hc
    refine ⟨out, (hd (c.getD ⟨y.length, [], []⟩)).1, (hd (c.getD ⟨y.length, [], []⟩)).2.1, (hd (c.getD ⟨y.length, [], []⟩)).2.2.1, ?_, ?_, by omega, ?_, ?_⟩
    · unfold hd
      dsimp only
      rw [L13_succ]
      dsimp only [Ty.den, Sh.den]
      simp only [Int.lt_irrefl, decide_false, if_true, Option.bind_some, Bool.false_eq_true, if_false]
    · rw [List.drop_length, List.drop_length, walk]
      cases c with
      | none => simp [hd]
      | some h =>
        have := (hc h rfl).1
        simp only [Option.getD_some, Option.toList, List.map_cons, List.map_nil]
        rw [if_pos (show 0 < (hd h).2.1.length + (hd h).2.2.1.length from this)]
    · cases c with
      | none => simp [hd]
      | some h => exact (hc h rfl).2.1
    · cases c with
      | none => simp [hd]
      | some h => exact (hc h rfl).2.2
  intro d
  induction d with
  | zero =>
    intro i j n out c hd1 hi hj hn ho hc
    obtain ⟨n, rfl⟩ : ∃ k, n = k + 1 := ⟨n - 1, by omega⟩
    have ei : i = x.length := by omega
    have ej : j = y.length := by omega
    subst ei; subst ej
    exact fin n out c ho hc
  | succ d ih =>
    intro i j n out c hd1 hi hj hn ho hc
    obtain ⟨n, rfl⟩ : ∃ k, n = k + 1 := ⟨n - 1, by omega⟩
    have c1 : (c.getD ⟨j, [], []⟩).old.length ≤ i := by
      cases c with
      | none => simp
      | some h => exact (hc h rfl).2.1
    have c2 : (c.getD ⟨j, [], []⟩).new.length ≤ j := by
      cases c with
      | none => simp
      | some h => exact (hc h rfl).2.2
    have drop : ∀ (h : i < x.length), (∀ st, L13 N (n + 1) st = L13 N (n + 1) st) →
        L13 N (n + 1) ((x, y, tabK x y, out, (), (i : Int), (j : Int), ()), (hd (c.getD ⟨j, [], []⟩), ())) = L13 N n ((x, y, tabK x y, out, (), ((i : Int) + 1), (j : Int), ()), ((((c.getD ⟨j, [], []⟩).at_ : Int), (c.getD ⟨j, [], []⟩).old ++ [x[i]], (c.getD ⟨j, [], []⟩).new, ()), ())) →
        walk (x.drop i) (y.drop j) j c = walk (x.drop (i + 1)) (y.drop j) j (some ⟨(c.getD ⟨j, [], []⟩).at_, (c.getD ⟨j, [], []⟩).old ++ [x[i]], (c.getD ⟨j, [], []⟩).new⟩) →
        ∃ out' b0 b1 b2, L13 N (n + 1) ((x, y, tabK x y, out, (), (i : Int), (j : Int), ()), (hd (c.getD ⟨j, [], []⟩), ())) = some (Ctl.exit 0, (out', (), ()), (b0, b1, b2, ()), ()) ∧
      out' ++ (if 0 < b1.length + b2.length then [((b0, b1, b2, ()) : Hd)] else []) = out ++ (walk (x.drop i) (y.drop j) j c).map hd ∧
      out'.length ≤ x.length + y.length ∧ b1.length ≤ x.length ∧ b2.length ≤ y.length := by
      intro h _ e1 e2
      rw [e1, e2]
      have := ih (i + 1) j n out (some ⟨(c.getD ⟨j, [], []⟩).at_, (c.getD ⟨j, [], []⟩).old ++ [x[i]], (c.getD ⟨j, [], []⟩).new⟩) (by omega) (by omega) hj (by omega) (by omega)
        (fun h' e => by cases e; simp [Hk.size]; omega)
      exact this
    have ins : ∀ (h : j < y.length),
        L13 N (n + 1) ((x, y, tabK x y, out, (), (i : Int), (j : Int), ()), (hd (c.getD ⟨j, [], []⟩), ())) = L13 N n ((x, y, tabK x y, out, (), (i : Int), ((j : Int) + 1), ()), ((((c.getD ⟨j, [], []⟩).at_ : Int), (c.getD ⟨j, [], []⟩).old, (c.getD ⟨j, [], []⟩).new ++ [y[j]], ()), ())) →
        walk (x.drop i) (y.drop j) j c = walk (x.drop i) (y.drop (j + 1)) (j + 1) (some ⟨(c.getD ⟨j, [], []⟩).at_, (c.getD ⟨j, [], []⟩).old, (c.getD ⟨j, [], []⟩).new ++ [y[j]]⟩) →
        ∃ out' b0 b1 b2, L13 N (n + 1) ((x, y, tabK x y, out, (), (i : Int), (j : Int), ()), (hd (c.getD ⟨j, [], []⟩), ())) = some (Ctl.exit 0, (out', (), ()), (b0, b1, b2, ()), ()) ∧
      out' ++ (if 0 < b1.length + b2.length then [((b0, b1, b2, ()) : Hd)] else []) = out ++ (walk (x.drop i) (y.drop j) j c).map hd ∧
      out'.length ≤ x.length + y.length ∧ b1.length ≤ x.length ∧ b2.length ≤ y.length := by
      intro h e1 e2
      rw [e1, e2]
      have := ih i (j + 1) n out (some ⟨(c.getD ⟨j, [], []⟩).at_, (c.getD ⟨j, [], []⟩).old, (c.getD ⟨j, [], []⟩).new ++ [y[j]]⟩) (by omega) hi (by omega) (by omega) (by omega)
        (fun h' e => by cases e; simp [Hk.size]; omega)
      exact this
    by_cases h1 : i < x.length
    · by_cases h2 : j < y.length
      · by_cases h3 : x[i] = y[j]
        · have ew : walk (x.drop i) (y.drop j) j c = c.toList ++ walk (x.drop (i + 1)) (y.drop (j + 1)) (j + 1) none := by
            rw [List.drop_eq_getElem_cons h1, List.drop_eq_getElem_cons h2, walk, if_pos h3]
          rw [ew]
          cases c with
          | none =>
            rw [show hd ((none : Option (Hk ByteArray)).getD ⟨j, [], []⟩) = (((j : Nat) : Int), [], [], ()) from rfl, L13_keep0 N n x y out i j j [] [] hx hy (by omega) (by simp) (by simp) h1 h2 h3 rfl]
            have := ih (i + 1) (j + 1) n out none (by omega) (by omega) (by omega) (by omega) (by omega) (fun h' e => by cases e)
            simpa [hd] using this
          | some h =>
            obtain ⟨k1, k2, k3⟩ := hc h rfl
            rw [show hd ((some h).getD ⟨j, [], []⟩) = ((h.at_ : Int), h.old, h.new, ()) from rfl, L13_keep1 N n x y out i j h.at_ h.old h.new hx hy (by omega) (by omega) (by omega) h1 h2 h3 k1]
            have := ih (i + 1) (j + 1) n (out ++ [hd h]) none (by omega) (by omega) (by omega) (by omega) (by simp; omega) (fun h' e => by cases e)
            simpa [hd] using this
        · by_cases h4 : K (x.drop i) (y.drop (j + 1)) ≤ K (x.drop (i + 1)) (y.drop j)
          · refine drop h1 (fun _ => rfl) (L13_drop2 N n x y out i j _ _ _ hx hy (by omega) (by omega) (by omega) h1 h2 h3 h4) ?_
            rw [List.drop_eq_getElem_cons h1, List.drop_eq_getElem_cons h2] at h4 ⊢
            rw [walk, if_neg h3, if_pos h4]
          · refine ins h2 (L13_ins2 N n x y out i j _ _ _ hx hy (by omega) (by omega) (by omega) h1 h2 h3 h4) ?_
            rw [List.drop_eq_getElem_cons h1, List.drop_eq_getElem_cons h2] at h4 ⊢
            rw [walk, if_neg h3, if_neg h4]
      · have ej : j = y.length := by omega
        refine drop h1 (fun _ => rfl) (L13_drop1 N n x y out i j _ _ _ hx hy (by omega) (by omega) (by omega) h1 ej) ?_
        rw [List.drop_eq_getElem_cons h1, List.drop_eq_nil_of_le (show y.length ≤ j by omega), walk]
    · have ei : i = x.length := by omega
      by_cases h2 : ¬ j < y.length
      · have ej : j = y.length := by omega
        subst ei; subst ej
        exact fin n out c ho hc
      have h2 : j < y.length := by omega
      refine ins h2 (L13_ins1 N n x y out i j _ _ _ hx hy (by omega) (by omega) (by omega) ei h2) ?_
      rw [List.drop_eq_nil_of_le (show x.length ≤ i by omega), List.drop_eq_getElem_cons h2, walk]

def hunks (x y : Ls) : List Hd := (diff x y).map hd

theorem e13 (x y : Ls) (hx : x.length ≤ 1000) (hy : y.length ≤ 1000) (N : Nat) (hN : x.length + y.length < N) : g13 N (x, y, ()) = some (hunks x y, ()) := by
  unfold g13
  rw [show g14 N N ((x, y, ()).1, (x, y, ()).2.1, ()) = some (tabK x y, ()) from e14 y hy N (by omega) x N hx (by omega)]
  obtain ⟨out, b0, b1, b2, h1, h2, h3, h4, h5⟩ := L13_ev N x y hx hy _ 0 0 N [] none (Nat.le_refl _) (by omega) (by omega) (by omega) (by simp) (fun h e => by cases e)
  have h1' : L13 N N ((x, y, tabK x y, [], (), (0 : Int), (0 : Int), ()), (((0 : Int), [], [], ()), ())) = _ := h1
  have num : (2 : Nat) ^ 40 = 1099511627776 := rfl
  simp only [List.drop_zero, List.nil_append] at h2
  have h2' : out ++ (if 0 < b1.length + b2.length then [((b0, b1, b2, ()) : Hd)] else []) = hunks x y := h2
  rw [← h2']
  by_cases hs : 0 < b1.length + b2.length
  · rw [if_pos hs]
    repeat first
      | simp (disch := omega) only [h1', ↓ite_dec, ↓ite_ndec, ↓if_pos, ite_dec', ite_ndec', ite_pos', w64, num, List.length_cons, List.length_nil, Option.bind_some, Ctl.elim, if_true]
      | dsimp only [Ty.den, Sh.den]
  · rw [if_neg hs]
    repeat first
      | simp (disch := omega) only [h1', ↓ite_dec, ↓ite_ndec, ↓if_pos, ite_dec', ite_ndec', ite_pos', w64, num, List.length_cons, List.length_nil, Option.bind_some, Ctl.elim, if_true, List.append_nil]
      | dsimp only [Ty.den, Sh.den]

end Go.Ev.Pl
