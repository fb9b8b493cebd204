/- Part of a proof: see the last text of the claim. -/
import Derived.Test.YthfkhokmgolabaaDoorFmPrim
import Derived.Test.YthfkhokmgolabaaDoorProg
import Derived.KernelRfl
set_option linter.unusedVariables false
namespace Go.Fx.Tryd
open Go Go.Fm Go.Proofs
/-- guerdon/guerdonsame.Strings -/
def c10 : FC :=
  (.seq (.reg none [⟨4, (.op (.mv (.k (.bool false)))), none⟩] [4])
  (.seq (.seq (.reg none [⟨6, (.op (.mv (.t 0))), none⟩, ⟨7, (.op (.len (.t 6))), none⟩, ⟨8, (.op (.mv (.t 1))), none⟩, ⟨9, (.op (.len (.t 8))), none⟩, ⟨10, (.op (.bin .neq (.t 7) (.t 9))), none⟩] [6, 7, 8, 9])
  (.cond (.t 10)
    (.seq (.reg none [⟨4, (.op (.mv (.k (.bool false)))), none⟩] [0, 1, 10])
    .ret)
    .skip))
  (.seq (.seq (.reg none [⟨5, (.op (.mv (.k (.int .i64 0)))), none⟩] [10])
  (.block 0 (.loop (.seq (.seq (.reg none [⟨11, (.op (.mv (.t 5))), none⟩, ⟨12, (.op (.mv (.t 0))), none⟩, ⟨13, (.op (.len (.t 12))), none⟩, ⟨14, (.op (.bin .lss (.t 11) (.t 13))), none⟩, ⟨15, (.op (.mv (.t 14))), none⟩, ⟨16, (.op (.mv (.t 5))), some (15, true)⟩, ⟨17, (.op (.mv (.t 1))), some (15, true)⟩, ⟨18, (.op (.len (.t 17))), some (15, true)⟩, ⟨19, (.op (.bin .lss (.t 16) (.t 18))), some (15, true)⟩, ⟨20, (.op (.pick (.t 15) (.t 19) (.k (.bool false)))), none⟩] [11, 12, 13, 14, 15, 16, 17, 18, 19])
      (.cond (.t 20)
        .skip
        (.exit 0)))
      (.seq (.block 1 (.seq (.reg (some 9) [⟨23, (.op (.mv (.t 0))), none⟩, ⟨24, (.op (.mv (.t 5))), none⟩, ⟨25, (.op (.ia (.t 23) (.t 24) 1)), none⟩, ⟨26, (.op (.load (.t 25) 1 false)), none⟩, ⟨27, (.op (.mv (.t 1))), none⟩, ⟨28, (.op (.mv (.t 5))), none⟩, ⟨29, (.op (.ia (.t 27) (.t 28) 1)), none⟩, ⟨30, (.op (.load (.t 29) 1 false)), none⟩, ⟨31, (.op (.bin .neq (.t 26) (.t 30))), none⟩] [20, 23, 24, 25, 26, 27, 28, 29, 30])
        (.cond (.t 31)
          (.seq (.reg none [⟨4, (.op (.mv (.k (.bool false)))), none⟩] [0, 1, 5, 31])
          .ret)
          .skip)))
      (.reg none [⟨21, (.op (.mv (.t 5))), none⟩, ⟨22, (.op (.bin .add (.t 21) (.k (.int .i64 1)))), none⟩, ⟨5, (.op (.mv (.t 22))), none⟩] [21, 22, 31]))))))
  (.seq (.reg none [⟨4, (.op (.mv (.k (.bool true)))), none⟩] [0, 1, 5, 20])
  .ret))))
theorem k10 : fnOk Tryd.prog Tryd.f10 c10 32 2 [.t 4] = true := by kernel_rfl
/-- guerdon/report.scopeAt -/
def c24 : FC :=
  (.seq (.reg none [⟨2, (.op (.box (.t 0))), none⟩, ⟨4, (.op (.alloc [(.str []), (.int .i64 0), (.sl true []), (.sl true []), (.sl true [])])), none⟩, ⟨5, (.op (.mv (.k (.bool false)))), none⟩] [0, 5])
  (.seq (.seq (.reg none [⟨6, (.op (.mv (.t 1))), none⟩, ⟨7, (.op (.bin .lss (.t 6) (.k (.int .i64 0)))), none⟩, ⟨8, (.op (.mv (.t 7))), none⟩, ⟨9, (.op (.mv (.t 1))), some (8, false)⟩, ⟨10, (.op (.fa (.t 2) 2)), some (8, false)⟩, ⟨11, (.op (.load (.t 10) 1 false)), some (8, false)⟩, ⟨12, (.op (.len (.t 11))), some (8, false)⟩, ⟨13, (.op (.bin .geq (.t 9) (.t 12))), some (8, false)⟩, ⟨14, (.op (.pick (.t 8) (.k (.bool true)) (.t 13))), none⟩] [6, 7, 8, 9, 10, 11, 12, 13])
  (.cond (.t 14)
    (.seq (.reg none [⟨15, (.op (.build [(.str []), (.int .i64 0), (.sl true []), (.sl true []), (.sl true [])] [(1, 1)] [.k (.int .i64 (-1))])), none⟩, ⟨0, (.op (.store (.t 4) (.t 15) 5 true)), none⟩, ⟨5, (.op (.mv (.k (.bool false)))), none⟩] [1, 2, 14, 15])
    .ret)
    .skip))
  (.seq (.reg none [⟨16, (.op (.fa (.t 2) 2)), none⟩, ⟨17, (.op (.load (.t 16) 1 false)), none⟩, ⟨18, (.op (.mv (.t 1))), none⟩, ⟨19, (.op (.ia (.t 17) (.t 18) 5)), none⟩, ⟨20, (.op (.load (.t 19) 5 true)), none⟩, ⟨0, (.op (.store (.t 4) (.t 20) 5 true)), none⟩, ⟨5, (.op (.mv (.k (.bool true)))), none⟩] [1, 2, 14, 16, 17, 18, 19, 20])
  .ret)))
theorem k24 : fnOk Tryd.prog Tryd.f24 c24 21 2 [.c 4 5 true, .t 5] = true := by kernel_rfl
/-- guerdon/report.memberScope -/
def c26 : FC :=
  (.seq (.reg none [⟨2, (.op (.box (.t 0))), none⟩, ⟨4, (.op (.alloc [(.str []), (.int .i64 0), (.sl true []), (.sl true []), (.sl true [])])), none⟩] [0])
  (.seq (.reg none [⟨10, (.op (.load (.t 2) 3 true)), none⟩, ⟨11, (.op (.mv (.t 1))), none⟩, ⟨12, (.callL 24 [.t 10, .t 11]), none⟩, ⟨9, (.op (.mvP true (.t 12))), none⟩, ⟨13, (.op (.extract 9 0)), none⟩, ⟨14, (.op (.extract 9 1)), none⟩, ⟨5, (.op (.alloc [(.str []), (.int .i64 0), (.sl true []), (.sl true []), (.sl true [])])), none⟩, ⟨0, (.op (.store (.t 5) (.t 13) 5 true)), none⟩, ⟨6, (.op (.mvP true (.t 14))), none⟩] [1, 9, 10, 11, 12, 13, 14])
  (.seq (.seq (.reg none [⟨15, (.op (.mv (.t 6))), none⟩, ⟨16, (.op (.un .not (.t 15))), none⟩] [6, 15])
  (.cond (.t 16)
    (.seq (.reg none [⟨17, (.op (.load (.t 5) 5 true)), none⟩, ⟨0, (.op (.store (.t 4) (.t 17) 5 true)), none⟩] [2, 5, 16, 17])
    .ret)
    .skip))
  (.seq (.reg none [⟨19, (.op (.load (.t 2) 3 true)), none⟩, ⟨20, (.op (.fa (.t 5) 1)), none⟩, ⟨21, (.op (.load (.t 20) 1 false)), none⟩, ⟨22, (.callL 24 [.t 19, .t 21]), none⟩, ⟨18, (.op (.mvP true (.t 22))), none⟩, ⟨23, (.op (.extract 18 0)), none⟩, ⟨24, (.op (.extract 18 1)), none⟩, ⟨7, (.op (.alloc [(.str []), (.int .i64 0), (.sl true []), (.sl true []), (.sl true [])])), none⟩, ⟨0, (.op (.store (.t 7) (.t 23) 5 true)), none⟩, ⟨8, (.op (.mvP true (.t 24))), none⟩] [2, 5, 8, 16, 18, 19, 20, 21, 22, 23, 24])
  (.seq (.reg none [⟨25, (.op (.load (.t 7) 5 true)), none⟩, ⟨0, (.op (.store (.t 4) (.t 25) 5 true)), none⟩] [7, 25])
  .ret)))))
theorem k26 : fnOk Tryd.prog Tryd.f26 c26 26 2 [.c 4 5 true] = true := by kernel_rfl
/-- guerdon/numtext.FormatInt -/
def c27 : FC :=
  (.seq (.reg none [⟨2, (.op (.mv (.k (.str [])))), none⟩] [2])
  (.seq (.reg none [⟨3, (.op (.mv (.t 0))), none⟩, ⟨4, (.callL 54 [.t 3]), none⟩, ⟨2, (.op (.mvP true (.t 4))), none⟩] [0, 3, 4])
  .ret))
theorem k27 : fnOk Tryd.prog Tryd.f27 c27 5 1 [.t 2] = true := by kernel_rfl
/-- guerdon/guerdonref54.scopeAt -/
def c28 : FC :=
  (.seq (.reg none [⟨2, (.op (.box (.t 0))), none⟩, ⟨4, (.op (.alloc [(.str []), (.int .i64 0), (.sl true []), (.sl true []), (.sl true [])])), none⟩] [0])
  (.seq (.seq (.reg none [⟨5, (.op (.mv (.t 1))), none⟩, ⟨6, (.op (.bin .lss (.t 5) (.k (.int .i64 0)))), none⟩, ⟨7, (.op (.mv (.t 6))), none⟩, ⟨8, (.op (.mv (.t 1))), some (7, false)⟩, ⟨9, (.op (.fa (.t 2) 2)), some (7, false)⟩, ⟨10, (.op (.load (.t 9) 1 false)), some (7, false)⟩, ⟨11, (.op (.len (.t 10))), some (7, false)⟩, ⟨12, (.op (.bin .geq (.t 8) (.t 11))), some (7, false)⟩, ⟨13, (.op (.pick (.t 7) (.k (.bool true)) (.t 12))), none⟩] [5, 6, 7, 8, 9, 10, 11, 12])
  (.cond (.t 13)
    (.seq (.reg none [⟨14, (.op (.build [(.str []), (.int .i64 0), (.sl true []), (.sl true []), (.sl true [])] [(1, 1)] [.k (.int .i64 (-1))])), none⟩, ⟨0, (.op (.store (.t 4) (.t 14) 5 true)), none⟩] [1, 2, 13, 14])
    .ret)
    .skip))
  (.seq (.reg none [⟨15, (.op (.fa (.t 2) 2)), none⟩, ⟨16, (.op (.load (.t 15) 1 false)), none⟩, ⟨17, (.op (.mv (.t 1))), none⟩, ⟨18, (.op (.ia (.t 16) (.t 17) 5)), none⟩, ⟨19, (.op (.load (.t 18) 5 true)), none⟩, ⟨0, (.op (.store (.t 4) (.t 19) 5 true)), none⟩] [1, 2, 13, 15, 16, 17, 18, 19])
  .ret)))
theorem k28 : fnOk Tryd.prog Tryd.f28 c28 20 2 [.c 4 5 true] = true := by kernel_rfl
/-- guerdon/guerdonref01.FormatInt -/
def c30 : FC :=
  (.seq (.reg none [⟨2, (.op (.mv (.k (.str [])))), none⟩] [2])
  (.seq (.seq (.reg none [⟨3, (.op (.mv (.t 0))), none⟩, ⟨4, (.op (.bin .lss (.t 3) (.k (.int .i64 0)))), none⟩] [3])
  (.cond (.t 4)
    (.seq (.reg none [⟨5, (.op (.mv (.t 0))), none⟩, ⟨6, (.op (.bin .add (.t 5) (.k (.int .i64 1)))), none⟩, ⟨7, (.op (.un .neg (.t 6))), none⟩, ⟨8, (.op (.cv .u64 (.t 7))), none⟩, ⟨9, (.op (.bin .add (.t 8) (.k (.int .u64 1)))), none⟩, ⟨10, (.callL 55 [.t 9]), none⟩, ⟨11, (.op (.bin .add (.k (.str [45])) (.t 10))), none⟩, ⟨2, (.op (.mv (.t 11))), none⟩] [0, 4, 5, 6, 7, 8, 9, 10, 11])
    .ret)
    .skip))
  (.seq (.reg none [⟨12, (.op (.mv (.t 0))), none⟩, ⟨13, (.op (.cv .u64 (.t 12))), none⟩, ⟨14, (.callL 55 [.t 13]), none⟩, ⟨2, (.op (.mvP true (.t 14))), none⟩] [0, 4, 12, 13, 14])
  .ret)))
theorem k30 : fnOk Tryd.prog Tryd.f30 c30 15 1 [.t 2] = true := by kernel_rfl
/-- guerdon/report.defName -/
def c31 : FC :=
  (.seq (.reg none [⟨2, (.op (.box (.t 0))), none⟩, ⟨4, (.op (.mv (.k (.str [])))), none⟩] [0, 4])
  (.seq (.seq (.reg none [⟨5, (.op (.mv (.t 1))), none⟩, ⟨6, (.op (.bin .lss (.t 5) (.k (.int .i64 0)))), none⟩, ⟨7, (.op (.mv (.t 6))), none⟩, ⟨8, (.op (.mv (.t 1))), some (7, false)⟩, ⟨9, (.op (.fa (.t 2) 3)), some (7, false)⟩, ⟨10, (.op (.load (.t 9) 1 false)), some (7, false)⟩, ⟨11, (.op (.len (.t 10))), some (7, false)⟩, ⟨12, (.op (.bin .geq (.t 8) (.t 11))), some (7, false)⟩, ⟨13, (.op (.pick (.t 7) (.k (.bool true)) (.t 12))), none⟩] [5, 6, 7, 8, 9, 10, 11, 12])
  (.cond (.t 13)
    (.seq (.reg none [⟨4, (.op (.mv (.k (.str [63])))), none⟩] [1, 2, 13])
    .ret)
    .skip))
  (.seq (.reg none [⟨14, (.op (.fa (.t 2) 3)), none⟩, ⟨15, (.op (.load (.t 14) 1 false)), none⟩, ⟨16, (.op (.mv (.t 1))), none⟩, ⟨17, (.op (.ia (.t 15) (.t 16) 3)), none⟩, ⟨18, (.op (.fa (.t 17) 0)), none⟩, ⟨19, (.op (.load (.t 18) 1 false)), none⟩, ⟨4, (.op (.mv (.t 19))), none⟩] [1, 2, 13, 14, 15, 16, 17, 18, 19])
  .ret)))
theorem k31 : fnOk Tryd.prog Tryd.f31 c31 20 2 [.t 4] = true := by kernel_rfl
/-- guerdon/report.ruleName -/
def c32 : FC :=
  (.seq (.reg none [⟨2, (.op (.box (.t 0))), none⟩, ⟨4, (.op (.mv (.k (.str [])))), none⟩] [0, 4])
  (.seq (.seq (.reg none [⟨5, (.op (.mv (.t 1))), none⟩, ⟨6, (.op (.bin .lss (.t 5) (.k (.int .i64 0)))), none⟩, ⟨7, (.op (.mv (.t 6))), none⟩, ⟨8, (.op (.mv (.t 1))), some (7, false)⟩, ⟨9, (.op (.fa (.t 2) 4)), some (7, false)⟩, ⟨10, (.op (.load (.t 9) 1 false)), some (7, false)⟩, ⟨11, (.op (.len (.t 10))), some (7, false)⟩, ⟨12, (.op (.bin .geq (.t 8) (.t 11))), some (7, false)⟩, ⟨13, (.op (.pick (.t 7) (.k (.bool true)) (.t 12))), none⟩] [5, 6, 7, 8, 9, 10, 11, 12])
  (.cond (.t 13)
    (.seq (.reg none [⟨4, (.op (.mv (.k (.str [63])))), none⟩] [1, 2, 13])
    .ret)
    .skip))
  (.seq (.reg none [⟨14, (.op (.fa (.t 2) 4)), none⟩, ⟨15, (.op (.load (.t 14) 1 false)), none⟩, ⟨16, (.op (.mv (.t 1))), none⟩, ⟨17, (.op (.ia (.t 15) (.t 16) 9)), none⟩, ⟨18, (.op (.fa (.t 17) 0)), none⟩, ⟨19, (.op (.load (.t 18) 1 false)), none⟩, ⟨4, (.op (.mv (.t 19))), none⟩] [1, 2, 13, 14, 15, 16, 17, 18, 19])
  .ret)))
theorem k32 : fnOk Tryd.prog Tryd.f32 c32 20 2 [.t 4] = true := by kernel_rfl
/-- guerdon/guerdonref54.defName -/
def c34 : FC :=
  (.seq (.reg none [⟨2, (.op (.box (.t 0))), none⟩, ⟨4, (.op (.mv (.k (.str [])))), none⟩] [0, 4])
  (.seq (.seq (.reg none [⟨5, (.op (.mv (.t 1))), none⟩, ⟨6, (.op (.bin .lss (.t 5) (.k (.int .i64 0)))), none⟩, ⟨7, (.op (.mv (.t 6))), none⟩, ⟨8, (.op (.mv (.t 1))), some (7, false)⟩, ⟨9, (.op (.fa (.t 2) 3)), some (7, false)⟩, ⟨10, (.op (.load (.t 9) 1 false)), some (7, false)⟩, ⟨11, (.op (.len (.t 10))), some (7, false)⟩, ⟨12, (.op (.bin .geq (.t 8) (.t 11))), some (7, false)⟩, ⟨13, (.op (.pick (.t 7) (.k (.bool true)) (.t 12))), none⟩] [5, 6, 7, 8, 9, 10, 11, 12])
  (.cond (.t 13)
    (.seq (.reg none [⟨4, (.op (.mv (.k (.str [63])))), none⟩] [1, 2, 13])
    .ret)
    .skip))
  (.seq (.reg none [⟨14, (.op (.fa (.t 2) 3)), none⟩, ⟨15, (.op (.load (.t 14) 1 false)), none⟩, ⟨16, (.op (.mv (.t 1))), none⟩, ⟨17, (.op (.ia (.t 15) (.t 16) 3)), none⟩, ⟨18, (.op (.fa (.t 17) 0)), none⟩, ⟨19, (.op (.load (.t 18) 1 false)), none⟩, ⟨4, (.op (.mv (.t 19))), none⟩] [1, 2, 13, 14, 15, 16, 17, 18, 19])
  .ret)))
theorem k34 : fnOk Tryd.prog Tryd.f34 c34 20 2 [.t 4] = true := by kernel_rfl
/-- guerdon/guerdonref54.ruleName -/
def c35 : FC :=
  (.seq (.reg none [⟨2, (.op (.box (.t 0))), none⟩, ⟨4, (.op (.mv (.k (.str [])))), none⟩] [0, 4])
  (.seq (.seq (.reg none [⟨5, (.op (.mv (.t 1))), none⟩, ⟨6, (.op (.bin .lss (.t 5) (.k (.int .i64 0)))), none⟩, ⟨7, (.op (.mv (.t 6))), none⟩, ⟨8, (.op (.mv (.t 1))), some (7, false)⟩, ⟨9, (.op (.fa (.t 2) 4)), some (7, false)⟩, ⟨10, (.op (.load (.t 9) 1 false)), some (7, false)⟩, ⟨11, (.op (.len (.t 10))), some (7, false)⟩, ⟨12, (.op (.bin .geq (.t 8) (.t 11))), some (7, false)⟩, ⟨13, (.op (.pick (.t 7) (.k (.bool true)) (.t 12))), none⟩] [5, 6, 7, 8, 9, 10, 11, 12])
  (.cond (.t 13)
    (.seq (.reg none [⟨4, (.op (.mv (.k (.str [63])))), none⟩] [1, 2, 13])
    .ret)
    .skip))
  (.seq (.reg none [⟨14, (.op (.fa (.t 2) 4)), none⟩, ⟨15, (.op (.load (.t 14) 1 false)), none⟩, ⟨16, (.op (.mv (.t 1))), none⟩, ⟨17, (.op (.ia (.t 15) (.t 16) 9)), none⟩, ⟨18, (.op (.fa (.t 17) 0)), none⟩, ⟨19, (.op (.load (.t 18) 1 false)), none⟩, ⟨4, (.op (.mv (.t 19))), none⟩] [1, 2, 13, 14, 15, 16, 17, 18, 19])
  .ret)))
theorem k35 : fnOk Tryd.prog Tryd.f35 c35 20 2 [.t 4] = true := by kernel_rfl
/-- guerdon/report.monthText -/
def c36 : FC :=
  (.seq (.reg none [⟨2, (.op (.mv (.k (.str [])))), none⟩] [2])
  (.seq (.reg none [⟨4, (.op (.mv (.t 0))), none⟩, ⟨5, (.callL 59 [.t 4]), none⟩, ⟨3, (.op (.mvP true (.t 5))), none⟩] [0, 4, 5])
  (.seq (.reg none [⟨6, (.op (.mv (.t 3))), none⟩, ⟨7, (.op (.mv (.t 3))), none⟩, ⟨8, (.op (.bin .neq (.t 7) (.k (.str [])))), none⟩, ⟨9, (.callL 50 [.t 6, .t 8]), none⟩, ⟨2, (.op (.mvP true (.t 9))), none⟩] [3, 6, 7, 8, 9])
  .ret)))
theorem k36 : fnOk Tryd.prog Tryd.f36 c36 10 1 [.t 2] = true := by kernel_rfl
/-- guerdon/report.amount -/
def c37 : FC :=
  (.seq (.reg none [⟨2, (.op (.mv (.k (.str [])))), none⟩] [2])
  (.seq (.reg none [⟨3, (.op (.mv (.t 0))), none⟩, ⟨4, (.callL 60 [.t 3, .k (.int .i64 2)]), none⟩, ⟨2, (.op (.mvP true (.t 4))), none⟩] [0, 3, 4])
  .ret))
theorem k37 : fnOk Tryd.prog Tryd.f37 c37 5 1 [.t 2] = true := by kernel_rfl
/-- guerdon/balance.Arrears -/
def c38 : FC :=
  (.seq (.reg none [⟨1, (.op (.box (.t 0))), none⟩, ⟨2, (.op (.mv (.k (.int .i64 0)))), none⟩] [0, 2])
  (.seq (.reg none [⟨3, (.op (.fa (.t 1) 1)), none⟩, ⟨4, (.op (.load (.t 3) 1 false)), none⟩, ⟨5, (.op (.fa (.t 1) 2)), none⟩, ⟨6, (.op (.load (.t 5) 1 false)), none⟩, ⟨7, (.op (.bin .sub (.t 4) (.t 6))), none⟩, ⟨8, (.op (.mm true (.t 7) (.k (.int .i64 0)))), none⟩, ⟨2, (.op (.mvP true (.t 8))), none⟩] [1, 3, 4, 5, 6, 7, 8])
  .ret))
theorem k38 : fnOk Tryd.prog Tryd.f38 c38 9 1 [.t 2] = true := by kernel_rfl
/-- guerdon/balance.Overpayment -/
def c39 : FC :=
  (.seq (.reg none [⟨1, (.op (.box (.t 0))), none⟩, ⟨2, (.op (.mv (.k (.int .i64 0)))), none⟩] [0, 2])
  (.seq (.reg none [⟨3, (.op (.fa (.t 1) 2)), none⟩, ⟨4, (.op (.load (.t 3) 1 false)), none⟩, ⟨5, (.op (.fa (.t 1) 1)), none⟩, ⟨6, (.op (.load (.t 5) 1 false)), none⟩, ⟨7, (.op (.bin .sub (.t 4) (.t 6))), none⟩, ⟨8, (.op (.fa (.t 1) 3)), none⟩, ⟨9, (.op (.load (.t 8) 1 false)), none⟩, ⟨10, (.op (.bin .sub (.t 7) (.t 9))), none⟩, ⟨11, (.op (.mm true (.t 10) (.k (.int .i64 0)))), none⟩, ⟨2, (.op (.mvP true (.t 11))), none⟩] [1, 3, 4, 5, 6, 7, 8, 9, 10, 11])
  .ret))
theorem k39 : fnOk Tryd.prog Tryd.f39 c39 12 1 [.t 2] = true := by kernel_rfl
/-- guerdon/guerdonref54.monthText -/
def c40 : FC :=
  (.seq (.reg none [⟨2, (.op (.mv (.k (.str [])))), none⟩] [2])
  (.seq (.reg none [⟨4, (.op (.mv (.t 0))), none⟩, ⟨5, (.callL 61 [.t 4]), none⟩, ⟨3, (.op (.mvP true (.t 5))), none⟩] [0, 4, 5])
  (.seq (.seq (.reg none [⟨6, (.op (.mv (.t 3))), none⟩, ⟨7, (.op (.bin .eql (.t 6) (.k (.str [])))), none⟩] [6])
  (.cond (.t 7)
    (.seq (.reg none [⟨2, (.op (.mv (.k (.str [63])))), none⟩] [3, 7])
    .ret)
    .skip))
  (.seq (.reg none [⟨8, (.op (.mv (.t 3))), none⟩, ⟨2, (.op (.mv (.t 8))), none⟩] [3, 7, 8])
  .ret))))
theorem k40 : fnOk Tryd.prog Tryd.f40 c40 9 1 [.t 2] = true := by kernel_rfl
/-- guerdon/guerdonref54.amount -/
def c41 : FC :=
  (.seq (.reg none [⟨2, (.op (.mv (.k (.str [])))), none⟩] [2])
  (.seq (.reg none [⟨3, (.op (.mv (.t 0))), none⟩, ⟨4, (.callL 62 [.t 3, .k (.int .i64 2)]), none⟩, ⟨2, (.op (.mvP true (.t 4))), none⟩] [0, 3, 4])
  .ret))
theorem k41 : fnOk Tryd.prog Tryd.f41 c41 5 1 [.t 2] = true := by kernel_rfl
/-- guerdon/guerdonref38.Arrears -/
def c42 : FC :=
  (.seq (.reg none [⟨1, (.op (.box (.t 0))), none⟩, ⟨2, (.op (.mv (.k (.int .i64 0)))), none⟩] [0, 2])
  (.seq (.reg none [⟨3, (.op (.fa (.t 1) 1)), none⟩, ⟨4, (.op (.load (.t 3) 1 false)), none⟩, ⟨5, (.op (.fa (.t 1) 2)), none⟩, ⟨6, (.op (.load (.t 5) 1 false)), none⟩, ⟨7, (.op (.bin .sub (.t 4) (.t 6))), none⟩, ⟨8, (.op (.mm true (.t 7) (.k (.int .i64 0)))), none⟩, ⟨2, (.op (.mvP true (.t 8))), none⟩] [1, 3, 4, 5, 6, 7, 8])
  .ret))
theorem k42 : fnOk Tryd.prog Tryd.f42 c42 9 1 [.t 2] = true := by kernel_rfl
/-- guerdon/guerdonref38.Overpayment -/
def c43 : FC :=
  (.seq (.reg none [⟨1, (.op (.box (.t 0))), none⟩, ⟨2, (.op (.mv (.k (.int .i64 0)))), none⟩] [0, 2])
  (.seq (.reg none [⟨3, (.op (.fa (.t 1) 2)), none⟩, ⟨4, (.op (.load (.t 3) 1 false)), none⟩, ⟨5, (.op (.fa (.t 1) 1)), none⟩, ⟨6, (.op (.load (.t 5) 1 false)), none⟩, ⟨7, (.op (.bin .sub (.t 4) (.t 6))), none⟩, ⟨8, (.op (.fa (.t 1) 3)), none⟩, ⟨9, (.op (.load (.t 8) 1 false)), none⟩, ⟨10, (.op (.bin .sub (.t 7) (.t 9))), none⟩, ⟨11, (.op (.mm true (.t 10) (.k (.int .i64 0)))), none⟩, ⟨2, (.op (.mvP true (.t 11))), none⟩] [1, 3, 4, 5, 6, 7, 8, 9, 10, 11])
  .ret))
theorem k43 : fnOk Tryd.prog Tryd.f43 c43 12 1 [.t 2] = true := by kernel_rfl
/-- guerdon/guerdonref01.clamp -/
def c44 : FC :=
  (.seq (.reg none [⟨2, (.op (.mv (.k (.int .i64 0)))), none⟩] [2])
  (.seq (.reg none [⟨3, (.op (.mv (.t 0))), none⟩, ⟨4, (.op (.mm true (.t 3) (.k (.int .i64 0)))), none⟩, ⟨5, (.op (.mm false (.t 4) (.k (.int .i64 9)))), none⟩, ⟨2, (.op (.mvP true (.t 5))), none⟩] [0, 3, 4, 5])
  .ret))
theorem k44 : fnOk Tryd.prog Tryd.f44 c44 6 1 [.t 2] = true := by kernel_rfl
/-- guerdon/guerdonref01.sign -/
def c46 : FC :=
  (.seq (.reg none [⟨2, (.op (.mv (.k (.str [])))), none⟩, ⟨3, (.op (.mv (.k (.bool false)))), none⟩] [2, 3])
  (.seq (.seq (.reg none [⟨4, (.op (.mv (.t 0))), none⟩, ⟨5, (.op (.lenS (.t 4))), none⟩, ⟨6, (.op (.bin .gtr (.t 5) (.k (.int .i64 0)))), none⟩, ⟨7, (.op (.mv (.t 6))), none⟩, ⟨8, (.op (.mv (.t 0))), some (7, true)⟩, ⟨9, (.op (.index (.t 8) (.k (.int .i64 0)))), some (7, true)⟩, ⟨10, (.op (.bin .eql (.t 9) (.k (.int .u8 45)))), some (7, true)⟩, ⟨11, (.op (.pick (.t 7) (.t 10) (.k (.bool false)))), none⟩] [4, 5, 6, 7, 8, 9, 10])
  (.cond (.t 11)
    (.seq (.reg none [⟨12, (.op (.mv (.t 0))), none⟩, ⟨13, (.op (.subStr (.t 12) (some (.k (.int .i64 1))) none)), none⟩, ⟨2, (.op (.mv (.t 13))), none⟩, ⟨3, (.op (.mv (.k (.bool true)))), none⟩] [0, 11, 12, 13])
    .ret)
    .skip))
  (.seq (.reg none [⟨14, (.op (.mv (.t 0))), none⟩, ⟨2, (.op (.mv (.t 14))), none⟩, ⟨3, (.op (.mv (.k (.bool false)))), none⟩] [0, 11, 14])
  .ret)))
theorem k46 : fnOk Tryd.prog Tryd.f46 c46 15 1 [.t 2, .t 3] = true := by kernel_rfl
/-- guerdon/guerdonref01.allDigits -/
def c47 : FC :=
  (.seq (.reg none [⟨2, (.op (.mv (.k (.bool false)))), none⟩] [2])
  (.seq (.seq (.reg none [⟨3, (.op (.mv (.k (.int .i64 0)))), none⟩] [])
  (.block 0 (.loop (.seq (.seq (.reg none [⟨4, (.op (.mv (.t 3))), none⟩, ⟨5, (.op (.mv (.t 0))), none⟩, ⟨6, (.op (.lenS (.t 5))), none⟩, ⟨7, (.op (.bin .lss (.t 4) (.t 6))), none⟩] [4, 5, 6])
      (.cond (.t 7)
        .skip
        (.exit 0)))
      (.seq (.block 1 (.seq (.reg none [⟨10, (.op (.mv (.t 0))), none⟩, ⟨11, (.op (.mv (.t 3))), none⟩, ⟨12, (.op (.index (.t 10) (.t 11))), none⟩, ⟨13, (.op (.bin .lss (.t 12) (.k (.int .u8 48)))), none⟩, ⟨14, (.op (.mv (.t 13))), none⟩, ⟨15, (.op (.mv (.t 0))), some (14, false)⟩, ⟨16, (.op (.mv (.t 3))), some (14, false)⟩, ⟨17, (.op (.index (.t 15) (.t 16))), some (14, false)⟩, ⟨18, (.op (.bin .gtr (.t 17) (.k (.int .u8 57)))), some (14, false)⟩, ⟨19, (.op (.pick (.t 14) (.k (.bool true)) (.t 18))), none⟩] [7, 10, 11, 12, 13, 14, 15, 16, 17, 18])
        (.cond (.t 19)
          (.seq (.reg none [⟨2, (.op (.mv (.k (.bool false)))), none⟩] [0, 3, 19])
          .ret)
          .skip)))
      (.reg none [⟨8, (.op (.mv (.t 3))), none⟩, ⟨9, (.op (.bin .add (.t 8) (.k (.int .i64 1)))), none⟩, ⟨3, (.op (.mv (.t 9))), none⟩] [8, 9, 19]))))))
  (.seq (.reg none [⟨20, (.op (.mv (.t 0))), none⟩, ⟨21, (.op (.lenS (.t 20))), none⟩, ⟨22, (.op (.bin .gtr (.t 21) (.k (.int .i64 0)))), none⟩, ⟨2, (.op (.mv (.t 22))), none⟩] [0, 3, 7, 20, 21, 22])
  .ret)))
theorem k47 : fnOk Tryd.prog Tryd.f47 c47 23 1 [.t 2] = true := by kernel_rfl
/-- guerdon/guerdonref01.number -/
def c48 : FC :=
  (.seq (.reg none [⟨4, (.op (.mv (.k (.int .i64 0)))), none⟩, ⟨5, (.op (.mv (.k (.int .i64 0)))), none⟩] [4, 5])
  (.seq (.seq (.reg none [⟨8, (.op (.mv (.t 0))), none⟩, ⟨9, (.op (.lenS (.t 8))), none⟩, ⟨10, (.op (.bin .gtr (.t 9) (.k (.int .i64 19)))), none⟩] [8, 9])
  (.cond (.t 10)
    (.seq (.reg none [⟨4, (.op (.mv (.k (.int .i64 0)))), none⟩, ⟨5, (.op (.mv (.k (.int .i64 3)))), none⟩] [0, 1, 10])
    .ret)
    .skip))
  (.seq (.reg none [⟨6, (.op (.mv (.k (.int .u64 0)))), none⟩] [10])
  (.seq (.seq (.reg none [⟨7, (.op (.mv (.k (.int .i64 0)))), none⟩] [])
  (.block 0 (.loop (.seq (.seq (.reg none [⟨11, (.op (.mv (.t 7))), none⟩, ⟨12, (.op (.mv (.t 0))), none⟩, ⟨13, (.op (.lenS (.t 12))), none⟩, ⟨14, (.op (.bin .lss (.t 11) (.t 13))), none⟩] [11, 12, 13])
      (.cond (.t 14)
        .skip
        (.exit 0)))
      (.seq (.block 1 (.reg none [⟨17, (.op (.mv (.t 6))), none⟩, ⟨18, (.op (.bin .mul (.k (.int .u64 10)) (.t 17))), none⟩, ⟨19, (.op (.mv (.t 0))), none⟩, ⟨20, (.op (.mv (.t 7))), none⟩, ⟨21, (.op (.index (.t 19) (.t 20))), none⟩, ⟨22, (.op (.bin .sub (.t 21) (.k (.int .u8 48)))), none⟩, ⟨23, (.op (.cv .u64 (.t 22))), none⟩, ⟨24, (.op (.bin .add (.t 18) (.t 23))), none⟩, ⟨6, (.op (.mv (.t 24))), none⟩] [14, 17, 18, 19, 20, 21, 22, 23, 24]))
      (.reg none [⟨15, (.op (.mv (.t 7))), none⟩, ⟨16, (.op (.bin .add (.t 15) (.k (.int .i64 1)))), none⟩, ⟨7, (.op (.mv (.t 16))), none⟩] [15, 16]))))))
  (.seq (.seq (.reg none [⟨25, (.op (.mv (.t 6))), none⟩, ⟨26, (.op (.bin .gtr (.t 25) (.k (.int .u64 4611686018427387904)))), none⟩] [0, 7, 14, 25])
  (.cond (.t 26)
    (.seq (.reg none [⟨4, (.op (.mv (.k (.int .i64 0)))), none⟩, ⟨5, (.op (.mv (.k (.int .i64 3)))), none⟩] [1, 6, 26])
    .ret)
    .skip))
  (.seq (.seq (.reg none [⟨27, (.op (.mv (.t 1))), none⟩] [1, 26])
  (.cond (.t 27)
    (.seq (.reg none [⟨28, (.op (.mv (.t 6))), none⟩, ⟨29, (.op (.cv .i64 (.t 28))), none⟩, ⟨30, (.op (.un .neg (.t 29))), none⟩, ⟨4, (.op (.mv (.t 30))), none⟩, ⟨5, (.op (.mv (.k (.int .i64 0)))), none⟩] [6, 27, 28, 29, 30])
    .ret)
    .skip))
  (.seq (.reg none [⟨31, (.op (.mv (.t 6))), none⟩, ⟨32, (.op (.cv .i64 (.t 31))), none⟩, ⟨4, (.op (.mv (.t 32))), none⟩, ⟨5, (.op (.mv (.k (.int .i64 0)))), none⟩] [6, 27, 31, 32])
  .ret)))))))
theorem k48 : fnOk Tryd.prog Tryd.f48 c48 33 2 [.t 4, .t 5] = true := by kernel_rfl
/-- guerdon/report.or -/
def c50 : FC :=
  (.seq (.reg none [⟨4, (.op (.mv (.k (.str [])))), none⟩] [4])
  (.seq (.seq (.reg none [⟨5, (.op (.mv (.t 1))), none⟩, ⟨6, (.op (.un .not (.t 5))), none⟩] [1, 5])
  (.cond (.t 6)
    (.seq (.reg none [⟨4, (.op (.mv (.k (.str [63])))), none⟩] [0, 6])
    .ret)
    .skip))
  (.seq (.reg none [⟨7, (.op (.mv (.t 0))), none⟩, ⟨4, (.op (.mv (.t 7))), none⟩] [0, 6, 7])
  .ret)))
theorem k50 : fnOk Tryd.prog Tryd.f50 c50 8 2 [.t 4] = true := by kernel_rfl
/-- guerdon/report.kind -/
def c51 : FC :=
  (.seq (.reg none [⟨2, (.op (.mv (.k (.str [])))), none⟩] [2])
  (.seq (.seq (.reg none [⟨3, (.op (.mv (.t 0))), none⟩] [0])
  (.block 0 (.seq (.reg none [⟨5, (.op (.bin .eql (.t 3) (.k (.int .i64 1)))), none⟩, ⟨4, (.op (.mv (.t 5))), none⟩] [5])
    (.cond (.t 4)
      (.seq (.reg none [⟨2, (.op (.mv (.k (.str [112, 97, 121, 109, 101, 110, 116])))), none⟩] [3, 4])
      .ret)
      (.seq (.reg none [⟨7, (.op (.bin .eql (.t 3) (.k (.int .i64 2)))), none⟩, ⟨6, (.op (.mv (.t 7))), none⟩] [4, 7])
      (.cond (.t 6)
        (.seq (.reg none [⟨2, (.op (.mv (.k (.str [114, 101, 99, 111, 118, 101, 114, 121])))), none⟩] [3, 6])
        .ret)
        (.seq (.reg none [⟨9, (.op (.bin .eql (.t 3) (.k (.int .i64 3)))), none⟩, ⟨8, (.op (.mv (.t 9))), none⟩] [6, 9])
        (.cond (.t 8)
          (.seq (.reg none [⟨2, (.op (.mv (.k (.str [114, 101, 112, 97, 121, 109, 101, 110, 116])))), none⟩] [3, 8])
          .ret)
          (.seq (.reg none [⟨11, (.op (.bin .eql (.t 3) (.k (.int .i64 4)))), none⟩, ⟨10, (.op (.mv (.t 11))), none⟩] [3, 8, 11])
          (.cond (.t 10)
            (.seq (.reg none [⟨2, (.op (.mv (.k (.str [119, 97, 105, 118, 101, 114])))), none⟩] [10])
            .ret)
            .skip))))))))))
  (.seq (.reg none [⟨2, (.op (.mv (.k (.str [63])))), none⟩] [10])
  .ret)))
theorem k51 : fnOk Tryd.prog Tryd.f51 c51 12 1 [.t 2] = true := by kernel_rfl
/-- guerdon/guerdonref54.valueText -/
def c52 : FC :=
  (.seq (.reg none [⟨2, (.op (.box (.t 0))), none⟩, ⟨4, (.op (.mv (.k (.str [])))), none⟩] [0, 4])
  (.seq (.reg none [⟨8, (.op (.load (.t 2) 3 true)), none⟩, ⟨9, (.op (.mv (.t 1))), none⟩, ⟨10, (.callL 67 [.t 8, .t 9]), none⟩, ⟨7, (.op (.mvP true (.t 10))), none⟩, ⟨11, (.op (.extract 7 0)), none⟩, ⟨12, (.op (.extract 7 1)), none⟩, ⟨5, (.op (.mvP true (.t 11))), none⟩, ⟨6, (.op (.mvP true (.t 12))), none⟩] [1, 2, 7, 8, 9, 10, 11, 12])
  (.seq (.seq (.reg none [⟨13, (.op (.mv (.t 6))), none⟩, ⟨14, (.op (.bin .neq (.t 13) (.k (.int .i64 0)))), none⟩] [6, 13])
  (.cond (.t 14)
    (.seq (.reg none [⟨4, (.op (.mv (.k (.str [63])))), none⟩] [5, 14])
    .ret)
    .skip))
  (.seq (.reg none [⟨15, (.op (.mv (.t 5))), none⟩, ⟨4, (.op (.mv (.t 15))), none⟩] [5, 14, 15])
  .ret))))
theorem k52 : fnOk Tryd.prog Tryd.f52 c52 16 2 [.t 4] = true := by kernel_rfl
/-- guerdon/guerdonref54.kindText -/
def c53 : FC :=
  (.seq (.reg none [⟨2, (.op (.mv (.k (.str [])))), none⟩] [2])
  (.seq (.seq (.reg none [⟨3, (.op (.mv (.t 0))), none⟩] [0])
  (.block 0 (.seq (.reg none [⟨5, (.op (.bin .eql (.t 3) (.k (.int .i64 1)))), none⟩, ⟨4, (.op (.mv (.t 5))), none⟩] [5])
    (.cond (.t 4)
      (.seq (.reg none [⟨2, (.op (.mv (.k (.str [112, 97, 121, 109, 101, 110, 116])))), none⟩] [3, 4])
      .ret)
      (.seq (.reg none [⟨7, (.op (.bin .eql (.t 3) (.k (.int .i64 2)))), none⟩, ⟨6, (.op (.mv (.t 7))), none⟩] [4, 7])
      (.cond (.t 6)
        (.seq (.reg none [⟨2, (.op (.mv (.k (.str [114, 101, 99, 111, 118, 101, 114, 121])))), none⟩] [3, 6])
        .ret)
        (.seq (.reg none [⟨9, (.op (.bin .eql (.t 3) (.k (.int .i64 3)))), none⟩, ⟨8, (.op (.mv (.t 9))), none⟩] [6, 9])
        (.cond (.t 8)
          (.seq (.reg none [⟨2, (.op (.mv (.k (.str [114, 101, 112, 97, 121, 109, 101, 110, 116])))), none⟩] [3, 8])
          .ret)
          (.seq (.reg none [⟨11, (.op (.bin .eql (.t 3) (.k (.int .i64 4)))), none⟩, ⟨10, (.op (.mv (.t 11))), none⟩] [3, 8, 11])
          (.cond (.t 10)
            (.seq (.reg none [⟨2, (.op (.mv (.k (.str [119, 97, 105, 118, 101, 114])))), none⟩] [10])
            .ret)
            .skip))))))))))
  (.seq (.reg none [⟨2, (.op (.mv (.k (.str [63])))), none⟩] [10])
  .ret)))
theorem k53 : fnOk Tryd.prog Tryd.f53 c53 12 1 [.t 2] = true := by kernel_rfl
/-- guerdon/guerdonref01.digits -/
def c55 : FC :=
  (.seq (.reg none [⟨2, (.op (.mv (.k (.str [])))), none⟩] [2])
  (.seq (.seq (.reg none [⟨3, (.op (.mv (.t 0))), none⟩, ⟨4, (.op (.bin .lss (.t 3) (.k (.int .u64 10)))), none⟩] [3])
  (.cond (.t 4)
    (.seq (.reg none [⟨5, (.op (.mv (.t 0))), none⟩, ⟨6, (.op (.bin .add (.k (.int .u64 48)) (.t 5))), none⟩, ⟨7, (.op (.cv .u8 (.t 6))), none⟩, ⟨8, (.op (.buildSl [(.int .u8 0)] 1 [0] [.t 7])), none⟩, ⟨9, (.op (.cvStr (.t 8))), none⟩, ⟨2, (.op (.mv (.t 9))), none⟩] [0, 4, 5, 6, 7, 8, 9])
    .ret)
    .skip))
  (.seq (.reg (some 11) [⟨10, (.op (.mv (.t 0))), none⟩, ⟨11, (.op (.bin .quo (.t 10) (.k (.int .u64 10)))), none⟩, ⟨12, (.callL 55 [.t 11]), none⟩, ⟨13, (.op (.mv (.t 0))), none⟩, ⟨14, (.op (.bin .rem (.t 13) (.k (.int .u64 10)))), none⟩, ⟨15, (.op (.bin .add (.k (.int .u64 48)) (.t 14))), none⟩, ⟨16, (.op (.cv .u8 (.t 15))), none⟩, ⟨17, (.op (.buildSl [(.int .u8 0)] 1 [0] [.t 16])), none⟩, ⟨18, (.op (.cvStr (.t 17))), none⟩, ⟨19, (.op (.bin .add (.t 12) (.t 18))), none⟩, ⟨2, (.op (.mv (.t 19))), none⟩] [0, 4, 10, 11, 12, 13, 14, 15, 16, 17, 18, 19])
  .ret)))
theorem k55 : fnOk Tryd.prog Tryd.f55 c55 20 1 [.t 2] = true := by kernel_rfl
/-- guerdon/month.Format -/
def c59 : FC :=
  (.seq (.reg none [⟨2, (.op (.mv (.k (.str [])))), none⟩] [2])
  (.seq (.seq (.reg none [⟨4, (.op (.mv (.t 0))), none⟩, ⟨5, (.callL 71 [.t 4]), none⟩, ⟨6, (.op (.un .not (.t 5))), none⟩] [4, 5])
  (.cond (.t 6)
    (.seq (.reg none [⟨2, (.op (.mv (.k (.str [])))), none⟩] [0, 6])
    .ret)
    .skip))
  (.seq (.reg none [⟨7, (.op (.mv (.t 0))), none⟩, ⟨8, (.op (.bin .rem (.t 7) (.k (.int .i64 12)))), none⟩, ⟨9, (.op (.bin .add (.t 8) (.k (.int .i64 1)))), none⟩, ⟨10, (.callL 27 [.t 9]), none⟩, ⟨3, (.op (.mvP true (.t 10))), none⟩] [6, 7, 8, 9, 10])
  (.seq (.seq (.reg none [⟨11, (.op (.mv (.t 3))), none⟩, ⟨12, (.op (.lenS (.t 11))), none⟩, ⟨13, (.op (.bin .lss (.t 12) (.k (.int .i64 2)))), none⟩] [11, 12])
  (.cond (.t 13)
    (.reg none [⟨14, (.op (.mv (.t 3))), none⟩, ⟨15, (.op (.bin .add (.k (.str [48])) (.t 14))), none⟩, ⟨3, (.op (.mv (.t 15))), none⟩] [13, 14, 15])
    .skip))
  (.seq (.reg none [⟨16, (.op (.mv (.t 0))), none⟩, ⟨17, (.op (.bin .quo (.t 16) (.k (.int .i64 12)))), none⟩, ⟨18, (.op (.bin .add (.k (.int .i64 1900)) (.t 17))), none⟩, ⟨19, (.callL 27 [.t 18]), none⟩, ⟨20, (.op (.bin .add (.t 19) (.k (.str [45])))), none⟩, ⟨21, (.op (.mv (.t 3))), none⟩, ⟨22, (.op (.bin .add (.t 20) (.t 21))), none⟩, ⟨2, (.op (.mv (.t 22))), none⟩] [0, 3, 13, 16, 17, 18, 19, 20, 21, 22])
  .ret)))))
theorem k59 : fnOk Tryd.prog Tryd.f59 c59 23 1 [.t 2] = true := by kernel_rfl
/-- guerdon/numtext.FormatFixed -/
def c60 : FC :=
  (.seq (.reg none [⟨4, (.op (.mv (.k (.str [])))), none⟩] [4])
  (.seq (.reg none [⟨9, (.op (.mv (.t 1))), none⟩, ⟨10, (.callL 72 [.t 9]), none⟩, ⟨1, (.op (.mvP true (.t 10))), none⟩] [9, 10])
  (.seq (.seq (.reg none [⟨11, (.op (.mv (.t 1))), none⟩, ⟨12, (.op (.bin .eql (.t 11) (.k (.int .i64 0)))), none⟩] [11])
  (.cond (.t 12)
    (.seq (.reg none [⟨13, (.op (.mv (.t 0))), none⟩, ⟨14, (.callL 27 [.t 13]), none⟩, ⟨4, (.op (.mvP true (.t 14))), none⟩] [0, 1, 12, 13, 14])
    .ret)
    .skip))
  (.seq (.reg none [⟨16, (.op (.mv (.t 0))), none⟩, ⟨17, (.callL 27 [.t 16]), none⟩, ⟨18, (.callL 73 [.t 17, .k (.str [45])]), none⟩, ⟨15, (.op (.mvP true (.t 18))), none⟩, ⟨19, (.op (.extract 15 0)), none⟩, ⟨20, (.op (.extract 15 1)), none⟩, ⟨5, (.op (.mvP true (.t 19))), none⟩, ⟨6, (.op (.mvP true (.t 20))), none⟩] [0, 12, 15, 16, 17, 18, 19, 20])
  (.seq (.seq (.reg none [⟨21, (.op (.mv (.t 1))), none⟩, ⟨22, (.op (.bin .add (.t 21) (.k (.int .i64 1)))), none⟩, ⟨23, (.op (.mv (.t 5))), none⟩, ⟨24, (.op (.lenS (.t 23))), none⟩, ⟨25, (.op (.bin .sub (.t 22) (.t 24))), none⟩, ⟨7, (.op (.mv (.t 25))), none⟩] [21, 22, 23, 24, 25])
  (.seq (.reg none [⟨26, (.op (.mv (.t 7))), none⟩, ⟨27, (.op (.bin .gtr (.t 26) (.k (.int .i64 0)))), none⟩] [26])
  (.cond (.t 27)
    (.reg none [⟨28, (.op (.mv (.t 7))), none⟩, ⟨29, (.callL 74 [.k (.str [48]), .t 28]), none⟩, ⟨30, (.op (.mv (.t 5))), none⟩, ⟨31, (.op (.bin .add (.t 29) (.t 30))), none⟩, ⟨5, (.op (.mv (.t 31))), none⟩] [7, 27, 28, 29, 30, 31])
    .skip)))
  (.seq (.reg (some 15) [⟨32, (.op (.mv (.t 5))), none⟩, ⟨33, (.op (.mv (.t 5))), none⟩, ⟨34, (.op (.lenS (.t 33))), none⟩, ⟨35, (.op (.mv (.t 1))), none⟩, ⟨36, (.op (.bin .sub (.t 34) (.t 35))), none⟩, ⟨37, (.op (.subStr (.t 32) none (some (.t 36)))), none⟩, ⟨38, (.op (.bin .add (.t 37) (.k (.str [46])))), none⟩, ⟨39, (.op (.mv (.t 5))), none⟩, ⟨40, (.op (.mv (.t 5))), none⟩, ⟨41, (.op (.lenS (.t 40))), none⟩, ⟨42, (.op (.mv (.t 1))), none⟩, ⟨43, (.op (.bin .sub (.t 41) (.t 42))), none⟩, ⟨44, (.op (.subStr (.t 39) (some (.t 43)) none)), none⟩, ⟨45, (.op (.bin .add (.t 38) (.t 44))), none⟩, ⟨8, (.op (.mv (.t 45))), none⟩] [1, 5, 7, 27, 32, 33, 34, 35, 36, 37, 38, 39, 40, 41, 42, 43, 44, 45])
  (.seq (.seq (.reg none [⟨46, (.op (.mv (.t 6))), none⟩] [6])
  (.cond (.t 46)
    (.seq (.reg none [⟨47, (.op (.mv (.t 8))), none⟩, ⟨48, (.op (.bin .add (.k (.str [45])) (.t 47))), none⟩, ⟨4, (.op (.mv (.t 48))), none⟩] [8, 46, 47, 48])
    .ret)
    .skip))
  (.seq (.reg none [⟨49, (.op (.mv (.t 8))), none⟩, ⟨4, (.op (.mv (.t 49))), none⟩] [8, 46, 49])
  .ret))))))))
theorem k60 : fnOk Tryd.prog Tryd.f60 c60 50 2 [.t 4] = true := by kernel_rfl
/-- guerdon/guerdonref07.Format -/
def c61 : FC :=
  (.seq (.reg none [⟨2, (.op (.mv (.k (.str [])))), none⟩] [2])
  (.seq (.seq (.reg none [⟨4, (.op (.mv (.t 0))), none⟩, ⟨5, (.callL 75 [.t 4]), none⟩, ⟨6, (.op (.un .not (.t 5))), none⟩] [4, 5])
  (.cond (.t 6)
    (.seq (.reg none [⟨2, (.op (.mv (.k (.str [])))), none⟩] [0, 6])
    .ret)
    .skip))
  (.seq (.reg none [⟨7, (.op (.mv (.t 0))), none⟩, ⟨8, (.op (.bin .rem (.t 7) (.k (.int .i64 12)))), none⟩, ⟨9, (.op (.bin .add (.t 8) (.k (.int .i64 1)))), none⟩, ⟨10, (.callL 30 [.t 9]), none⟩, ⟨3, (.op (.mvP true (.t 10))), none⟩] [6, 7, 8, 9, 10])
  (.seq (.seq (.reg none [⟨11, (.op (.mv (.t 3))), none⟩, ⟨12, (.op (.lenS (.t 11))), none⟩, ⟨13, (.op (.bin .lss (.t 12) (.k (.int .i64 2)))), none⟩] [11, 12])
  (.cond (.t 13)
    (.reg none [⟨14, (.op (.mv (.t 3))), none⟩, ⟨15, (.op (.bin .add (.k (.str [48])) (.t 14))), none⟩, ⟨3, (.op (.mv (.t 15))), none⟩] [13, 14, 15])
    .skip))
  (.seq (.reg none [⟨16, (.op (.mv (.t 0))), none⟩, ⟨17, (.op (.bin .quo (.t 16) (.k (.int .i64 12)))), none⟩, ⟨18, (.op (.bin .add (.k (.int .i64 1900)) (.t 17))), none⟩, ⟨19, (.callL 30 [.t 18]), none⟩, ⟨20, (.op (.bin .add (.t 19) (.k (.str [45])))), none⟩, ⟨21, (.op (.mv (.t 3))), none⟩, ⟨22, (.op (.bin .add (.t 20) (.t 21))), none⟩, ⟨2, (.op (.mv (.t 22))), none⟩] [0, 3, 13, 16, 17, 18, 19, 20, 21, 22])
  .ret)))))
theorem k61 : fnOk Tryd.prog Tryd.f61 c61 23 1 [.t 2] = true := by kernel_rfl
/-- guerdon/guerdonref01.FormatFixed -/
def c62 : FC :=
  (.seq (.reg none [⟨4, (.op (.mv (.k (.str [])))), none⟩] [4])
  (.seq (.reg none [⟨8, (.op (.mv (.t 1))), none⟩, ⟨9, (.callL 44 [.t 8]), none⟩, ⟨5, (.op (.mvP true (.t 9))), none⟩] [1, 8, 9])
  (.seq (.seq (.reg none [⟨10, (.op (.mv (.t 5))), none⟩, ⟨11, (.op (.bin .eql (.t 10) (.k (.int .i64 0)))), none⟩] [10])
  (.cond (.t 11)
    (.seq (.reg none [⟨12, (.op (.mv (.t 0))), none⟩, ⟨13, (.callL 30 [.t 12]), none⟩, ⟨4, (.op (.mvP true (.t 13))), none⟩] [0, 5, 11, 12, 13])
    .ret)
    .skip))
  (.seq (.reg none [⟨15, (.op (.mv (.t 0))), none⟩, ⟨16, (.callL 30 [.t 15]), none⟩, ⟨17, (.callL 46 [.t 16]), none⟩, ⟨14, (.op (.mvP true (.t 17))), none⟩, ⟨18, (.op (.extract 14 0)), none⟩, ⟨19, (.op (.extract 14 1)), none⟩, ⟨6, (.op (.mvP true (.t 18))), none⟩, ⟨7, (.op (.mvP true (.t 19))), none⟩] [0, 11, 14, 15, 16, 17, 18, 19])
  (.seq (.block 0 (.loop (.seq (.seq (.reg none [⟨20, (.op (.mv (.t 6))), none⟩, ⟨21, (.op (.lenS (.t 20))), none⟩, ⟨22, (.op (.mv (.t 5))), none⟩, ⟨23, (.op (.bin .leq (.t 21) (.t 22))), none⟩] [20, 21, 22])
      (.cond (.t 23)
        .skip
        (.exit 0)))
      (.block 1 (.reg none [⟨24, (.op (.mv (.t 6))), none⟩, ⟨25, (.op (.bin .add (.k (.str [48])) (.t 24))), none⟩, ⟨6, (.op (.mv (.t 25))), none⟩] [23, 24, 25])))))
  (.seq (.reg (some 14) [⟨26, (.op (.mv (.t 6))), none⟩, ⟨27, (.op (.mv (.t 6))), none⟩, ⟨28, (.op (.lenS (.t 27))), none⟩, ⟨29, (.op (.mv (.t 5))), none⟩, ⟨30, (.op (.bin .sub (.t 28) (.t 29))), none⟩, ⟨31, (.op (.subStr (.t 26) none (some (.t 30)))), none⟩, ⟨32, (.op (.bin .add (.t 31) (.k (.str [46])))), none⟩, ⟨33, (.op (.mv (.t 6))), none⟩, ⟨34, (.op (.mv (.t 6))), none⟩, ⟨35, (.op (.lenS (.t 34))), none⟩, ⟨36, (.op (.mv (.t 5))), none⟩, ⟨37, (.op (.bin .sub (.t 35) (.t 36))), none⟩, ⟨38, (.op (.subStr (.t 33) (some (.t 37)) none)), none⟩, ⟨39, (.op (.bin .add (.t 32) (.t 38))), none⟩, ⟨6, (.op (.mv (.t 39))), none⟩] [5, 23, 26, 27, 28, 29, 30, 31, 32, 33, 34, 35, 36, 37, 38, 39])
  (.seq (.seq (.reg none [⟨40, (.op (.mv (.t 7))), none⟩] [7])
  (.cond (.t 40)
    (.reg none [⟨41, (.op (.mv (.t 6))), none⟩, ⟨42, (.op (.bin .add (.k (.str [45])) (.t 41))), none⟩, ⟨6, (.op (.mv (.t 42))), none⟩] [40, 41, 42])
    .skip))
  (.seq (.reg none [⟨43, (.op (.mv (.t 6))), none⟩, ⟨4, (.op (.mv (.t 43))), none⟩] [6, 40, 43])
  .ret))))))))
theorem k62 : fnOk Tryd.prog Tryd.f62 c62 44 2 [.t 4] = true := by kernel_rfl
/-- guerdon/value.ValidType -/
def c63 : FC :=
  (.seq (.reg none [⟨2, (.op (.box (.t 0))), none⟩, ⟨4, (.op (.mv (.k (.bool false)))), none⟩] [0, 4])
  (.seq (.seq (.reg none [⟨5, (.op (.fa (.t 2) 0)), none⟩, ⟨6, (.op (.load (.t 5) 1 false)), none⟩] [5])
  (.block 0 (.seq (.seq (.reg none [⟨8, (.op (.bin .eql (.t 6) (.k (.int .i64 1)))), none⟩, ⟨7, (.op (.mv (.t 8))), none⟩] [8])
    (.cond (.t 7)
      .skip
      (.seq (.reg none [⟨9, (.op (.bin .eql (.t 6) (.k (.int .i64 2)))), none⟩, ⟨7, (.op (.mv (.t 9))), none⟩] [9])
      (.cond (.t 7)
        .skip
        (.seq (.reg none [⟨10, (.op (.bin .eql (.t 6) (.k (.int .i64 3)))), none⟩, ⟨7, (.op (.mv (.t 10))), none⟩] [10])
        (.cond (.t 7)
          .skip
          (.seq (.reg none [⟨11, (.op (.bin .eql (.t 6) (.k (.int .i64 4)))), none⟩, ⟨7, (.op (.mv (.t 11))), none⟩] [11])
          (.cond (.t 7)
            .skip
            (.reg none [⟨12, (.op (.bin .eql (.t 6) (.k (.int .i64 5)))), none⟩, ⟨7, (.op (.mv (.t 12))), none⟩] [12])))))))))
    (.cond (.t 7)
      (.seq (.reg none [⟨13, (.op (.fa (.t 2) 1)), none⟩, ⟨14, (.op (.load (.t 13) 1 false)), none⟩, ⟨15, (.op (.bin .eql (.t 14) (.k (.int .i64 0)))), none⟩, ⟨4, (.op (.mv (.t 15))), none⟩] [1, 2, 6, 7, 13, 14, 15])
      .ret)
      (.seq (.reg none [⟨17, (.op (.bin .eql (.t 6) (.k (.int .i64 6)))), none⟩, ⟨16, (.op (.mv (.t 17))), none⟩] [6, 7, 17])
      (.cond (.t 16)
        (.seq (.reg none [⟨18, (.op (.fa (.t 2) 1)), none⟩, ⟨19, (.op (.load (.t 18) 1 false)), none⟩, ⟨20, (.op (.bin .geq (.t 19) (.k (.int .i64 0)))), none⟩, ⟨21, (.op (.mv (.t 20))), none⟩, ⟨22, (.op (.fa (.t 2) 1)), some (21, true)⟩, ⟨23, (.op (.load (.t 22) 1 false)), some (21, true)⟩, ⟨24, (.op (.mv (.t 1))), some (21, true)⟩, ⟨25, (.op (.len (.t 24))), some (21, true)⟩, ⟨26, (.op (.bin .lss (.t 23) (.t 25))), some (21, true)⟩, ⟨27, (.op (.pick (.t 21) (.t 26) (.k (.bool false)))), none⟩, ⟨4, (.op (.mv (.t 27))), none⟩] [1, 2, 16, 18, 19, 20, 21, 22, 23, 24, 25, 26, 27])
        .ret)
        .skip))))))
  (.seq (.reg none [⟨4, (.op (.mv (.k (.bool false)))), none⟩] [1, 2, 16])
  .ret)))
theorem k63 : fnOk Tryd.prog Tryd.f63 c63 28 2 [.t 4] = true := by kernel_rfl
/-- guerdon/value.typeOf -/
def c64 : FC :=
  (.seq (.reg none [⟨1, (.op (.box (.t 0))), none⟩, ⟨2, (.op (.alloc [(.int .i64 0), (.int .i64 0)])), none⟩] [0])
  (.seq (.reg none [⟨3, (.op (.fa (.t 1) 0)), none⟩, ⟨4, (.op (.load (.t 3) 1 false)), none⟩, ⟨5, (.op (.fa (.t 1) 1)), none⟩, ⟨6, (.op (.load (.t 5) 1 false)), none⟩, ⟨7, (.op (.build [(.int .i64 0), (.int .i64 0)] [(0, 1), (1, 1)] [.t 4, .t 6])), none⟩, ⟨0, (.op (.store (.t 2) (.t 7) 2 true)), none⟩] [1, 3, 4, 5, 6, 7])
  .ret))
theorem k64 : fnOk Tryd.prog Tryd.f64 c64 8 1 [.c 2 2 true] = true := by kernel_rfl
/-- guerdon/value.Valid -/
def c65 : FC :=
  (.seq (.reg none [⟨2, (.op (.box (.t 0))), none⟩, ⟨4, (.op (.mv (.k (.bool false)))), none⟩] [0, 4])
  (.seq (.reg (some 6) [⟨5, (.op (.fa (.t 2) 2)), none⟩, ⟨6, (.op (.load (.t 5) 1 false)), none⟩, ⟨7, (.op (.load (.t 2) 3 true)), none⟩, ⟨8, (.callL 64 [.t 7]), none⟩, ⟨9, (.op (.mv (.t 1))), none⟩, ⟨10, (.callL 76 [.t 6, .t 8, .t 9]), none⟩, ⟨4, (.op (.mvP true (.t 10))), none⟩] [1, 2, 5, 6, 7, 8, 9, 10])
  .ret))
theorem k65 : fnOk Tryd.prog Tryd.f65 c65 11 2 [.t 4] = true := by kernel_rfl
/-- guerdon/date.Format -/
def c66 : FC :=
  (.seq (.reg none [⟨2, (.op (.mv (.k (.str [])))), none⟩] [2])
  (.seq (.seq (.reg none [⟨6, (.op (.mv (.t 0))), none⟩, ⟨7, (.callL 77 [.t 6]), none⟩, ⟨8, (.op (.un .not (.t 7))), none⟩] [6, 7])
  (.cond (.t 8)
    (.seq (.reg none [⟨2, (.op (.mv (.k (.str [])))), none⟩] [0, 8])
    .ret)
    .skip))
  (.seq (.reg none [⟨10, (.op (.mv (.t 0))), none⟩, ⟨11, (.callL 78 [.t 10]), none⟩, ⟨9, (.op (.mvP true (.t 11))), none⟩, ⟨12, (.op (.extract 9 0)), none⟩, ⟨13, (.op (.extract 9 1)), none⟩, ⟨14, (.op (.extract 9 2)), none⟩, ⟨3, (.op (.mvP true (.t 12))), none⟩, ⟨4, (.op (.mvP true (.t 13))), none⟩, ⟨5, (.op (.mvP true (.t 14))), none⟩] [0, 8, 9, 10, 11, 12, 13, 14])
  (.seq (.reg none [⟨15, (.op (.mv (.t 3))), none⟩, ⟨16, (.callL 79 [.t 15, .k (.int .i64 4)]), none⟩, ⟨17, (.op (.bin .add (.t 16) (.k (.str [45])))), none⟩, ⟨18, (.op (.mv (.t 4))), none⟩, ⟨19, (.callL 79 [.t 18, .k (.int .i64 2)]), none⟩, ⟨20, (.op (.bin .add (.t 17) (.t 19))), none⟩, ⟨21, (.op (.bin .add (.t 20) (.k (.str [45])))), none⟩, ⟨22, (.op (.mv (.t 5))), none⟩, ⟨23, (.callL 79 [.t 22, .k (.int .i64 2)]), none⟩, ⟨24, (.op (.bin .add (.t 21) (.t 23))), none⟩, ⟨2, (.op (.mv (.t 24))), none⟩] [3, 4, 5, 15, 16, 17, 18, 19, 20, 21, 22, 23, 24])
  .ret))))
theorem k66 : fnOk Tryd.prog Tryd.f66 c66 25 1 [.t 2] = true := by kernel_rfl
/-- guerdon/guerdonref09.Format -/
def c67 : FC :=
  (.seq (.reg none [⟨2, (.op (.box (.t 0))), none⟩, ⟨4, (.op (.mv (.k (.str [])))), none⟩, ⟨5, (.op (.mv (.k (.int .i64 0)))), none⟩] [0, 4, 5])
  (.seq (.seq (.reg none [⟨6, (.op (.load (.t 2) 3 true)), none⟩, ⟨7, (.callL 81 [.t 6]), none⟩, ⟨8, (.op (.mv (.t 1))), none⟩, ⟨9, (.callL 80 [.t 7, .t 8]), none⟩, ⟨10, (.op (.un .not (.t 9))), none⟩] [6, 7, 8, 9])
  (.cond (.t 10)
    (.seq (.reg none [⟨4, (.op (.mv (.k (.str [])))), none⟩, ⟨5, (.op (.mv (.k (.int .i64 8)))), none⟩] [1, 2, 10])
    .ret)
    .skip))
  (.seq (.seq (.reg none [⟨11, (.op (.load (.t 2) 3 true)), none⟩, ⟨12, (.op (.mv (.t 1))), none⟩, ⟨13, (.callL 82 [.t 11, .t 12]), none⟩, ⟨14, (.op (.un .not (.t 13))), none⟩] [10, 11, 12, 13])
  (.cond (.t 14)
    (.seq (.reg none [⟨4, (.op (.mv (.k (.str [])))), none⟩, ⟨5, (.op (.mv (.k (.int .i64 3)))), none⟩] [1, 2, 14])
    .ret)
    .skip))
  (.seq (.seq (.reg none [⟨15, (.op (.fa (.t 2) 0)), none⟩, ⟨16, (.op (.load (.t 15) 1 false)), none⟩] [14, 15])
  (.block 0 (.seq (.reg none [⟨18, (.op (.bin .eql (.t 16) (.k (.int .i64 1)))), none⟩, ⟨17, (.op (.mv (.t 18))), none⟩] [18])
    (.cond (.t 17)
      (.seq (.seq (.reg none [⟨19, (.op (.fa (.t 2) 2)), none⟩, ⟨20, (.op (.load (.t 19) 1 false)), none⟩, ⟨21, (.op (.bin .eql (.t 20) (.k (.int .i64 0)))), none⟩] [1, 2, 16, 17, 19, 20])
      (.cond (.t 21)
        (.seq (.reg none [⟨4, (.op (.mv (.k (.str [102, 97, 108, 115, 101])))), none⟩, ⟨5, (.op (.mv (.k (.int .i64 0)))), none⟩] [21])
        .ret)
        .skip))
      (.seq (.reg none [⟨4, (.op (.mv (.k (.str [116, 114, 117, 101])))), none⟩, ⟨5, (.op (.mv (.k (.int .i64 0)))), none⟩] [21])
      .ret))
      (.seq (.reg none [⟨23, (.op (.bin .eql (.t 16) (.k (.int .i64 2)))), none⟩, ⟨22, (.op (.mv (.t 23))), none⟩] [17, 23])
      (.cond (.t 22)
        (.seq (.reg none [⟨24, (.op (.fa (.t 2) 2)), none⟩, ⟨25, (.op (.load (.t 24) 1 false)), none⟩, ⟨26, (.callL 30 [.t 25]), none⟩, ⟨4, (.op (.mvP true (.t 26))), none⟩, ⟨5, (.op (.mv (.k (.int .i64 0)))), none⟩] [1, 2, 16, 22, 24, 25, 26])
        .ret)
        (.seq (.reg none [⟨28, (.op (.bin .eql (.t 16) (.k (.int .i64 3)))), none⟩, ⟨27, (.op (.mv (.t 28))), none⟩] [22, 28])
        (.cond (.t 27)
          (.seq (.reg none [⟨29, (.op (.fa (.t 2) 2)), none⟩, ⟨30, (.op (.load (.t 29) 1 false)), none⟩, ⟨31, (.callL 62 [.t 30, .k (.int .i64 2)]), none⟩, ⟨4, (.op (.mvP true (.t 31))), none⟩, ⟨5, (.op (.mv (.k (.int .i64 0)))), none⟩] [1, 2, 16, 27, 29, 30, 31])
          .ret)
          (.seq (.reg none [⟨33, (.op (.bin .eql (.t 16) (.k (.int .i64 4)))), none⟩, ⟨32, (.op (.mv (.t 33))), none⟩] [27, 33])
          (.cond (.t 32)
            (.seq (.reg none [⟨34, (.op (.fa (.t 2) 2)), none⟩, ⟨35, (.op (.load (.t 34) 1 false)), none⟩, ⟨36, (.callL 62 [.t 35, .k (.int .i64 4)]), none⟩, ⟨37, (.op (.bin .add (.t 36) (.k (.str [37])))), none⟩, ⟨4, (.op (.mv (.t 37))), none⟩, ⟨5, (.op (.mv (.k (.int .i64 0)))), none⟩] [1, 2, 16, 32, 34, 35, 36, 37])
            .ret)
            (.seq (.reg none [⟨39, (.op (.bin .eql (.t 16) (.k (.int .i64 5)))), none⟩, ⟨38, (.op (.mv (.t 39))), none⟩] [16, 32, 39])
            (.cond (.t 38)
              (.seq (.reg none [⟨40, (.op (.fa (.t 2) 2)), none⟩, ⟨41, (.op (.load (.t 40) 1 false)), none⟩, ⟨42, (.callL 83 [.t 41]), none⟩, ⟨4, (.op (.mvP true (.t 42))), none⟩, ⟨5, (.op (.mv (.k (.int .i64 0)))), none⟩] [1, 2, 38, 40, 41, 42])
              .ret)
              .skip))))))))))))
  (.seq (.reg (some 12) [⟨43, (.op (.mv (.t 1))), none⟩, ⟨44, (.op (.fa (.t 2) 1)), none⟩, ⟨45, (.op (.load (.t 44) 1 false)), none⟩, ⟨46, (.op (.ia (.t 43) (.t 45) 2)), none⟩, ⟨47, (.op (.fa (.t 46) 1)), none⟩, ⟨48, (.op (.load (.t 47) 1 false)), none⟩, ⟨49, (.op (.fa (.t 2) 2)), none⟩, ⟨50, (.op (.load (.t 49) 1 false)), none⟩, ⟨51, (.op (.ia (.t 48) (.t 50) 1)), none⟩, ⟨52, (.op (.load (.t 51) 1 false)), none⟩, ⟨4, (.op (.mv (.t 52))), none⟩, ⟨5, (.op (.mv (.k (.int .i64 0)))), none⟩] [1, 2, 38, 43, 44, 45, 46, 47, 48, 49, 50, 51, 52])
  .ret)))))
theorem k67 : fnOk Tryd.prog Tryd.f67 c67 53 2 [.t 4, .t 5] = true := by kernel_rfl
/-- guerdon/month.valid -/
def c71 : FC :=
  (.seq (.reg none [⟨2, (.op (.mv (.k (.bool false)))), none⟩] [2])
  (.seq (.reg none [⟨3, (.op (.mv (.t 0))), none⟩, ⟨4, (.op (.bin .geq (.t 3) (.k (.int .i64 0)))), none⟩, ⟨5, (.op (.mv (.t 4))), none⟩, ⟨6, (.op (.mv (.t 0))), some (5, true)⟩, ⟨7, (.op (.bin .leq (.t 6) (.k (.int .i64 3599)))), some (5, true)⟩, ⟨8, (.op (.pick (.t 5) (.t 7) (.k (.bool false)))), none⟩, ⟨2, (.op (.mv (.t 8))), none⟩] [0, 3, 4, 5, 6, 7, 8])
  .ret))
theorem k71 : fnOk Tryd.prog Tryd.f71 c71 9 1 [.t 2] = true := by kernel_rfl
/-- guerdon/numtext.clamp -/
def c72 : FC :=
  (.seq (.reg none [⟨2, (.op (.mv (.k (.int .i64 0)))), none⟩] [2])
  (.seq (.reg none [⟨3, (.op (.mv (.t 0))), none⟩, ⟨4, (.op (.mm false (.t 3) (.k (.int .i64 9)))), none⟩, ⟨5, (.op (.mm true (.k (.int .i64 0)) (.t 4))), none⟩, ⟨2, (.op (.mvP true (.t 5))), none⟩] [0, 3, 4, 5])
  .ret))
theorem k72 : fnOk Tryd.prog Tryd.f72 c72 6 1 [.t 2] = true := by kernel_rfl
/-- guerdon/guerdonref07.valid -/
def c75 : FC :=
  (.seq (.reg none [⟨2, (.op (.mv (.k (.bool false)))), none⟩] [2])
  (.seq (.reg none [⟨3, (.op (.mv (.t 0))), none⟩, ⟨4, (.op (.bin .geq (.t 3) (.k (.int .i64 0)))), none⟩, ⟨5, (.op (.mv (.t 4))), none⟩, ⟨6, (.op (.mv (.t 0))), some (5, true)⟩, ⟨7, (.op (.bin .leq (.t 6) (.k (.int .i64 3599)))), some (5, true)⟩, ⟨8, (.op (.pick (.t 5) (.t 7) (.k (.bool false)))), none⟩, ⟨2, (.op (.mv (.t 8))), none⟩] [0, 3, 4, 5, 6, 7, 8])
  .ret))
theorem k75 : fnOk Tryd.prog Tryd.f75 c75 9 1 [.t 2] = true := by kernel_rfl
/-- guerdon/value.within -/
def c76 : FC :=
  (.seq (.reg none [⟨4, (.op (.box (.t 1))), none⟩, ⟨6, (.op (.mv (.k (.bool false)))), none⟩] [1, 6])
  (.seq (.reg none [⟨10, (.op (.load (.t 4) 2 true)), none⟩, ⟨11, (.op (.mv (.t 2))), none⟩, ⟨12, (.callL 91 [.t 10, .t 11]), none⟩, ⟨9, (.op (.mvP true (.t 12))), none⟩, ⟨13, (.op (.extract 9 0)), none⟩, ⟨14, (.op (.extract 9 1)), none⟩, ⟨7, (.op (.mvP true (.t 13))), none⟩, ⟨8, (.op (.mvP true (.t 14))), none⟩] [2, 4, 9, 10, 11, 12, 13, 14])
  (.seq (.reg none [⟨15, (.op (.mv (.t 7))), none⟩, ⟨16, (.op (.mv (.t 0))), none⟩, ⟨17, (.op (.bin .leq (.t 15) (.t 16))), none⟩, ⟨18, (.op (.mv (.t 17))), none⟩, ⟨19, (.op (.mv (.t 0))), some (18, true)⟩, ⟨20, (.op (.mv (.t 8))), some (18, true)⟩, ⟨21, (.op (.bin .leq (.t 19) (.t 20))), some (18, true)⟩, ⟨22, (.op (.pick (.t 18) (.t 21) (.k (.bool false)))), none⟩, ⟨6, (.op (.mv (.t 22))), none⟩] [0, 7, 8, 15, 16, 17, 18, 19, 20, 21, 22])
  .ret)))
theorem k76 : fnOk Tryd.prog Tryd.f76 c76 23 3 [.t 6] = true := by kernel_rfl
/-- guerdon/date.valid -/
def c77 : FC :=
  (.seq (.reg none [⟨2, (.op (.mv (.k (.bool false)))), none⟩] [2])
  (.seq (.reg none [⟨3, (.op (.mv (.t 0))), none⟩, ⟨4, (.op (.bin .geq (.t 3) (.k (.int .i64 0)))), none⟩, ⟨5, (.op (.mv (.t 4))), none⟩, ⟨6, (.op (.mv (.t 0))), some (5, true)⟩, ⟨7, (.op (.bin .leq (.t 6) (.k (.int .i64 109572)))), some (5, true)⟩, ⟨8, (.op (.pick (.t 5) (.t 7) (.k (.bool false)))), none⟩, ⟨2, (.op (.mv (.t 8))), none⟩] [0, 3, 4, 5, 6, 7, 8])
  .ret))
theorem k77 : fnOk Tryd.prog Tryd.f77 c77 9 1 [.t 2] = true := by kernel_rfl
/-- guerdon/date.ToYMD -/
def c78 : FC :=
  (.seq (.reg none [⟨2, (.op (.mv (.k (.int .i64 0)))), none⟩, ⟨3, (.op (.mv (.k (.int .i64 0)))), none⟩, ⟨4, (.op (.mv (.k (.int .i64 0)))), none⟩] [2, 3, 4])
  (.seq (.seq (.reg none [⟨7, (.op (.mv (.t 0))), none⟩, ⟨8, (.callL 77 [.t 7]), none⟩, ⟨9, (.op (.un .not (.t 8))), none⟩] [7, 8])
  (.cond (.t 9)
    (.seq (.reg none [⟨2, (.op (.mv (.k (.int .i64 0)))), none⟩, ⟨3, (.op (.mv (.k (.int .i64 0)))), none⟩, ⟨4, (.op (.mv (.k (.int .i64 0)))), none⟩] [0, 9])
    .ret)
    .skip))
  (.seq (.reg none [⟨5, (.op (.mv (.k (.int .i64 1900)))), none⟩, ⟨6, (.op (.mv (.k (.int .i64 1)))), none⟩] [9])
  (.seq (.block 0 (.loop (.seq (.seq (.reg none [⟨10, (.op (.mv (.t 0))), none⟩, ⟨11, (.op (.mv (.t 5))), none⟩, ⟨12, (.callL 92 [.t 11]), none⟩, ⟨13, (.op (.bin .geq (.t 10) (.t 12))), none⟩] [10, 11, 12])
      (.cond (.t 13)
        .skip
        (.exit 0)))
      (.block 1 (.seq (.reg none [⟨14, (.op (.mv (.t 0))), none⟩, ⟨15, (.op (.mv (.t 5))), none⟩, ⟨16, (.callL 92 [.t 15]), none⟩, ⟨17, (.op (.bin .sub (.t 14) (.t 16))), none⟩, ⟨0, (.op (.mv (.t 17))), none⟩] [13, 14, 15, 16, 17])
        (.reg none [⟨18, (.op (.mv (.t 5))), none⟩, ⟨19, (.op (.bin .add (.t 18) (.k (.int .i64 1)))), none⟩, ⟨5, (.op (.mv (.t 19))), none⟩] [18, 19]))))))
  (.seq (.block 2 (.loop (.seq (.seq (.reg none [⟨20, (.op (.mv (.t 0))), none⟩, ⟨21, (.op (.mv (.t 5))), none⟩, ⟨22, (.op (.mv (.t 6))), none⟩, ⟨23, (.callL 93 [.t 21, .t 22]), none⟩, ⟨24, (.op (.bin .geq (.t 20) (.t 23))), none⟩] [13, 20, 21, 22, 23])
      (.cond (.t 24)
        .skip
        (.exit 2)))
      (.block 3 (.seq (.reg none [⟨25, (.op (.mv (.t 0))), none⟩, ⟨26, (.op (.mv (.t 5))), none⟩, ⟨27, (.op (.mv (.t 6))), none⟩, ⟨28, (.callL 93 [.t 26, .t 27]), none⟩, ⟨29, (.op (.bin .sub (.t 25) (.t 28))), none⟩, ⟨0, (.op (.mv (.t 29))), none⟩] [24, 25, 26, 27, 28, 29])
        (.reg none [⟨30, (.op (.mv (.t 6))), none⟩, ⟨31, (.op (.bin .add (.t 30) (.k (.int .i64 1)))), none⟩, ⟨6, (.op (.mv (.t 31))), none⟩] [30, 31]))))))
  (.seq (.reg none [⟨32, (.op (.mv (.t 5))), none⟩, ⟨33, (.op (.mv (.t 6))), none⟩, ⟨34, (.op (.mv (.t 0))), none⟩, ⟨35, (.op (.bin .add (.t 34) (.k (.int .i64 1)))), none⟩, ⟨2, (.op (.mv (.t 32))), none⟩, ⟨3, (.op (.mv (.t 33))), none⟩, ⟨4, (.op (.mv (.t 35))), none⟩] [0, 5, 6, 24, 32, 33, 34, 35])
  .ret))))))
theorem k78 : fnOk Tryd.prog Tryd.f78 c78 36 1 [.t 2, .t 3, .t 4] = true := by kernel_rfl
/-- guerdon/date.pad -/
def c79 : FC :=
  (.seq (.reg none [⟨4, (.op (.mv (.k (.str [])))), none⟩] [4])
  (.seq (.reg none [⟨6, (.op (.mv (.t 0))), none⟩, ⟨7, (.callL 27 [.t 6]), none⟩, ⟨5, (.op (.mvP true (.t 7))), none⟩] [0, 6, 7])
  (.seq (.reg none [⟨8, (.op (.mv (.t 1))), none⟩, ⟨9, (.op (.mv (.t 5))), none⟩, ⟨10, (.op (.lenS (.t 9))), none⟩, ⟨11, (.op (.bin .sub (.t 8) (.t 10))), none⟩, ⟨12, (.op (.mm true (.k (.int .i64 0)) (.t 11))), none⟩, ⟨13, (.callL 74 [.k (.str [48]), .t 12]), none⟩, ⟨14, (.op (.mv (.t 5))), none⟩, ⟨15, (.op (.bin .add (.t 13) (.t 14))), none⟩, ⟨4, (.op (.mv (.t 15))), none⟩] [1, 5, 8, 9, 10, 11, 12, 13, 14, 15])
  .ret)))
theorem k79 : fnOk Tryd.prog Tryd.f79 c79 16 2 [.t 4] = true := by kernel_rfl
/-- guerdon/guerdonref09.ValidType -/
def c80 : FC :=
  (.seq (.reg none [⟨2, (.op (.box (.t 0))), none⟩, ⟨4, (.op (.mv (.k (.bool false)))), none⟩] [0, 4])
  (.seq (.seq (.reg none [⟨5, (.op (.fa (.t 2) 0)), none⟩, ⟨6, (.op (.load (.t 5) 1 false)), none⟩, ⟨7, (.op (.bin .eql (.t 6) (.k (.int .i64 6)))), none⟩] [5, 6])
  (.cond (.t 7)
    (.seq (.reg none [⟨8, (.op (.fa (.t 2) 1)), none⟩, ⟨9, (.op (.load (.t 8) 1 false)), none⟩, ⟨10, (.op (.bin .geq (.t 9) (.k (.int .i64 0)))), none⟩, ⟨11, (.op (.mv (.t 10))), none⟩, ⟨12, (.op (.fa (.t 2) 1)), some (11, true)⟩, ⟨13, (.op (.load (.t 12) 1 false)), some (11, true)⟩, ⟨14, (.op (.mv (.t 1))), some (11, true)⟩, ⟨15, (.op (.len (.t 14))), some (11, true)⟩, ⟨16, (.op (.bin .lss (.t 13) (.t 15))), some (11, true)⟩, ⟨17, (.op (.pick (.t 11) (.t 16) (.k (.bool false)))), none⟩, ⟨4, (.op (.mv (.t 17))), none⟩] [1, 2, 7, 8, 9, 10, 11, 12, 13, 14, 15, 16, 17])
    .ret)
    .skip))
  (.seq (.reg none [⟨18, (.op (.fa (.t 2) 0)), none⟩, ⟨19, (.op (.load (.t 18) 1 false)), none⟩, ⟨20, (.op (.bin .geq (.t 19) (.k (.int .i64 1)))), none⟩, ⟨21, (.op (.mv (.t 20))), none⟩, ⟨22, (.op (.fa (.t 2) 0)), some (21, true)⟩, ⟨23, (.op (.load (.t 22) 1 false)), some (21, true)⟩, ⟨24, (.op (.bin .leq (.t 23) (.k (.int .i64 5)))), some (21, true)⟩, ⟨25, (.op (.pick (.t 21) (.t 24) (.k (.bool false)))), none⟩, ⟨26, (.op (.mv (.t 25))), none⟩, ⟨27, (.op (.fa (.t 2) 1)), some (26, true)⟩, ⟨28, (.op (.load (.t 27) 1 false)), some (26, true)⟩, ⟨29, (.op (.bin .eql (.t 28) (.k (.int .i64 0)))), some (26, true)⟩, ⟨30, (.op (.pick (.t 26) (.t 29) (.k (.bool false)))), none⟩, ⟨4, (.op (.mv (.t 30))), none⟩] [1, 2, 7, 18, 19, 20, 21, 22, 23, 24, 25, 26, 27, 28, 29, 30])
  .ret)))
theorem k80 : fnOk Tryd.prog Tryd.f80 c80 31 2 [.t 4] = true := by kernel_rfl
/-- guerdon/guerdonref09.Type -/
def c81 : FC :=
  (.seq (.reg none [⟨1, (.op (.box (.t 0))), none⟩, ⟨2, (.op (.alloc [(.int .i64 0), (.int .i64 0)])), none⟩] [0])
  (.seq (.reg none [⟨3, (.op (.fa (.t 1) 0)), none⟩, ⟨4, (.op (.load (.t 3) 1 false)), none⟩, ⟨5, (.op (.fa (.t 1) 1)), none⟩, ⟨6, (.op (.load (.t 5) 1 false)), none⟩, ⟨7, (.op (.build [(.int .i64 0), (.int .i64 0)] [(0, 1), (1, 1)] [.t 4, .t 6])), none⟩, ⟨0, (.op (.store (.t 2) (.t 7) 2 true)), none⟩] [1, 3, 4, 5, 6, 7])
  .ret))
theorem k81 : fnOk Tryd.prog Tryd.f81 c81 8 1 [.c 2 2 true] = true := by kernel_rfl
/-- guerdon/guerdonref09.Valid -/
def c82 : FC :=
  (.seq (.reg none [⟨2, (.op (.box (.t 0))), none⟩, ⟨4, (.op (.mv (.k (.bool false)))), none⟩] [0, 4])
  (.seq (.reg (some 13) [⟨5, (.op (.load (.t 2) 3 true)), none⟩, ⟨6, (.callL 81 [.t 5]), none⟩, ⟨7, (.op (.mv (.t 1))), none⟩, ⟨8, (.callL 80 [.t 6, .t 7]), none⟩, ⟨9, (.op (.mv (.t 8))), none⟩, ⟨10, (.op (.fa (.t 2) 2)), some (9, true)⟩, ⟨11, (.op (.load (.t 10) 1 false)), some (9, true)⟩, ⟨12, (.op (.load (.t 2) 3 true)), some (9, true)⟩, ⟨13, (.callL 81 [.t 12]), some (9, true)⟩, ⟨14, (.op (.mv (.t 1))), some (9, true)⟩, ⟨15, (.callL 94 [.t 11, .t 13, .t 14]), some (9, true)⟩, ⟨16, (.op (.pick (.t 9) (.t 15) (.k (.bool false)))), none⟩, ⟨4, (.op (.mv (.t 16))), none⟩] [1, 2, 5, 6, 7, 8, 9, 10, 11, 12, 13, 14, 15, 16])
  .ret))
theorem k82 : fnOk Tryd.prog Tryd.f82 c82 17 2 [.t 4] = true := by kernel_rfl
/-- guerdon/guerdonref04.Format -/
def c83 : FC :=
  (.seq (.reg none [⟨2, (.op (.mv (.k (.str [])))), none⟩] [2])
  (.seq (.seq (.reg none [⟨6, (.op (.mv (.t 0))), none⟩, ⟨7, (.callL 95 [.t 6]), none⟩, ⟨8, (.op (.un .not (.t 7))), none⟩] [6, 7])
  (.cond (.t 8)
    (.seq (.reg none [⟨2, (.op (.mv (.k (.str [])))), none⟩] [0, 8])
    .ret)
    .skip))
  (.seq (.reg none [⟨10, (.op (.mv (.t 0))), none⟩, ⟨11, (.callL 96 [.t 10]), none⟩, ⟨9, (.op (.mvP true (.t 11))), none⟩, ⟨12, (.op (.extract 9 0)), none⟩, ⟨13, (.op (.extract 9 1)), none⟩, ⟨14, (.op (.extract 9 2)), none⟩, ⟨3, (.op (.mvP true (.t 12))), none⟩, ⟨4, (.op (.mvP true (.t 13))), none⟩, ⟨5, (.op (.mvP true (.t 14))), none⟩] [0, 8, 9, 10, 11, 12, 13, 14])
  (.seq (.reg none [⟨15, (.op (.mv (.t 3))), none⟩, ⟨16, (.callL 97 [.t 15, .k (.int .i64 4)]), none⟩, ⟨17, (.op (.bin .add (.t 16) (.k (.str [45])))), none⟩, ⟨18, (.op (.mv (.t 4))), none⟩, ⟨19, (.callL 97 [.t 18, .k (.int .i64 2)]), none⟩, ⟨20, (.op (.bin .add (.t 17) (.t 19))), none⟩, ⟨21, (.op (.bin .add (.t 20) (.k (.str [45])))), none⟩, ⟨22, (.op (.mv (.t 5))), none⟩, ⟨23, (.callL 97 [.t 22, .k (.int .i64 2)]), none⟩, ⟨24, (.op (.bin .add (.t 21) (.t 23))), none⟩, ⟨2, (.op (.mv (.t 24))), none⟩] [3, 4, 5, 15, 16, 17, 18, 19, 20, 21, 22, 23, 24])
  .ret))))
theorem k83 : fnOk Tryd.prog Tryd.f83 c83 25 1 [.t 2] = true := by kernel_rfl
/-- guerdon/value.Bounds -/
def c91 : FC :=
  (.seq (.reg none [⟨2, (.op (.box (.t 0))), none⟩, ⟨4, (.op (.mv (.k (.int .i64 0)))), none⟩, ⟨5, (.op (.mv (.k (.int .i64 0)))), none⟩] [0, 4, 5])
  (.seq (.seq (.reg none [⟨6, (.op (.load (.t 2) 2 true)), none⟩, ⟨7, (.op (.mv (.t 1))), none⟩, ⟨8, (.callL 63 [.t 6, .t 7]), none⟩, ⟨9, (.op (.un .not (.t 8))), none⟩] [6, 7, 8])
  (.cond (.t 9)
    (.seq (.reg none [⟨4, (.op (.mv (.k (.int .i64 0)))), none⟩, ⟨5, (.op (.mv (.k (.int .i64 (-1))))), none⟩] [1, 2, 9])
    .ret)
    .skip))
  (.seq (.seq (.reg none [⟨10, (.op (.fa (.t 2) 0)), none⟩, ⟨11, (.op (.load (.t 10) 1 false)), none⟩] [9, 10])
  (.block 0 (.seq (.reg none [⟨13, (.op (.bin .eql (.t 11) (.k (.int .i64 1)))), none⟩, ⟨12, (.op (.mv (.t 13))), none⟩] [13])
    (.cond (.t 12)
      (.seq (.reg none [⟨4, (.op (.mv (.k (.int .i64 0)))), none⟩, ⟨5, (.op (.mv (.k (.int .i64 1)))), none⟩] [1, 2, 11, 12])
      .ret)
      (.seq (.reg none [⟨15, (.op (.bin .eql (.t 11) (.k (.int .i64 2)))), none⟩, ⟨14, (.op (.mv (.t 15))), none⟩] [12, 15])
      (.cond (.t 14)
        (.seq (.reg none [⟨4, (.op (.mv (.k (.int .i64 (-1000000000000))))), none⟩, ⟨5, (.op (.mv (.k (.int .i64 1000000000000)))), none⟩] [1, 2, 11, 14])
        .ret)
        (.seq (.reg none [⟨17, (.op (.bin .eql (.t 11) (.k (.int .i64 3)))), none⟩, ⟨16, (.op (.mv (.t 17))), none⟩] [14, 17])
        (.cond (.t 16)
          (.seq (.reg none [⟨4, (.op (.mv (.k (.int .i64 (-1000000000000000))))), none⟩, ⟨5, (.op (.mv (.k (.int .i64 1000000000000000)))), none⟩] [1, 2, 11, 16])
          .ret)
          (.seq (.reg none [⟨19, (.op (.bin .eql (.t 11) (.k (.int .i64 4)))), none⟩, ⟨18, (.op (.mv (.t 19))), none⟩] [16, 19])
          (.cond (.t 18)
            (.seq (.reg none [⟨4, (.op (.mv (.k (.int .i64 (-1000000000))))), none⟩, ⟨5, (.op (.mv (.k (.int .i64 1000000000)))), none⟩] [1, 2, 11, 18])
            .ret)
            (.seq (.reg none [⟨21, (.op (.bin .eql (.t 11) (.k (.int .i64 5)))), none⟩, ⟨20, (.op (.mv (.t 21))), none⟩] [11, 18, 21])
            (.cond (.t 20)
              (.seq (.reg none [⟨4, (.op (.mv (.k (.int .i64 0)))), none⟩, ⟨5, (.op (.mv (.k (.int .i64 109572)))), none⟩] [1, 2, 20])
              .ret)
              .skip))))))))))))
  (.seq (.reg (some 10) [⟨22, (.op (.mv (.t 1))), none⟩, ⟨23, (.op (.fa (.t 2) 1)), none⟩, ⟨24, (.op (.load (.t 23) 1 false)), none⟩, ⟨25, (.op (.ia (.t 22) (.t 24) 2)), none⟩, ⟨26, (.op (.fa (.t 25) 1)), none⟩, ⟨27, (.op (.load (.t 26) 1 false)), none⟩, ⟨28, (.op (.len (.t 27))), none⟩, ⟨29, (.op (.bin .sub (.t 28) (.k (.int .i64 1)))), none⟩, ⟨4, (.op (.mv (.k (.int .i64 0)))), none⟩, ⟨5, (.op (.mv (.t 29))), none⟩] [1, 2, 20, 22, 23, 24, 25, 26, 27, 28, 29])
  .ret))))
theorem k91 : fnOk Tryd.prog Tryd.f91 c91 30 2 [.t 4, .t 5] = true := by kernel_rfl
/-- guerdon/date.daysInYear -/
def c92 : FC :=
  (.seq (.reg none [⟨2, (.op (.mv (.k (.int .i64 0)))), none⟩] [2])
  (.seq (.seq (.reg none [⟨3, (.op (.mv (.t 0))), none⟩, ⟨4, (.callL 105 [.t 3]), none⟩] [0, 3])
  (.cond (.t 4)
    (.seq (.reg none [⟨2, (.op (.mv (.k (.int .i64 366)))), none⟩] [4])
    .ret)
    .skip))
  (.seq (.reg none [⟨2, (.op (.mv (.k (.int .i64 365)))), none⟩] [4])
  .ret)))
theorem k92 : fnOk Tryd.prog Tryd.f92 c92 5 1 [.t 2] = true := by kernel_rfl
/-- guerdon/date.DaysInMonth -/
def c93 : FC :=
  (.seq (.reg none [⟨4, (.op (.mv (.k (.int .i64 0)))), none⟩] [4])
  (.seq (.reg none [⟨6, (.op (.build [(.int .i64 0), (.int .i64 0), (.int .i64 0), (.int .i64 0), (.int .i64 0), (.int .i64 0), (.int .i64 0), (.int .i64 0), (.int .i64 0), (.int .i64 0), (.int .i64 0), (.int .i64 0), (.int .i64 0)] [(0, 1), (1, 1), (2, 1), (3, 1), (4, 1), (5, 1), (6, 1), (7, 1), (8, 1), (9, 1), (10, 1), (11, 1), (12, 1)] [.k (.int .i64 0), .k (.int .i64 31), .k (.int .i64 28), .k (.int .i64 31), .k (.int .i64 30), .k (.int .i64 31), .k (.int .i64 30), .k (.int .i64 31), .k (.int .i64 31), .k (.int .i64 30), .k (.int .i64 31), .k (.int .i64 30), .k (.int .i64 31)])), none⟩, ⟨5, (.op (.alloc [(.int .i64 0), (.int .i64 0), (.int .i64 0), (.int .i64 0), (.int .i64 0), (.int .i64 0), (.int .i64 0), (.int .i64 0), (.int .i64 0), (.int .i64 0), (.int .i64 0), (.int .i64 0), (.int .i64 0)])), none⟩, ⟨0, (.op (.store (.t 5) (.t 6) 13 true)), none⟩] [6])
  (.seq (.seq (.reg none [⟨7, (.op (.mv (.t 1))), none⟩, ⟨8, (.op (.bin .lss (.t 7) (.k (.int .i64 1)))), none⟩, ⟨9, (.op (.mv (.t 8))), none⟩, ⟨10, (.op (.mv (.t 1))), some (9, false)⟩, ⟨11, (.op (.bin .gtr (.t 10) (.k (.int .i64 12)))), some (9, false)⟩, ⟨12, (.op (.pick (.t 9) (.k (.bool true)) (.t 11))), none⟩] [7, 8, 9, 10, 11])
  (.cond (.t 12)
    (.seq (.reg none [⟨4, (.op (.mv (.k (.int .i64 0)))), none⟩] [0, 1, 5, 12])
    .ret)
    .skip))
  (.seq (.seq (.reg none [⟨13, (.op (.mv (.t 1))), none⟩, ⟨14, (.op (.bin .eql (.t 13) (.k (.int .i64 2)))), none⟩, ⟨15, (.op (.mv (.t 14))), none⟩, ⟨16, (.op (.mv (.t 0))), some (15, true)⟩, ⟨17, (.callL 105 [.t 16]), some (15, true)⟩, ⟨18, (.op (.pick (.t 15) (.t 17) (.k (.bool false)))), none⟩] [0, 12, 13, 14, 15, 16, 17])
  (.cond (.t 18)
    (.seq (.reg none [⟨4, (.op (.mv (.k (.int .i64 29)))), none⟩] [1, 5, 18])
    .ret)
    .skip))
  (.seq (.reg none [⟨19, (.op (.mv (.t 1))), none⟩, ⟨20, (.op (.iaA (.t 5) (.t 19) 1 13)), none⟩, ⟨21, (.op (.load (.t 20) 1 false)), none⟩, ⟨4, (.op (.mv (.t 21))), none⟩] [1, 5, 18, 19, 20, 21])
  .ret)))))
theorem k93 : fnOk Tryd.prog Tryd.f93 c93 22 2 [.t 4] = true := by kernel_rfl
/-- guerdon/guerdonref09.In -/
def c94 : FC :=
  (.seq (.reg none [⟨4, (.op (.box (.t 1))), none⟩, ⟨6, (.op (.mv (.k (.bool false)))), none⟩] [1, 6])
  (.seq (.reg none [⟨10, (.op (.load (.t 4) 2 true)), none⟩, ⟨11, (.op (.mv (.t 2))), none⟩, ⟨12, (.callL 106 [.t 10, .t 11]), none⟩, ⟨9, (.op (.mvP true (.t 12))), none⟩, ⟨13, (.op (.extract 9 0)), none⟩, ⟨14, (.op (.extract 9 1)), none⟩, ⟨7, (.op (.mvP true (.t 13))), none⟩, ⟨8, (.op (.mvP true (.t 14))), none⟩] [2, 4, 9, 10, 11, 12, 13, 14])
  (.seq (.reg none [⟨15, (.op (.mv (.t 7))), none⟩, ⟨16, (.op (.mv (.t 0))), none⟩, ⟨17, (.op (.bin .leq (.t 15) (.t 16))), none⟩, ⟨18, (.op (.mv (.t 17))), none⟩, ⟨19, (.op (.mv (.t 0))), some (18, true)⟩, ⟨20, (.op (.mv (.t 8))), some (18, true)⟩, ⟨21, (.op (.bin .leq (.t 19) (.t 20))), some (18, true)⟩, ⟨22, (.op (.pick (.t 18) (.t 21) (.k (.bool false)))), none⟩, ⟨6, (.op (.mv (.t 22))), none⟩] [0, 7, 8, 15, 16, 17, 18, 19, 20, 21, 22])
  .ret)))
theorem k94 : fnOk Tryd.prog Tryd.f94 c94 23 3 [.t 6] = true := by kernel_rfl
/-- guerdon/guerdonref04.Valid -/
def c95 : FC :=
  (.seq (.reg none [⟨2, (.op (.mv (.k (.bool false)))), none⟩] [2])
  (.seq (.reg none [⟨3, (.op (.mv (.t 0))), none⟩, ⟨4, (.op (.bin .geq (.t 3) (.k (.int .i64 0)))), none⟩, ⟨5, (.op (.mv (.t 4))), none⟩, ⟨6, (.op (.mv (.t 0))), some (5, true)⟩, ⟨7, (.op (.bin .leq (.t 6) (.k (.int .i64 109572)))), some (5, true)⟩, ⟨8, (.op (.pick (.t 5) (.t 7) (.k (.bool false)))), none⟩, ⟨2, (.op (.mv (.t 8))), none⟩] [0, 3, 4, 5, 6, 7, 8])
  .ret))
theorem k95 : fnOk Tryd.prog Tryd.f95 c95 9 1 [.t 2] = true := by kernel_rfl
/-- guerdon/guerdonref04.ToYMD -/
def c96 : FC :=
  (.seq (.reg none [⟨2, (.op (.mv (.k (.int .i64 0)))), none⟩, ⟨3, (.op (.mv (.k (.int .i64 0)))), none⟩, ⟨4, (.op (.mv (.k (.int .i64 0)))), none⟩] [2, 3, 4])
  (.seq (.seq (.reg none [⟨7, (.op (.mv (.t 0))), none⟩, ⟨8, (.callL 95 [.t 7]), none⟩, ⟨9, (.op (.un .not (.t 8))), none⟩] [7, 8])
  (.cond (.t 9)
    (.seq (.reg none [⟨2, (.op (.mv (.k (.int .i64 0)))), none⟩, ⟨3, (.op (.mv (.k (.int .i64 0)))), none⟩, ⟨4, (.op (.mv (.k (.int .i64 0)))), none⟩] [0, 9])
    .ret)
    .skip))
  (.seq (.reg none [⟨5, (.op (.mv (.k (.int .i64 1900)))), none⟩, ⟨6, (.op (.mv (.k (.int .i64 1)))), none⟩] [9])
  (.seq (.block 0 (.loop (.seq (.seq (.reg none [⟨10, (.op (.mv (.t 0))), none⟩, ⟨11, (.op (.mv (.t 5))), none⟩, ⟨12, (.callL 107 [.t 11]), none⟩, ⟨13, (.op (.bin .geq (.t 10) (.t 12))), none⟩] [10, 11, 12])
      (.cond (.t 13)
        .skip
        (.exit 0)))
      (.block 1 (.seq (.reg none [⟨14, (.op (.mv (.t 0))), none⟩, ⟨15, (.op (.mv (.t 5))), none⟩, ⟨16, (.callL 107 [.t 15]), none⟩, ⟨17, (.op (.bin .sub (.t 14) (.t 16))), none⟩, ⟨0, (.op (.mv (.t 17))), none⟩] [13, 14, 15, 16, 17])
        (.reg none [⟨18, (.op (.mv (.t 5))), none⟩, ⟨19, (.op (.bin .add (.t 18) (.k (.int .i64 1)))), none⟩, ⟨5, (.op (.mv (.t 19))), none⟩] [18, 19]))))))
  (.seq (.block 2 (.loop (.seq (.seq (.reg none [⟨20, (.op (.mv (.t 0))), none⟩, ⟨21, (.op (.mv (.t 5))), none⟩, ⟨22, (.op (.mv (.t 6))), none⟩, ⟨23, (.callL 108 [.t 21, .t 22]), none⟩, ⟨24, (.op (.bin .geq (.t 20) (.t 23))), none⟩] [13, 20, 21, 22, 23])
      (.cond (.t 24)
        .skip
        (.exit 2)))
      (.block 3 (.seq (.reg none [⟨25, (.op (.mv (.t 0))), none⟩, ⟨26, (.op (.mv (.t 5))), none⟩, ⟨27, (.op (.mv (.t 6))), none⟩, ⟨28, (.callL 108 [.t 26, .t 27]), none⟩, ⟨29, (.op (.bin .sub (.t 25) (.t 28))), none⟩, ⟨0, (.op (.mv (.t 29))), none⟩] [24, 25, 26, 27, 28, 29])
        (.reg none [⟨30, (.op (.mv (.t 6))), none⟩, ⟨31, (.op (.bin .add (.t 30) (.k (.int .i64 1)))), none⟩, ⟨6, (.op (.mv (.t 31))), none⟩] [30, 31]))))))
  (.seq (.reg none [⟨32, (.op (.mv (.t 5))), none⟩, ⟨33, (.op (.mv (.t 6))), none⟩, ⟨34, (.op (.mv (.t 0))), none⟩, ⟨35, (.op (.bin .add (.t 34) (.k (.int .i64 1)))), none⟩, ⟨2, (.op (.mv (.t 32))), none⟩, ⟨3, (.op (.mv (.t 33))), none⟩, ⟨4, (.op (.mv (.t 35))), none⟩] [0, 5, 6, 24, 32, 33, 34, 35])
  .ret))))))
theorem k96 : fnOk Tryd.prog Tryd.f96 c96 36 1 [.t 2, .t 3, .t 4] = true := by kernel_rfl
/-- guerdon/guerdonref04.pad -/
def c97 : FC :=
  (.seq (.reg none [⟨4, (.op (.mv (.k (.str [])))), none⟩] [4])
  (.seq (.reg none [⟨6, (.op (.mv (.t 0))), none⟩, ⟨7, (.callL 30 [.t 6]), none⟩, ⟨5, (.op (.mvP true (.t 7))), none⟩] [0, 6, 7])
  (.seq (.block 0 (.loop (.seq (.seq (.reg none [⟨8, (.op (.mv (.t 5))), none⟩, ⟨9, (.op (.lenS (.t 8))), none⟩, ⟨10, (.op (.mv (.t 1))), none⟩, ⟨11, (.op (.bin .lss (.t 9) (.t 10))), none⟩] [8, 9, 10])
      (.cond (.t 11)
        .skip
        (.exit 0)))
      (.block 1 (.reg none [⟨12, (.op (.mv (.t 5))), none⟩, ⟨13, (.op (.bin .add (.k (.str [48])) (.t 12))), none⟩, ⟨5, (.op (.mv (.t 13))), none⟩] [11, 12, 13])))))
  (.seq (.reg none [⟨14, (.op (.mv (.t 5))), none⟩, ⟨4, (.op (.mv (.t 14))), none⟩] [1, 5, 11, 14])
  .ret))))
theorem k97 : fnOk Tryd.prog Tryd.f97 c97 15 2 [.t 4] = true := by kernel_rfl
/-- guerdon/date.IsLeap -/
def c105 : FC :=
  (.seq (.reg none [⟨2, (.op (.mv (.k (.bool false)))), none⟩] [2])
  (.seq (.reg none [⟨3, (.op (.mv (.t 0))), none⟩, ⟨4, (.op (.bin .rem (.t 3) (.k (.int .i64 4)))), none⟩, ⟨5, (.op (.bin .eql (.t 4) (.k (.int .i64 0)))), none⟩, ⟨6, (.op (.mv (.t 5))), none⟩, ⟨7, (.op (.mv (.t 0))), some (6, true)⟩, ⟨8, (.op (.bin .rem (.t 7) (.k (.int .i64 100)))), some (6, true)⟩, ⟨9, (.op (.bin .neq (.t 8) (.k (.int .i64 0)))), some (6, true)⟩, ⟨10, (.op (.mv (.t 9))), some (6, true)⟩, ⟨11, (.op (.mv (.t 0))), some (10, false)⟩, ⟨12, (.op (.bin .rem (.t 11) (.k (.int .i64 400)))), some (10, false)⟩, ⟨13, (.op (.bin .eql (.t 12) (.k (.int .i64 0)))), some (10, false)⟩, ⟨14, (.op (.pick (.t 10) (.k (.bool true)) (.t 13))), some (6, true)⟩, ⟨15, (.op (.pick (.t 6) (.t 14) (.k (.bool false)))), none⟩, ⟨2, (.op (.mv (.t 15))), none⟩] [0, 3, 4, 5, 6, 7, 8, 9, 10, 11, 12, 13, 14, 15])
  .ret))
theorem k105 : fnOk Tryd.prog Tryd.f105 c105 16 1 [.t 2] = true := by kernel_rfl
/-- guerdon/guerdonref09.Bounds -/
def c106 : FC :=
  (.seq (.reg none [⟨2, (.op (.box (.t 0))), none⟩, ⟨4, (.op (.mv (.k (.int .i64 0)))), none⟩, ⟨5, (.op (.mv (.k (.int .i64 0)))), none⟩] [0, 4, 5])
  (.seq (.seq (.reg none [⟨6, (.op (.load (.t 2) 2 true)), none⟩, ⟨7, (.op (.mv (.t 1))), none⟩, ⟨8, (.callL 80 [.t 6, .t 7]), none⟩, ⟨9, (.op (.un .not (.t 8))), none⟩] [6, 7, 8])
  (.cond (.t 9)
    (.seq (.reg none [⟨4, (.op (.mv (.k (.int .i64 0)))), none⟩, ⟨5, (.op (.mv (.k (.int .i64 (-1))))), none⟩] [1, 2, 9])
    .ret)
    .skip))
  (.seq (.seq (.reg none [⟨10, (.op (.fa (.t 2) 0)), none⟩, ⟨11, (.op (.load (.t 10) 1 false)), none⟩] [9, 10])
  (.block 0 (.seq (.reg none [⟨13, (.op (.bin .eql (.t 11) (.k (.int .i64 1)))), none⟩, ⟨12, (.op (.mv (.t 13))), none⟩] [13])
    (.cond (.t 12)
      (.seq (.reg none [⟨4, (.op (.mv (.k (.int .i64 0)))), none⟩, ⟨5, (.op (.mv (.k (.int .i64 1)))), none⟩] [1, 2, 11, 12])
      .ret)
      (.seq (.reg none [⟨15, (.op (.bin .eql (.t 11) (.k (.int .i64 2)))), none⟩, ⟨14, (.op (.mv (.t 15))), none⟩] [12, 15])
      (.cond (.t 14)
        (.seq (.reg none [⟨4, (.op (.mv (.k (.int .i64 (-1000000000000))))), none⟩, ⟨5, (.op (.mv (.k (.int .i64 1000000000000)))), none⟩] [1, 2, 11, 14])
        .ret)
        (.seq (.reg none [⟨17, (.op (.bin .eql (.t 11) (.k (.int .i64 3)))), none⟩, ⟨16, (.op (.mv (.t 17))), none⟩] [14, 17])
        (.cond (.t 16)
          (.seq (.reg none [⟨4, (.op (.mv (.k (.int .i64 (-1000000000000000))))), none⟩, ⟨5, (.op (.mv (.k (.int .i64 1000000000000000)))), none⟩] [1, 2, 11, 16])
          .ret)
          (.seq (.reg none [⟨19, (.op (.bin .eql (.t 11) (.k (.int .i64 4)))), none⟩, ⟨18, (.op (.mv (.t 19))), none⟩] [16, 19])
          (.cond (.t 18)
            (.seq (.reg none [⟨4, (.op (.mv (.k (.int .i64 (-1000000000))))), none⟩, ⟨5, (.op (.mv (.k (.int .i64 1000000000)))), none⟩] [1, 2, 11, 18])
            .ret)
            (.seq (.reg none [⟨21, (.op (.bin .eql (.t 11) (.k (.int .i64 5)))), none⟩, ⟨20, (.op (.mv (.t 21))), none⟩] [11, 18, 21])
            (.cond (.t 20)
              (.seq (.reg none [⟨4, (.op (.mv (.k (.int .i64 0)))), none⟩, ⟨5, (.op (.mv (.k (.int .i64 109572)))), none⟩] [1, 2, 20])
              .ret)
              .skip))))))))))))
  (.seq (.reg (some 10) [⟨22, (.op (.mv (.t 1))), none⟩, ⟨23, (.op (.fa (.t 2) 1)), none⟩, ⟨24, (.op (.load (.t 23) 1 false)), none⟩, ⟨25, (.op (.ia (.t 22) (.t 24) 2)), none⟩, ⟨26, (.op (.fa (.t 25) 1)), none⟩, ⟨27, (.op (.load (.t 26) 1 false)), none⟩, ⟨28, (.op (.len (.t 27))), none⟩, ⟨29, (.op (.bin .sub (.t 28) (.k (.int .i64 1)))), none⟩, ⟨4, (.op (.mv (.k (.int .i64 0)))), none⟩, ⟨5, (.op (.mv (.t 29))), none⟩] [1, 2, 20, 22, 23, 24, 25, 26, 27, 28, 29])
  .ret))))
theorem k106 : fnOk Tryd.prog Tryd.f106 c106 30 2 [.t 4, .t 5] = true := by kernel_rfl
/-- guerdon/guerdonref04.daysInYear -/
def c107 : FC :=
  (.seq (.reg none [⟨2, (.op (.mv (.k (.int .i64 0)))), none⟩] [2])
  (.seq (.seq (.reg none [⟨3, (.op (.mv (.t 0))), none⟩, ⟨4, (.callL 114 [.t 3]), none⟩] [0, 3])
  (.cond (.t 4)
    (.seq (.reg none [⟨2, (.op (.mv (.k (.int .i64 366)))), none⟩] [4])
    .ret)
    .skip))
  (.seq (.reg none [⟨2, (.op (.mv (.k (.int .i64 365)))), none⟩] [4])
  .ret)))
theorem k107 : fnOk Tryd.prog Tryd.f107 c107 5 1 [.t 2] = true := by kernel_rfl
/-- guerdon/guerdonref04.DaysInMonth -/
def c108 : FC :=
  (.seq (.reg none [⟨4, (.op (.mv (.k (.int .i64 0)))), none⟩] [4])
  (.seq (.seq (.reg none [⟨5, (.op (.mv (.t 1))), none⟩] [1])
  (.block 0 (.seq (.reg none [⟨7, (.op (.bin .eql (.t 5) (.k (.int .i64 2)))), none⟩, ⟨6, (.op (.mv (.t 7))), none⟩] [7])
    (.cond (.t 6)
      (.seq (.seq (.reg none [⟨8, (.op (.mv (.t 0))), none⟩, ⟨9, (.callL 114 [.t 8]), none⟩] [0, 5, 6, 8])
      (.cond (.t 9)
        (.seq (.reg none [⟨4, (.op (.mv (.k (.int .i64 29)))), none⟩] [9])
        .ret)
        .skip))
      (.seq (.reg none [⟨4, (.op (.mv (.k (.int .i64 28)))), none⟩] [9])
      .ret))
      (.seq (.seq (.reg none [⟨11, (.op (.bin .eql (.t 5) (.k (.int .i64 4)))), none⟩, ⟨10, (.op (.mv (.t 11))), none⟩] [0, 6, 11])
      (.cond (.t 10)
        .skip
        (.seq (.reg none [⟨12, (.op (.bin .eql (.t 5) (.k (.int .i64 6)))), none⟩, ⟨10, (.op (.mv (.t 12))), none⟩] [12])
        (.cond (.t 10)
          .skip
          (.seq (.reg none [⟨13, (.op (.bin .eql (.t 5) (.k (.int .i64 9)))), none⟩, ⟨10, (.op (.mv (.t 13))), none⟩] [13])
          (.cond (.t 10)
            .skip
            (.reg none [⟨14, (.op (.bin .eql (.t 5) (.k (.int .i64 11)))), none⟩, ⟨10, (.op (.mv (.t 14))), none⟩] [14])))))))
      (.cond (.t 10)
        (.seq (.reg none [⟨4, (.op (.mv (.k (.int .i64 30)))), none⟩] [5, 10])
        .ret)
        (.seq (.seq (.reg none [⟨16, (.op (.bin .eql (.t 5) (.k (.int .i64 1)))), none⟩, ⟨15, (.op (.mv (.t 16))), none⟩] [10, 16])
        (.cond (.t 15)
          .skip
          (.seq (.reg none [⟨17, (.op (.bin .eql (.t 5) (.k (.int .i64 3)))), none⟩, ⟨15, (.op (.mv (.t 17))), none⟩] [17])
          (.cond (.t 15)
            .skip
            (.seq (.reg none [⟨18, (.op (.bin .eql (.t 5) (.k (.int .i64 5)))), none⟩, ⟨15, (.op (.mv (.t 18))), none⟩] [18])
            (.cond (.t 15)
              .skip
              (.seq (.reg none [⟨19, (.op (.bin .eql (.t 5) (.k (.int .i64 7)))), none⟩, ⟨15, (.op (.mv (.t 19))), none⟩] [19])
              (.cond (.t 15)
                .skip
                (.seq (.reg none [⟨20, (.op (.bin .eql (.t 5) (.k (.int .i64 8)))), none⟩, ⟨15, (.op (.mv (.t 20))), none⟩] [20])
                (.cond (.t 15)
                  .skip
                  (.seq (.reg none [⟨21, (.op (.bin .eql (.t 5) (.k (.int .i64 10)))), none⟩, ⟨15, (.op (.mv (.t 21))), none⟩] [21])
                  (.cond (.t 15)
                    .skip
                    (.reg none [⟨22, (.op (.bin .eql (.t 5) (.k (.int .i64 12)))), none⟩, ⟨15, (.op (.mv (.t 22))), none⟩] [5, 22])))))))))))))
        (.cond (.t 15)
          (.seq (.reg none [⟨4, (.op (.mv (.k (.int .i64 31)))), none⟩] [5, 15])
          .ret)
          .skip))))))))
  (.seq (.reg none [⟨4, (.op (.mv (.k (.int .i64 0)))), none⟩] [5, 15])
  .ret)))
theorem k108 : fnOk Tryd.prog Tryd.f108 c108 23 2 [.t 4] = true := by kernel_rfl
/-- guerdon/guerdonref04.IsLeap -/
def c114 : FC :=
  (.seq (.reg none [⟨2, (.op (.mv (.k (.bool false)))), none⟩] [2])
  (.seq (.reg none [⟨3, (.op (.mv (.t 0))), none⟩, ⟨4, (.op (.bin .rem (.t 3) (.k (.int .i64 4)))), none⟩, ⟨5, (.op (.bin .eql (.t 4) (.k (.int .i64 0)))), none⟩, ⟨6, (.op (.mv (.t 5))), none⟩, ⟨7, (.op (.mv (.t 0))), some (6, true)⟩, ⟨8, (.op (.bin .rem (.t 7) (.k (.int .i64 100)))), some (6, true)⟩, ⟨9, (.op (.bin .neq (.t 8) (.k (.int .i64 0)))), some (6, true)⟩, ⟨10, (.op (.mv (.t 9))), some (6, true)⟩, ⟨11, (.op (.mv (.t 0))), some (10, false)⟩, ⟨12, (.op (.bin .rem (.t 11) (.k (.int .i64 400)))), some (10, false)⟩, ⟨13, (.op (.bin .eql (.t 12) (.k (.int .i64 0)))), some (10, false)⟩, ⟨14, (.op (.pick (.t 10) (.k (.bool true)) (.t 13))), some (6, true)⟩, ⟨15, (.op (.pick (.t 6) (.t 14) (.k (.bool false)))), none⟩, ⟨2, (.op (.mv (.t 15))), none⟩] [0, 3, 4, 5, 6, 7, 8, 9, 10, 11, 12, 13, 14, 15])
  .ret))
theorem k114 : fnOk Tryd.prog Tryd.f114 c114 16 1 [.t 2] = true := by kernel_rfl
/-- guerdon/report.Result -/
def c11 : FC :=
  (.seq (.reg none [⟨3, (.op (.box (.t 0))), none⟩, ⟨5, (.op (.box (.t 2))), none⟩, ⟨6, (.op (.mv (.k (.arr [])))), none⟩] [0, 2, 6])
  (.seq (.reg none [⟨13, (.op (.load (.t 3) 3 true)), none⟩, ⟨14, (.op (.mv (.t 1))), none⟩, ⟨15, (.callL 24 [.t 13, .t 14]), none⟩, ⟨12, (.op (.mvP true (.t 15))), none⟩, ⟨16, (.op (.extract 12 0)), none⟩, ⟨17, (.op (.extract 12 1)), none⟩, ⟨7, (.op (.alloc [(.str []), (.int .i64 0), (.sl true []), (.sl true []), (.sl true [])])), none⟩, ⟨0, (.op (.store (.t 7) (.t 16) 5 true)), none⟩, ⟨8, (.op (.mvP true (.t 17))), none⟩] [8, 12, 13, 14, 15, 16, 17])
  (.seq (.reg none [⟨18, (.op (.load (.t 3) 3 true)), none⟩, ⟨19, (.op (.load (.t 7) 5 true)), none⟩, ⟨20, (.op (.fa (.t 5) 0)), none⟩, ⟨21, (.op (.load (.t 20) 1 false)), none⟩, ⟨22, (.op (.fa (.t 5) 1)), none⟩, ⟨23, (.op (.load (.t 22) 1 false)), none⟩, ⟨24, (.callL 25 [.t 18, .t 19, .k (.str []), .t 21, .t 23]), none⟩, ⟨9, (.op (.mvP true (.t 24))), none⟩] [7, 18, 19, 20, 21, 22, 23, 24])
  (.seq (.seq (.reg none [⟨25, (.op (.fa (.t 5) 2)), none⟩, ⟨26, (.op (.load (.t 25) 1 false)), none⟩, ⟨27, (.op (.len (.t 26))), none⟩, ⟨28, (.op (.mv (.k (.int .i64 0)))), none⟩] [])
  (.block 0 (.loop (.seq (.reg none [⟨29, (.op (.bin .lss (.t 28) (.t 27))), none⟩] [])
      (.seq (.cond (.t 29)
        .skip
        (.exit 0))
      (.seq (.block 1 (.seq (.reg none [⟨30, (.op (.mv (.t 28))), none⟩, ⟨31, (.op (.ia (.t 26) (.t 28) 2)), none⟩, ⟨32, (.op (.load (.t 31) 2 true)), none⟩, ⟨11, (.op (.alloc [(.sl true []), (.sl true [])])), none⟩, ⟨10, (.op (.mv (.t 30))), none⟩, ⟨0, (.op (.store (.t 11) (.t 32) 2 true)), none⟩] [29, 30, 31, 32])
        (.reg (some 14) [⟨33, (.op (.mv (.t 9))), none⟩, ⟨34, (.op (.load (.t 3) 3 true)), none⟩, ⟨35, (.op (.load (.t 3) 3 true)), none⟩, ⟨36, (.op (.mv (.t 1))), none⟩, ⟨37, (.callL 26 [.t 35, .t 36]), none⟩, ⟨38, (.op (.mv (.t 10))), none⟩, ⟨39, (.callL 27 [.t 38]), none⟩, ⟨40, (.op (.bin .add (.k (.str [109, 101, 109, 98, 101, 114, 32])) (.t 39))), none⟩, ⟨41, (.op (.bin .add (.t 40) (.k (.str [58, 32])))), none⟩, ⟨42, (.op (.fa (.t 11) 0)), none⟩, ⟨43, (.op (.load (.t 42) 1 false)), none⟩, ⟨44, (.op (.fa (.t 11) 1)), none⟩, ⟨45, (.op (.load (.t 44) 1 false)), none⟩, ⟨46, (.callL 25 [.t 34, .t 37, .t 41, .t 43, .t 45]), none⟩, ⟨47, (.op (.app (.t 33) (.t 46) 1 16)), none⟩, ⟨9, (.op (.mvP true (.t 47))), none⟩] [10, 11, 33, 34, 35, 36, 37, 38, 39, 40, 41, 42, 43, 44, 45, 46, 47])))
      (.reg none [⟨48, (.op (.bin .add (.t 28) (.k (.int .i64 1)))), none⟩, ⟨28, (.op (.mv (.t 48))), none⟩] [48])))))))
  (.seq (.reg none [⟨49, (.op (.mv (.t 9))), none⟩, ⟨6, (.op (.mv (.t 49))), none⟩] [1, 3, 5, 25, 26, 27, 28, 29])
  .ret)))))
theorem k11 : fnOk Tryd.prog Tryd.f11 c11 50 3 [.t 6] = true := by kernel_rfl
/-- guerdon/guerdonref54.Result -/
def c12 : FC :=
  (.seq (.reg none [⟨3, (.op (.box (.t 0))), none⟩, ⟨5, (.op (.box (.t 2))), none⟩, ⟨6, (.op (.mv (.k (.arr [])))), none⟩] [0, 2, 6])
  (.seq (.reg none [⟨10, (.op (.load (.t 3) 3 true)), none⟩, ⟨11, (.op (.mv (.t 1))), none⟩, ⟨12, (.callL 28 [.t 10, .t 11]), none⟩, ⟨7, (.op (.alloc [(.str []), (.int .i64 0), (.sl true []), (.sl true []), (.sl true [])])), none⟩, ⟨0, (.op (.store (.t 7) (.t 12) 5 true)), none⟩] [1, 10, 11, 12])
  (.seq (.reg none [⟨13, (.op (.load (.t 3) 3 true)), none⟩, ⟨14, (.op (.load (.t 7) 5 true)), none⟩, ⟨15, (.op (.fa (.t 5) 0)), none⟩, ⟨16, (.op (.load (.t 15) 1 false)), none⟩, ⟨17, (.op (.fa (.t 5) 1)), none⟩, ⟨18, (.op (.load (.t 17) 1 false)), none⟩, ⟨19, (.call 29 [(true, .k (.arr [])), (false, .k (.str [])), (false, .t 13), (false, .t 14), (false, .t 16), (false, .t 18)]), none⟩, ⟨8, (.op (.mvP true (.t 19))), none⟩] [13, 14, 15, 16, 17, 18, 19])
  (.seq (.seq (.reg none [⟨9, (.op (.mv (.k (.int .i64 0)))), none⟩] [])
  (.block 0 (.loop (.seq (.seq (.reg none [⟨20, (.op (.mv (.t 9))), none⟩, ⟨21, (.op (.fa (.t 5) 2)), none⟩, ⟨22, (.op (.load (.t 21) 1 false)), none⟩, ⟨23, (.op (.len (.t 22))), none⟩, ⟨24, (.op (.bin .lss (.t 20) (.t 23))), none⟩] [20, 21, 22, 23])
      (.cond (.t 24)
        .skip
        (.exit 0)))
      (.seq (.block 1 (.reg (some 22) [⟨27, (.op (.mv (.t 8))), none⟩, ⟨28, (.op (.mv (.t 9))), none⟩, ⟨29, (.callL 30 [.t 28]), none⟩, ⟨30, (.op (.bin .add (.k (.str [109, 101, 109, 98, 101, 114, 32])) (.t 29))), none⟩, ⟨31, (.op (.bin .add (.t 30) (.k (.str [58, 32])))), none⟩, ⟨32, (.op (.load (.t 3) 3 true)), none⟩, ⟨33, (.op (.load (.t 3) 3 true)), none⟩, ⟨34, (.op (.fa (.t 7) 1)), none⟩, ⟨35, (.op (.load (.t 34) 1 false)), none⟩, ⟨36, (.callL 28 [.t 33, .t 35]), none⟩, ⟨37, (.op (.fa (.t 5) 2)), none⟩, ⟨38, (.op (.load (.t 37) 1 false)), none⟩, ⟨39, (.op (.mv (.t 9))), none⟩, ⟨40, (.op (.ia (.t 38) (.t 39) 2)), none⟩, ⟨41, (.op (.fa (.t 40) 0)), none⟩, ⟨42, (.op (.load (.t 41) 1 false)), none⟩, ⟨43, (.op (.fa (.t 5) 2)), none⟩, ⟨44, (.op (.load (.t 43) 1 false)), none⟩, ⟨45, (.op (.mv (.t 9))), none⟩, ⟨46, (.op (.ia (.t 44) (.t 45) 2)), none⟩, ⟨47, (.op (.fa (.t 46) 1)), none⟩, ⟨48, (.op (.load (.t 47) 1 false)), none⟩, ⟨49, (.call 29 [(true, .t 27), (false, .t 31), (false, .t 32), (false, .t 36), (false, .t 42), (false, .t 48)]), none⟩, ⟨8, (.op (.mvP true (.t 49))), none⟩] [24, 27, 28, 29, 30, 31, 32, 33, 34, 35, 36, 37, 38, 39, 40, 41, 42, 43, 44, 45, 46, 47, 48, 49]))
      (.reg none [⟨25, (.op (.mv (.t 9))), none⟩, ⟨26, (.op (.bin .add (.t 25) (.k (.int .i64 1)))), none⟩, ⟨9, (.op (.mv (.t 26))), none⟩] [25, 26]))))))
  (.seq (.reg none [⟨50, (.op (.mv (.t 8))), none⟩, ⟨6, (.op (.mv (.t 50))), none⟩] [3, 5, 7, 9, 24])
  .ret)))))
theorem k12 : fnOk Tryd.prog Tryd.f12 c12 51 3 [.t 6] = true := by kernel_rfl
/-- guerdon/report.EvalError -/
def c13 : FC :=
  (.seq (.reg none [⟨3, (.op (.box (.t 0))), none⟩, ⟨5, (.op (.box (.t 2))), none⟩, ⟨6, (.op (.mv (.k (.str [])))), none⟩] [0, 2, 6])
  (.seq (.seq (.reg none [⟨10, (.op (.fa (.t 5) 0)), none⟩, ⟨11, (.op (.load (.t 10) 1 false)), none⟩, ⟨12, (.op (.bin .eql (.t 11) (.k (.int .i64 0)))), none⟩] [10, 11])
  (.cond (.t 12)
    (.seq (.reg none [⟨6, (.op (.mv (.k (.str [111, 107])))), none⟩] [1, 3, 5, 12])
    .ret)
    .skip))
  (.seq (.reg none [⟨14, (.op (.load (.t 3) 3 true)), none⟩, ⟨15, (.op (.mv (.t 1))), none⟩, ⟨16, (.callL 24 [.t 14, .t 15]), none⟩, ⟨13, (.op (.mvP true (.t 16))), none⟩, ⟨17, (.op (.extract 13 0)), none⟩, ⟨18, (.op (.extract 13 1)), none⟩, ⟨7, (.op (.alloc [(.str []), (.int .i64 0), (.sl true []), (.sl true []), (.sl true [])])), none⟩, ⟨0, (.op (.store (.t 7) (.t 17) 5 true)), none⟩, ⟨8, (.op (.mvP true (.t 18))), none⟩] [8, 12, 13, 14, 15, 16, 17, 18])
  (.seq (.reg none [⟨19, (.op (.fa (.t 5) 0)), none⟩, ⟨20, (.op (.load (.t 19) 1 false)), none⟩, ⟨21, (.callL 27 [.t 20]), none⟩, ⟨22, (.op (.buildSl [(.str [])] 2 [0, 1] [.k (.str [101, 114, 114, 111, 114]), .t 21])), none⟩, ⟨9, (.op (.mvP true (.t 22))), none⟩] [19, 20, 21, 22])
  (.seq (.seq (.reg none [⟨23, (.op (.fa (.t 5) 1)), none⟩, ⟨24, (.op (.load (.t 23) 1 false)), none⟩, ⟨25, (.op (.bin .geq (.t 24) (.k (.int .i64 0)))), none⟩] [23, 24])
  (.cond (.t 25)
    (.seq (.reg none [⟨26, (.op (.load (.t 3) 3 true)), none⟩, ⟨27, (.op (.mv (.t 1))), none⟩, ⟨28, (.callL 26 [.t 26, .t 27]), none⟩, ⟨0, (.op (.store (.t 7) (.t 28) 5 true)), none⟩] [1, 3, 25, 26, 27, 28])
    (.reg none [⟨29, (.op (.mv (.t 9))), none⟩, ⟨30, (.op (.fa (.t 5) 1)), none⟩, ⟨31, (.op (.load (.t 30) 1 false)), none⟩, ⟨32, (.callL 27 [.t 31]), none⟩, ⟨33, (.op (.buildSl [(.str [])] 3 [0, 1, 2] [.k (.str [105, 110]), .k (.str [109, 101, 109, 98, 101, 114]), .t 32])), none⟩, ⟨34, (.op (.app (.t 29) (.t 33) 1 16)), none⟩, ⟨9, (.op (.mvP true (.t 34))), none⟩] [29, 30, 31, 32, 33, 34]))
    .skip))
  (.seq (.seq (.reg none [⟨35, (.op (.fa (.t 5) 2)), none⟩, ⟨36, (.op (.load (.t 35) 1 false)), none⟩, ⟨37, (.op (.bin .geq (.t 36) (.k (.int .i64 0)))), none⟩] [1, 3, 25, 35, 36])
  (.cond (.t 37)
    (.reg none [⟨38, (.op (.mv (.t 9))), none⟩, ⟨39, (.op (.load (.t 7) 5 true)), none⟩, ⟨40, (.op (.fa (.t 5) 2)), none⟩, ⟨41, (.op (.load (.t 40) 1 false)), none⟩, ⟨42, (.callL 31 [.t 39, .t 41]), none⟩, ⟨43, (.op (.buildSl [(.str [])] 2 [0, 1] [.k (.str [102, 111, 114]), .t 42])), none⟩, ⟨44, (.op (.app (.t 38) (.t 43) 1 16)), none⟩, ⟨9, (.op (.mvP true (.t 44))), none⟩] [37, 38, 39, 40, 41, 42, 43, 44])
    .skip))
  (.seq (.seq (.reg none [⟨45, (.op (.fa (.t 5) 3)), none⟩, ⟨46, (.op (.load (.t 45) 1 false)), none⟩, ⟨47, (.op (.bin .geq (.t 46) (.k (.int .i64 0)))), none⟩] [37, 45, 46])
  (.cond (.t 47)
    (.reg none [⟨48, (.op (.mv (.t 9))), none⟩, ⟨49, (.op (.load (.t 7) 5 true)), none⟩, ⟨50, (.op (.fa (.t 5) 3)), none⟩, ⟨51, (.op (.load (.t 50) 1 false)), none⟩, ⟨52, (.callL 32 [.t 49, .t 51]), none⟩, ⟨53, (.op (.buildSl [(.str [])] 2 [0, 1] [.k (.str [98, 121]), .t 52])), none⟩, ⟨54, (.op (.app (.t 48) (.t 53) 1 16)), none⟩, ⟨9, (.op (.mvP true (.t 54))), none⟩] [5, 7, 47, 48, 49, 50, 51, 52, 53, 54])
    .skip))
  (.seq (.reg none [⟨55, (.op (.mv (.t 9))), none⟩, ⟨56, (.callB 33 [.t 55, .k (.str [32])]), none⟩, ⟨6, (.op (.mvP true (.t 56))), none⟩] [5, 7, 9, 47, 55, 56])
  .ret))))))))
theorem k13 : fnOk Tryd.prog Tryd.f13 c13 57 3 [.t 6] = true := by kernel_rfl
/-- guerdon/guerdonref54.EvalError -/
def c14 : FC :=
  (.seq (.reg none [⟨3, (.op (.box (.t 0))), none⟩, ⟨5, (.op (.box (.t 2))), none⟩, ⟨6, (.op (.mv (.k (.str [])))), none⟩] [0, 2, 6])
  (.seq (.seq (.reg none [⟨9, (.op (.fa (.t 5) 0)), none⟩, ⟨10, (.op (.load (.t 9) 1 false)), none⟩, ⟨11, (.op (.bin .eql (.t 10) (.k (.int .i64 0)))), none⟩] [9, 10])
  (.cond (.t 11)
    (.seq (.reg none [⟨6, (.op (.mv (.k (.str [111, 107])))), none⟩] [1, 3, 5, 11])
    .ret)
    .skip))
  (.seq (.reg none [⟨12, (.op (.load (.t 3) 3 true)), none⟩, ⟨13, (.op (.mv (.t 1))), none⟩, ⟨14, (.callL 28 [.t 12, .t 13]), none⟩, ⟨7, (.op (.alloc [(.str []), (.int .i64 0), (.sl true []), (.sl true []), (.sl true [])])), none⟩, ⟨0, (.op (.store (.t 7) (.t 14) 5 true)), none⟩] [1, 11, 12, 13, 14])
  (.seq (.reg none [⟨15, (.op (.fa (.t 5) 0)), none⟩, ⟨16, (.op (.load (.t 15) 1 false)), none⟩, ⟨17, (.callL 30 [.t 16]), none⟩, ⟨18, (.op (.bin .add (.k (.str [101, 114, 114, 111, 114, 32])) (.t 17))), none⟩, ⟨8, (.op (.mv (.t 18))), none⟩] [15, 16, 17, 18])
  (.seq (.seq (.reg none [⟨19, (.op (.fa (.t 5) 1)), none⟩, ⟨20, (.op (.load (.t 19) 1 false)), none⟩, ⟨21, (.op (.bin .geq (.t 20) (.k (.int .i64 0)))), none⟩] [19, 20])
  (.cond (.t 21)
    (.seq (.reg none [⟨22, (.op (.load (.t 3) 3 true)), none⟩, ⟨23, (.op (.fa (.t 7) 1)), none⟩, ⟨24, (.op (.load (.t 23) 1 false)), none⟩, ⟨25, (.callL 28 [.t 22, .t 24]), none⟩, ⟨0, (.op (.store (.t 7) (.t 25) 5 true)), none⟩] [3, 21, 22, 23, 24, 25])
    (.reg none [⟨26, (.op (.mv (.t 8))), none⟩, ⟨27, (.op (.bin .add (.t 26) (.k (.str [32, 105, 110, 32, 109, 101, 109, 98, 101, 114, 32])))), none⟩, ⟨28, (.op (.fa (.t 5) 1)), none⟩, ⟨29, (.op (.load (.t 28) 1 false)), none⟩, ⟨30, (.callL 30 [.t 29]), none⟩, ⟨31, (.op (.bin .add (.t 27) (.t 30))), none⟩, ⟨8, (.op (.mv (.t 31))), none⟩] [26, 27, 28, 29, 30, 31]))
    .skip))
  (.seq (.seq (.reg none [⟨32, (.op (.fa (.t 5) 2)), none⟩, ⟨33, (.op (.load (.t 32) 1 false)), none⟩, ⟨34, (.op (.bin .geq (.t 33) (.k (.int .i64 0)))), none⟩] [3, 21, 32, 33])
  (.cond (.t 34)
    (.reg none [⟨35, (.op (.mv (.t 8))), none⟩, ⟨36, (.op (.bin .add (.t 35) (.k (.str [32, 102, 111, 114, 32])))), none⟩, ⟨37, (.op (.load (.t 7) 5 true)), none⟩, ⟨38, (.op (.fa (.t 5) 2)), none⟩, ⟨39, (.op (.load (.t 38) 1 false)), none⟩, ⟨40, (.callL 34 [.t 37, .t 39]), none⟩, ⟨41, (.op (.bin .add (.t 36) (.t 40))), none⟩, ⟨8, (.op (.mv (.t 41))), none⟩] [34, 35, 36, 37, 38, 39, 40, 41])
    .skip))
  (.seq (.seq (.reg none [⟨42, (.op (.fa (.t 5) 3)), none⟩, ⟨43, (.op (.load (.t 42) 1 false)), none⟩, ⟨44, (.op (.bin .geq (.t 43) (.k (.int .i64 0)))), none⟩] [34, 42, 43])
  (.cond (.t 44)
    (.reg none [⟨45, (.op (.mv (.t 8))), none⟩, ⟨46, (.op (.bin .add (.t 45) (.k (.str [32, 98, 121, 32])))), none⟩, ⟨47, (.op (.load (.t 7) 5 true)), none⟩, ⟨48, (.op (.fa (.t 5) 3)), none⟩, ⟨49, (.op (.load (.t 48) 1 false)), none⟩, ⟨50, (.callL 35 [.t 47, .t 49]), none⟩, ⟨51, (.op (.bin .add (.t 46) (.t 50))), none⟩, ⟨8, (.op (.mv (.t 51))), none⟩] [5, 7, 44, 45, 46, 47, 48, 49, 50, 51])
    .skip))
  (.seq (.reg none [⟨52, (.op (.mv (.t 8))), none⟩, ⟨6, (.op (.mv (.t 52))), none⟩] [5, 7, 8, 44, 52])
  .ret))))))))
theorem k14 : fnOk Tryd.prog Tryd.f14 c14 53 3 [.t 6] = true := by kernel_rfl
/-- guerdon/guerdonref38.Within -/
def c15 : FC :=
  (.seq (.reg none [⟨2, (.op (.box (.t 0))), none⟩, ⟨4, (.op (.mv (.k (.bool false)))), none⟩] [0, 4])
  (.seq (.reg none [⟨5, (.op (.fa (.t 2) 1)), none⟩, ⟨6, (.op (.load (.t 5) 1 false)), none⟩, ⟨7, (.op (.mv (.t 1))), none⟩, ⟨8, (.op (.un .neg (.t 7))), none⟩, ⟨9, (.op (.bin .geq (.t 6) (.t 8))), none⟩, ⟨10, (.op (.mv (.t 9))), none⟩, ⟨11, (.op (.fa (.t 2) 1)), some (10, true)⟩, ⟨12, (.op (.load (.t 11) 1 false)), some (10, true)⟩, ⟨13, (.op (.mv (.t 1))), some (10, true)⟩, ⟨14, (.op (.bin .leq (.t 12) (.t 13))), some (10, true)⟩, ⟨15, (.op (.pick (.t 10) (.t 14) (.k (.bool false)))), none⟩, ⟨16, (.op (.mv (.t 15))), none⟩, ⟨17, (.op (.fa (.t 2) 2)), some (16, true)⟩, ⟨18, (.op (.load (.t 17) 1 false)), some (16, true)⟩, ⟨19, (.op (.mv (.t 1))), some (16, true)⟩, ⟨20, (.op (.un .neg (.t 19))), some (16, true)⟩, ⟨21, (.op (.bin .geq (.t 18) (.t 20))), some (16, true)⟩, ⟨22, (.op (.pick (.t 16) (.t 21) (.k (.bool false)))), none⟩, ⟨23, (.op (.mv (.t 22))), none⟩, ⟨24, (.op (.fa (.t 2) 2)), some (23, true)⟩, ⟨25, (.op (.load (.t 24) 1 false)), some (23, true)⟩, ⟨26, (.op (.mv (.t 1))), some (23, true)⟩, ⟨27, (.op (.bin .leq (.t 25) (.t 26))), some (23, true)⟩, ⟨28, (.op (.pick (.t 23) (.t 27) (.k (.bool false)))), none⟩, ⟨29, (.op (.mv (.t 28))), none⟩, ⟨30, (.op (.fa (.t 2) 3)), some (29, true)⟩, ⟨31, (.op (.load (.t 30) 1 false)), some (29, true)⟩, ⟨32, (.op (.mv (.t 1))), some (29, true)⟩, ⟨33, (.op (.un .neg (.t 32))), some (29, true)⟩, ⟨34, (.op (.bin .geq (.t 31) (.t 33))), some (29, true)⟩, ⟨35, (.op (.pick (.t 29) (.t 34) (.k (.bool false)))), none⟩, ⟨36, (.op (.mv (.t 35))), none⟩, ⟨37, (.op (.fa (.t 2) 3)), some (36, true)⟩, ⟨38, (.op (.load (.t 37) 1 false)), some (36, true)⟩, ⟨39, (.op (.mv (.t 1))), some (36, true)⟩, ⟨40, (.op (.bin .leq (.t 38) (.t 39))), some (36, true)⟩, ⟨41, (.op (.pick (.t 36) (.t 40) (.k (.bool false)))), none⟩, ⟨4, (.op (.mv (.t 41))), none⟩] [1, 2, 5, 6, 7, 8, 9, 10, 11, 12, 13, 14, 15, 16, 17, 18, 19, 20, 21, 22, 23, 24, 25, 26, 27, 28, 29, 30, 31, 32, 33, 34, 35, 36, 37, 38, 39, 40, 41])
  .ret))
theorem k15 : fnOk Tryd.prog Tryd.f15 c15 42 2 [.t 4] = true := by kernel_rfl
/-- guerdon/report.Balances -/
def c16 : FC :=
  (.seq (.reg none [⟨2, (.op (.mv (.k (.arr [])))), none⟩] [2])
  (.seq (.reg none [⟨3, (.op (.mv (.k (.arr [])))), none⟩] [])
  (.seq (.seq (.reg none [⟨6, (.op (.mv (.t 0))), none⟩, ⟨7, (.op (.len (.t 6))), none⟩, ⟨8, (.op (.mv (.k (.int .i64 0)))), none⟩] [])
  (.block 0 (.loop (.seq (.reg none [⟨9, (.op (.bin .lss (.t 8) (.t 7))), none⟩] [])
      (.seq (.cond (.t 9)
        .skip
        (.exit 0))
      (.seq (.block 1 (.seq (.reg none [⟨10, (.op (.ia (.t 6) (.t 8) 4)), none⟩, ⟨11, (.op (.load (.t 10) 4 true)), none⟩, ⟨5, (.op (.alloc [(.int .i64 0), (.int .i64 0), (.int .i64 0), (.int .i64 0)])), none⟩, ⟨0, (.op (.store (.t 5) (.t 11) 4 true)), none⟩] [9, 10, 11])
        (.reg (some 30) [⟨12, (.op (.mv (.t 3))), none⟩, ⟨13, (.op (.fa (.t 5) 0)), none⟩, ⟨14, (.op (.load (.t 13) 1 false)), none⟩, ⟨15, (.callL 36 [.t 14]), none⟩, ⟨16, (.op (.bin .add (.t 15) (.k (.str [32, 100, 117, 101, 32])))), none⟩, ⟨17, (.op (.fa (.t 5) 1)), none⟩, ⟨18, (.op (.load (.t 17) 1 false)), none⟩, ⟨19, (.callL 37 [.t 18]), none⟩, ⟨20, (.op (.bin .add (.t 16) (.t 19))), none⟩, ⟨21, (.op (.bin .add (.t 20) (.k (.str [32, 114, 101, 99, 101, 105, 118, 101, 100, 32])))), none⟩, ⟨22, (.op (.fa (.t 5) 2)), none⟩, ⟨23, (.op (.load (.t 22) 1 false)), none⟩, ⟨24, (.callL 37 [.t 23]), none⟩, ⟨25, (.op (.bin .add (.t 21) (.t 24))), none⟩, ⟨26, (.op (.bin .add (.t 25) (.k (.str [32, 119, 97, 105, 118, 101, 100, 32])))), none⟩, ⟨27, (.op (.fa (.t 5) 3)), none⟩, ⟨28, (.op (.load (.t 27) 1 false)), none⟩, ⟨29, (.callL 37 [.t 28]), none⟩, ⟨30, (.op (.bin .add (.t 26) (.t 29))), none⟩, ⟨31, (.op (.bin .add (.t 30) (.k (.str [32, 97, 114, 114, 101, 97, 114, 115, 32])))), none⟩, ⟨32, (.op (.load (.t 5) 4 true)), none⟩, ⟨33, (.callL 38 [.t 32]), none⟩, ⟨34, (.callL 37 [.t 33]), none⟩, ⟨35, (.op (.bin .add (.t 31) (.t 34))), none⟩, ⟨36, (.op (.bin .add (.t 35) (.k (.str [32, 111, 118, 101, 114, 112, 97, 121, 109, 101, 110, 116, 32])))), none⟩, ⟨37, (.op (.load (.t 5) 4 true)), none⟩, ⟨38, (.callL 39 [.t 37]), none⟩, ⟨39, (.callL 37 [.t 38]), none⟩, ⟨40, (.op (.bin .add (.t 36) (.t 39))), none⟩, ⟨41, (.op (.buildSl [(.str [])] 1 [0] [.t 40])), none⟩, ⟨42, (.op (.app (.t 12) (.t 41) 1 16)), none⟩, ⟨3, (.op (.mvP true (.t 42))), none⟩] [5, 12, 13, 14, 15, 16, 17, 18, 19, 20, 21, 22, 23, 24, 25, 26, 27, 28, 29, 30, 31, 32, 33, 34, 35, 36, 37, 38, 39, 40, 41, 42])))
      (.reg none [⟨43, (.op (.bin .add (.t 8) (.k (.int .i64 1)))), none⟩, ⟨8, (.op (.mv (.t 43))), none⟩] [43])))))))
  (.seq (.reg none [⟨44, (.op (.mv (.t 3))), none⟩, ⟨2, (.op (.mv (.t 44))), none⟩] [0, 6, 7, 8, 9])
  .ret))))
theorem k16 : fnOk Tryd.prog Tryd.f16 c16 45 1 [.t 2] = true := by kernel_rfl
/-- guerdon/guerdonref54.Balances -/
def c17 : FC :=
  (.seq (.reg none [⟨2, (.op (.mv (.k (.arr [])))), none⟩] [2])
  (.seq (.reg none [⟨3, (.op (.mv (.k (.arr [])))), none⟩] [])
  (.seq (.seq (.reg none [⟨4, (.op (.mv (.k (.int .i64 0)))), none⟩] [])
  (.block 0 (.loop (.seq (.seq (.reg none [⟨6, (.op (.mv (.t 4))), none⟩, ⟨7, (.op (.mv (.t 0))), none⟩, ⟨8, (.op (.len (.t 7))), none⟩, ⟨9, (.op (.bin .lss (.t 6) (.t 8))), none⟩] [6, 7, 8])
      (.cond (.t 9)
        .skip
        (.exit 0)))
      (.seq (.block 1 (.seq (.reg none [⟨12, (.op (.mv (.t 0))), none⟩, ⟨13, (.op (.mv (.t 4))), none⟩, ⟨14, (.op (.ia (.t 12) (.t 13) 4)), none⟩, ⟨15, (.op (.load (.t 14) 4 true)), none⟩, ⟨5, (.op (.alloc [(.int .i64 0), (.int .i64 0), (.int .i64 0), (.int .i64 0)])), none⟩, ⟨0, (.op (.store (.t 5) (.t 15) 4 true)), none⟩] [9, 12, 13, 14, 15])
        (.reg (some 30) [⟨16, (.op (.mv (.t 3))), none⟩, ⟨17, (.op (.fa (.t 5) 0)), none⟩, ⟨18, (.op (.load (.t 17) 1 false)), none⟩, ⟨19, (.callL 40 [.t 18]), none⟩, ⟨20, (.op (.bin .add (.t 19) (.k (.str [32, 100, 117, 101, 32])))), none⟩, ⟨21, (.op (.fa (.t 5) 1)), none⟩, ⟨22, (.op (.load (.t 21) 1 false)), none⟩, ⟨23, (.callL 41 [.t 22]), none⟩, ⟨24, (.op (.bin .add (.t 20) (.t 23))), none⟩, ⟨25, (.op (.bin .add (.t 24) (.k (.str [32, 114, 101, 99, 101, 105, 118, 101, 100, 32])))), none⟩, ⟨26, (.op (.fa (.t 5) 2)), none⟩, ⟨27, (.op (.load (.t 26) 1 false)), none⟩, ⟨28, (.callL 41 [.t 27]), none⟩, ⟨29, (.op (.bin .add (.t 25) (.t 28))), none⟩, ⟨30, (.op (.bin .add (.t 29) (.k (.str [32, 119, 97, 105, 118, 101, 100, 32])))), none⟩, ⟨31, (.op (.fa (.t 5) 3)), none⟩, ⟨32, (.op (.load (.t 31) 1 false)), none⟩, ⟨33, (.callL 41 [.t 32]), none⟩, ⟨34, (.op (.bin .add (.t 30) (.t 33))), none⟩, ⟨35, (.op (.bin .add (.t 34) (.k (.str [32, 97, 114, 114, 101, 97, 114, 115, 32])))), none⟩, ⟨36, (.op (.load (.t 5) 4 true)), none⟩, ⟨37, (.callL 42 [.t 36]), none⟩, ⟨38, (.callL 41 [.t 37]), none⟩, ⟨39, (.op (.bin .add (.t 35) (.t 38))), none⟩, ⟨40, (.op (.bin .add (.t 39) (.k (.str [32, 111, 118, 101, 114, 112, 97, 121, 109, 101, 110, 116, 32])))), none⟩, ⟨41, (.op (.load (.t 5) 4 true)), none⟩, ⟨42, (.callL 43 [.t 41]), none⟩, ⟨43, (.callL 41 [.t 42]), none⟩, ⟨44, (.op (.bin .add (.t 40) (.t 43))), none⟩, ⟨45, (.op (.buildSl [(.str [])] 1 [0] [.t 44])), none⟩, ⟨46, (.op (.app (.t 16) (.t 45) 1 16)), none⟩, ⟨3, (.op (.mvP true (.t 46))), none⟩] [5, 16, 17, 18, 19, 20, 21, 22, 23, 24, 25, 26, 27, 28, 29, 30, 31, 32, 33, 34, 35, 36, 37, 38, 39, 40, 41, 42, 43, 44, 45, 46])))
      (.reg none [⟨10, (.op (.mv (.t 4))), none⟩, ⟨11, (.op (.bin .add (.t 10) (.k (.int .i64 1)))), none⟩, ⟨4, (.op (.mv (.t 11))), none⟩] [10, 11]))))))
  (.seq (.reg none [⟨47, (.op (.mv (.t 3))), none⟩, ⟨2, (.op (.mv (.t 47))), none⟩] [0, 4, 9])
  .ret))))
theorem k17 : fnOk Tryd.prog Tryd.f17 c17 48 1 [.t 2] = true := by kernel_rfl
/-- guerdon/report.Postings -/
def c20 : FC :=
  (.seq (.reg none [⟨2, (.op (.mv (.k (.arr [])))), none⟩] [2])
  (.seq (.reg none [⟨3, (.op (.mv (.k (.arr [])))), none⟩] [])
  (.seq (.seq (.reg none [⟨8, (.op (.mv (.t 0))), none⟩, ⟨9, (.op (.len (.t 8))), none⟩, ⟨10, (.op (.mv (.k (.int .i64 0)))), none⟩] [])
  (.block 0 (.loop (.seq (.reg none [⟨11, (.op (.bin .lss (.t 10) (.t 9))), none⟩] [])
      (.seq (.cond (.t 11)
        .skip
        (.exit 0))
      (.seq (.block 1 (.seq (.reg none [⟨12, (.op (.ia (.t 8) (.t 10) 4)), none⟩, ⟨13, (.op (.load (.t 12) 4 true)), none⟩, ⟨5, (.op (.alloc [(.int .i64 0), (.int .i64 0), (.int .i64 0), (.int .i64 0)])), none⟩, ⟨0, (.op (.store (.t 5) (.t 13) 4 true)), none⟩] [11, 12, 13])
        (.seq (.reg none [⟨15, (.op (.fa (.t 5) 0)), none⟩, ⟨16, (.op (.load (.t 15) 1 false)), none⟩, ⟨17, (.op (.build [(.int .i64 0), (.int .i64 0), (.int .i64 0)] [(0, 1), (2, 1)] [.k (.int .i64 5), .t 16])), none⟩, ⟨18, (.callL 49 [.t 17, .k (.sl true [])]), none⟩, ⟨14, (.op (.mvP true (.t 18))), none⟩, ⟨19, (.op (.extract 14 0)), none⟩, ⟨20, (.op (.extract 14 1)), none⟩, ⟨6, (.op (.mvP true (.t 19))), none⟩, ⟨7, (.op (.mvP true (.t 20))), none⟩] [14, 15, 16, 17, 18, 19, 20])
        (.reg (some 21) [⟨21, (.op (.mv (.t 3))), none⟩, ⟨22, (.op (.mv (.t 6))), none⟩, ⟨23, (.op (.mv (.t 7))), none⟩, ⟨24, (.op (.bin .eql (.t 23) (.k (.int .i64 0)))), none⟩, ⟨25, (.callL 50 [.t 22, .t 24]), none⟩, ⟨26, (.op (.bin .add (.t 25) (.k (.str [32])))), none⟩, ⟨27, (.op (.fa (.t 5) 1)), none⟩, ⟨28, (.op (.load (.t 27) 1 false)), none⟩, ⟨29, (.callL 36 [.t 28]), none⟩, ⟨30, (.op (.bin .add (.t 26) (.t 29))), none⟩, ⟨31, (.op (.bin .add (.t 30) (.k (.str [32])))), none⟩, ⟨32, (.op (.fa (.t 5) 2)), none⟩, ⟨33, (.op (.load (.t 32) 1 false)), none⟩, ⟨34, (.callL 51 [.t 33]), none⟩, ⟨35, (.op (.bin .add (.t 31) (.t 34))), none⟩, ⟨36, (.op (.bin .add (.t 35) (.k (.str [32])))), none⟩, ⟨37, (.op (.fa (.t 5) 3)), none⟩, ⟨38, (.op (.load (.t 37) 1 false)), none⟩, ⟨39, (.callL 37 [.t 38]), none⟩, ⟨40, (.op (.bin .add (.t 36) (.t 39))), none⟩, ⟨41, (.op (.buildSl [(.str [])] 1 [0] [.t 40])), none⟩, ⟨42, (.op (.app (.t 21) (.t 41) 1 16)), none⟩, ⟨3, (.op (.mvP true (.t 42))), none⟩] [5, 6, 7, 21, 22, 23, 24, 25, 26, 27, 28, 29, 30, 31, 32, 33, 34, 35, 36, 37, 38, 39, 40, 41, 42]))))
      (.reg none [⟨43, (.op (.bin .add (.t 10) (.k (.int .i64 1)))), none⟩, ⟨10, (.op (.mv (.t 43))), none⟩] [43])))))))
  (.seq (.reg none [⟨44, (.op (.mv (.t 3))), none⟩, ⟨2, (.op (.mv (.t 44))), none⟩] [0, 8, 9, 10, 11])
  .ret))))
theorem k20 : fnOk Tryd.prog Tryd.f20 c20 45 1 [.t 2] = true := by kernel_rfl
/-- guerdon/guerdonref54.Postings -/
def c21 : FC :=
  (.seq (.reg none [⟨2, (.op (.mv (.k (.arr [])))), none⟩] [2])
  (.seq (.reg none [⟨3, (.op (.mv (.k (.arr [])))), none⟩] [])
  (.seq (.seq (.reg none [⟨4, (.op (.mv (.k (.int .i64 0)))), none⟩] [])
  (.block 0 (.loop (.seq (.seq (.reg none [⟨7, (.op (.mv (.t 4))), none⟩, ⟨8, (.op (.mv (.t 0))), none⟩, ⟨9, (.op (.len (.t 8))), none⟩, ⟨10, (.op (.bin .lss (.t 7) (.t 9))), none⟩] [7, 8, 9])
      (.cond (.t 10)
        .skip
        (.exit 0)))
      (.seq (.block 1 (.seq (.reg none [⟨13, (.op (.mv (.t 0))), none⟩, ⟨14, (.op (.mv (.t 4))), none⟩, ⟨15, (.op (.ia (.t 13) (.t 14) 4)), none⟩, ⟨16, (.op (.load (.t 15) 4 true)), none⟩, ⟨5, (.op (.alloc [(.int .i64 0), (.int .i64 0), (.int .i64 0), (.int .i64 0)])), none⟩, ⟨0, (.op (.store (.t 5) (.t 16) 4 true)), none⟩] [10, 13, 14, 15, 16])
        (.seq (.reg none [⟨17, (.op (.fa (.t 5) 0)), none⟩, ⟨18, (.op (.load (.t 17) 1 false)), none⟩, ⟨19, (.op (.build [(.int .i64 0), (.int .i64 0), (.int .i64 0)] [(0, 1), (2, 1)] [.k (.int .i64 5), .t 18])), none⟩, ⟨20, (.callL 52 [.t 19, .k (.sl true [])]), none⟩, ⟨6, (.op (.mvP true (.t 20))), none⟩] [17, 18, 19, 20])
        (.reg (some 18) [⟨21, (.op (.mv (.t 3))), none⟩, ⟨22, (.op (.mv (.t 6))), none⟩, ⟨23, (.op (.bin .add (.t 22) (.k (.str [32])))), none⟩, ⟨24, (.op (.fa (.t 5) 1)), none⟩, ⟨25, (.op (.load (.t 24) 1 false)), none⟩, ⟨26, (.callL 40 [.t 25]), none⟩, ⟨27, (.op (.bin .add (.t 23) (.t 26))), none⟩, ⟨28, (.op (.bin .add (.t 27) (.k (.str [32])))), none⟩, ⟨29, (.op (.fa (.t 5) 2)), none⟩, ⟨30, (.op (.load (.t 29) 1 false)), none⟩, ⟨31, (.callL 53 [.t 30]), none⟩, ⟨32, (.op (.bin .add (.t 28) (.t 31))), none⟩, ⟨33, (.op (.bin .add (.t 32) (.k (.str [32])))), none⟩, ⟨34, (.op (.fa (.t 5) 3)), none⟩, ⟨35, (.op (.load (.t 34) 1 false)), none⟩, ⟨36, (.callL 41 [.t 35]), none⟩, ⟨37, (.op (.bin .add (.t 33) (.t 36))), none⟩, ⟨38, (.op (.buildSl [(.str [])] 1 [0] [.t 37])), none⟩, ⟨39, (.op (.app (.t 21) (.t 38) 1 16)), none⟩, ⟨3, (.op (.mvP true (.t 39))), none⟩] [5, 6, 21, 22, 23, 24, 25, 26, 27, 28, 29, 30, 31, 32, 33, 34, 35, 36, 37, 38, 39]))))
      (.reg none [⟨11, (.op (.mv (.t 4))), none⟩, ⟨12, (.op (.bin .add (.t 11) (.k (.int .i64 1)))), none⟩, ⟨4, (.op (.mv (.t 12))), none⟩] [11, 12]))))))
  (.seq (.reg none [⟨40, (.op (.mv (.t 3))), none⟩, ⟨2, (.op (.mv (.t 40))), none⟩] [0, 4, 10])
  .ret))))
theorem k21 : fnOk Tryd.prog Tryd.f21 c21 41 1 [.t 2] = true := by kernel_rfl
/-- guerdon/guerdonsame.smallScope -/
def c22 : FC :=
  (.seq (.reg none [⟨1, (.op (.box (.t 0))), none⟩, ⟨2, (.op (.mv (.k (.bool false)))), none⟩] [0, 2])
  (.seq (.seq (.reg none [⟨7, (.op (.fa (.t 1) 0)), none⟩, ⟨8, (.op (.load (.t 7) 1 false)), none⟩, ⟨9, (.op (.lenS (.t 8))), none⟩, ⟨10, (.op (.bin .gtr (.t 9) (.k (.int .i64 80)))), none⟩, ⟨11, (.op (.mv (.t 10))), none⟩, ⟨12, (.op (.fa (.t 1) 2)), some (11, false)⟩, ⟨13, (.op (.load (.t 12) 1 false)), some (11, false)⟩, ⟨14, (.op (.len (.t 13))), some (11, false)⟩, ⟨15, (.op (.bin .gtr (.t 14) (.k (.int .i64 14)))), some (11, false)⟩, ⟨16, (.op (.pick (.t 11) (.k (.bool true)) (.t 15))), none⟩, ⟨17, (.op (.mv (.t 16))), none⟩, ⟨18, (.op (.fa (.t 1) 3)), some (17, false)⟩, ⟨19, (.op (.load (.t 18) 1 false)), some (17, false)⟩, ⟨20, (.op (.len (.t 19))), some (17, false)⟩, ⟨21, (.op (.bin .gtr (.t 20) (.k (.int .i64 14)))), some (17, false)⟩, ⟨22, (.op (.pick (.t 17) (.k (.bool true)) (.t 21))), none⟩, ⟨23, (.op (.mv (.t 22))), none⟩, ⟨24, (.op (.fa (.t 1) 4)), some (23, false)⟩, ⟨25, (.op (.load (.t 24) 1 false)), some (23, false)⟩, ⟨26, (.op (.len (.t 25))), some (23, false)⟩, ⟨27, (.op (.bin .gtr (.t 26) (.k (.int .i64 60)))), some (23, false)⟩, ⟨28, (.op (.pick (.t 23) (.k (.bool true)) (.t 27))), none⟩] [7, 8, 9, 10, 11, 12, 13, 14, 15, 16, 17, 18, 19, 20, 21, 22, 23, 24, 25, 26, 27])
  (.cond (.t 28)
    (.seq (.reg none [⟨2, (.op (.mv (.k (.bool false)))), none⟩] [1, 28])
    .ret)
    .skip))
  (.seq (.seq (.reg none [⟨3, (.op (.mv (.k (.int .i64 0)))), none⟩] [28])
  (.block 0 (.loop (.seq (.seq (.reg none [⟨29, (.op (.mv (.t 3))), none⟩, ⟨30, (.op (.fa (.t 1) 2)), none⟩, ⟨31, (.op (.load (.t 30) 1 false)), none⟩, ⟨32, (.op (.len (.t 31))), none⟩, ⟨33, (.op (.bin .lss (.t 29) (.t 32))), none⟩] [29, 30, 31, 32])
      (.cond (.t 33)
        .skip
        (.exit 0)))
      (.seq (.block 1 (.seq (.reg none [⟨36, (.op (.fa (.t 1) 2)), none⟩, ⟨37, (.op (.load (.t 36) 1 false)), none⟩, ⟨38, (.op (.mv (.t 3))), none⟩, ⟨39, (.op (.ia (.t 37) (.t 38) 3)), none⟩, ⟨40, (.op (.fa (.t 39) 0)), none⟩, ⟨41, (.op (.load (.t 40) 1 false)), none⟩, ⟨42, (.op (.lenS (.t 41))), none⟩, ⟨43, (.op (.bin .gtr (.t 42) (.k (.int .i64 80)))), none⟩] [33, 36, 37, 38, 39, 40, 41, 42])
        (.cond (.t 43)
          (.seq (.reg none [⟨2, (.op (.mv (.k (.bool false)))), none⟩] [1, 3, 43])
          .ret)
          .skip)))
      (.reg none [⟨34, (.op (.mv (.t 3))), none⟩, ⟨35, (.op (.bin .add (.t 34) (.k (.int .i64 1)))), none⟩, ⟨3, (.op (.mv (.t 35))), none⟩] [34, 35, 43]))))))
  (.seq (.seq (.reg none [⟨4, (.op (.mv (.k (.int .i64 0)))), none⟩] [3, 33])
  (.block 2 (.loop (.seq (.seq (.reg none [⟨44, (.op (.mv (.t 4))), none⟩, ⟨45, (.op (.fa (.t 1) 3)), none⟩, ⟨46, (.op (.load (.t 45) 1 false)), none⟩, ⟨47, (.op (.len (.t 46))), none⟩, ⟨48, (.op (.bin .lss (.t 44) (.t 47))), none⟩] [44, 45, 46, 47])
      (.cond (.t 48)
        .skip
        (.exit 2)))
      (.seq (.block 3 (.seq (.reg none [⟨51, (.op (.fa (.t 1) 3)), none⟩, ⟨52, (.op (.load (.t 51) 1 false)), none⟩, ⟨53, (.op (.mv (.t 4))), none⟩, ⟨54, (.op (.ia (.t 52) (.t 53) 3)), none⟩, ⟨55, (.op (.fa (.t 54) 0)), none⟩, ⟨56, (.op (.load (.t 55) 1 false)), none⟩, ⟨57, (.op (.lenS (.t 56))), none⟩, ⟨58, (.op (.bin .gtr (.t 57) (.k (.int .i64 80)))), none⟩] [48, 51, 52, 53, 54, 55, 56, 57])
        (.cond (.t 58)
          (.seq (.reg none [⟨2, (.op (.mv (.k (.bool false)))), none⟩] [1, 4, 58])
          .ret)
          .skip)))
      (.reg none [⟨49, (.op (.mv (.t 4))), none⟩, ⟨50, (.op (.bin .add (.t 49) (.k (.int .i64 1)))), none⟩, ⟨4, (.op (.mv (.t 50))), none⟩] [49, 50, 58]))))))
  (.seq (.seq (.reg none [⟨5, (.op (.mv (.k (.int .i64 0)))), none⟩] [4, 48])
  (.block 4 (.loop (.seq (.seq (.reg none [⟨59, (.op (.mv (.t 5))), none⟩, ⟨60, (.op (.fa (.t 1) 4)), none⟩, ⟨61, (.op (.load (.t 60) 1 false)), none⟩, ⟨62, (.op (.len (.t 61))), none⟩, ⟨63, (.op (.bin .lss (.t 59) (.t 62))), none⟩] [59, 60, 61, 62])
      (.cond (.t 63)
        .skip
        (.exit 4)))
      (.seq (.block 5 (.seq (.reg none [⟨66, (.op (.fa (.t 1) 4)), none⟩, ⟨67, (.op (.load (.t 66) 1 false)), none⟩, ⟨68, (.op (.mv (.t 5))), none⟩, ⟨69, (.op (.ia (.t 67) (.t 68) 9)), none⟩, ⟨70, (.op (.load (.t 69) 9 true)), none⟩, ⟨6, (.op (.alloc [(.str []), (.int .i64 0), (.int .i64 0), (.int .i64 0), (.int .i64 0), (.int .i64 0), (.sl true []), (.sl true []), (.str [])])), none⟩, ⟨0, (.op (.store (.t 6) (.t 70) 9 true)), none⟩] [63, 66, 67, 68, 69, 70])
        (.seq (.reg none [⟨71, (.op (.fa (.t 6) 0)), none⟩, ⟨72, (.op (.load (.t 71) 1 false)), none⟩, ⟨73, (.op (.lenS (.t 72))), none⟩, ⟨74, (.op (.bin .gtr (.t 73) (.k (.int .i64 80)))), none⟩, ⟨75, (.op (.mv (.t 74))), none⟩, ⟨76, (.op (.fa (.t 6) 8)), some (75, false)⟩, ⟨77, (.op (.load (.t 76) 1 false)), some (75, false)⟩, ⟨78, (.op (.lenS (.t 77))), some (75, false)⟩, ⟨79, (.op (.bin .gtr (.t 78) (.k (.int .i64 80)))), some (75, false)⟩, ⟨80, (.op (.pick (.t 75) (.k (.bool true)) (.t 79))), none⟩, ⟨81, (.op (.mv (.t 80))), none⟩, ⟨82, (.op (.fa (.t 6) 6)), some (81, false)⟩, ⟨83, (.op (.load (.t 82) 1 false)), some (81, false)⟩, ⟨84, (.op (.len (.t 83))), some (81, false)⟩, ⟨85, (.op (.bin .gtr (.t 84) (.k (.int .i64 50)))), some (81, false)⟩, ⟨86, (.op (.pick (.t 81) (.k (.bool true)) (.t 85))), none⟩, ⟨87, (.op (.mv (.t 86))), none⟩, ⟨88, (.op (.fa (.t 6) 7)), some (87, false)⟩, ⟨89, (.op (.load (.t 88) 1 false)), some (87, false)⟩, ⟨90, (.op (.len (.t 89))), some (87, false)⟩, ⟨91, (.op (.bin .gtr (.t 90) (.k (.int .i64 50)))), some (87, false)⟩, ⟨92, (.op (.pick (.t 87) (.k (.bool true)) (.t 91))), none⟩] [6, 71, 72, 73, 74, 75, 76, 77, 78, 79, 80, 81, 82, 83, 84, 85, 86, 87, 88, 89, 90, 91])
        (.cond (.t 92)
          (.seq (.reg none [⟨2, (.op (.mv (.k (.bool false)))), none⟩] [1, 5, 92])
          .ret)
          .skip))))
      (.reg none [⟨64, (.op (.mv (.t 5))), none⟩, ⟨65, (.op (.bin .add (.t 64) (.k (.int .i64 1)))), none⟩, ⟨5, (.op (.mv (.t 65))), none⟩] [64, 65, 92]))))))
  (.seq (.reg none [⟨2, (.op (.mv (.k (.bool true)))), none⟩] [1, 5, 63])
  .ret))))))
theorem k22 : fnOk Tryd.prog Tryd.f22 c22 93 1 [.t 2] = true := by kernel_rfl
/-- guerdon/report.lines -/
def c25 : FC :=
  (.seq (.reg none [⟨5, (.op (.box (.t 0))), none⟩, ⟨6, (.op (.box (.t 1))), none⟩, ⟨10, (.op (.mv (.k (.arr [])))), none⟩] [0, 1, 10])
  (.seq (.reg none [⟨11, (.op (.mv (.k (.arr [])))), none⟩] [])
  (.seq (.seq (.reg none [⟨17, (.op (.mv (.t 3))), none⟩, ⟨18, (.op (.len (.t 17))), none⟩, ⟨19, (.op (.mv (.k (.int .i64 0)))), none⟩] [])
  (.block 0 (.loop (.seq (.reg none [⟨20, (.op (.bin .lss (.t 19) (.t 18))), none⟩] [])
      (.seq (.cond (.t 20)
        .skip
        (.exit 0))
      (.seq (.block 1 (.seq (.reg none [⟨21, (.op (.mv (.t 19))), none⟩, ⟨22, (.op (.ia (.t 17) (.t 19) 3)), none⟩, ⟨23, (.op (.load (.t 22) 3 true)), none⟩, ⟨13, (.op (.alloc [(.int .i64 0), (.int .i64 0), (.int .i64 0)])), none⟩, ⟨12, (.op (.mv (.t 21))), none⟩, ⟨0, (.op (.store (.t 13) (.t 23) 3 true)), none⟩] [20, 21, 22, 23])
        (.seq (.reg none [⟨25, (.op (.load (.t 13) 3 true)), none⟩, ⟨26, (.op (.fa (.t 5) 0)), none⟩, ⟨27, (.op (.load (.t 26) 1 false)), none⟩, ⟨28, (.callL 49 [.t 25, .t 27]), none⟩, ⟨24, (.op (.mvP true (.t 28))), none⟩, ⟨29, (.op (.extract 24 0)), none⟩, ⟨30, (.op (.extract 24 1)), none⟩, ⟨14, (.op (.mvP true (.t 29))), none⟩, ⟨15, (.op (.mvP true (.t 30))), none⟩] [13, 24, 25, 26, 27, 28, 29, 30])
        (.seq (.reg none [⟨16, (.op (.mv (.k (.str [63])))), none⟩] [])
        (.seq (.seq (.reg none [⟨31, (.op (.mv (.t 12))), none⟩, ⟨32, (.op (.mv (.t 4))), none⟩, ⟨33, (.op (.len (.t 32))), none⟩, ⟨34, (.op (.bin .lss (.t 31) (.t 33))), none⟩] [31, 32, 33])
        (.cond (.t 34)
          (.reg (some 6) [⟨35, (.op (.load (.t 6) 5 true)), none⟩, ⟨36, (.op (.mv (.t 4))), none⟩, ⟨37, (.op (.mv (.t 12))), none⟩, ⟨38, (.op (.ia (.t 36) (.t 37) 1)), none⟩, ⟨39, (.op (.load (.t 38) 1 false)), none⟩, ⟨40, (.callL 32 [.t 35, .t 39]), none⟩, ⟨16, (.op (.mvP true (.t 40))), none⟩] [34, 35, 36, 37, 38, 39, 40])
          .skip))
        (.reg none [⟨41, (.op (.mv (.t 11))), none⟩, ⟨42, (.op (.mv (.t 2))), none⟩, ⟨43, (.op (.load (.t 6) 5 true)), none⟩, ⟨44, (.op (.mv (.t 12))), none⟩, ⟨45, (.callL 31 [.t 43, .t 44]), none⟩, ⟨46, (.op (.bin .add (.t 42) (.t 45))), none⟩, ⟨47, (.op (.bin .add (.t 46) (.k (.str [32, 61, 32])))), none⟩, ⟨48, (.op (.mv (.t 14))), none⟩, ⟨49, (.op (.mv (.t 15))), none⟩, ⟨50, (.op (.bin .eql (.t 49) (.k (.int .i64 0)))), none⟩, ⟨51, (.callL 50 [.t 48, .t 50]), none⟩, ⟨52, (.op (.bin .add (.t 47) (.t 51))), none⟩, ⟨53, (.op (.bin .add (.t 52) (.k (.str [32, 98, 121, 32])))), none⟩, ⟨54, (.op (.mv (.t 16))), none⟩, ⟨55, (.op (.bin .add (.t 53) (.t 54))), none⟩, ⟨56, (.op (.buildSl [(.str [])] 1 [0] [.t 55])), none⟩, ⟨57, (.op (.app (.t 41) (.t 56) 1 16)), none⟩, ⟨11, (.op (.mvP true (.t 57))), none⟩] [12, 14, 15, 16, 34, 41, 42, 43, 44, 45, 46, 47, 48, 49, 50, 51, 52, 53, 54, 55, 56, 57]))))))
      (.reg none [⟨58, (.op (.bin .add (.t 19) (.k (.int .i64 1)))), none⟩, ⟨19, (.op (.mv (.t 58))), none⟩] [58])))))))
  (.seq (.reg none [⟨59, (.op (.mv (.t 11))), none⟩, ⟨10, (.op (.mv (.t 59))), none⟩] [2, 3, 4, 5, 6, 17, 18, 19, 20])
  .ret))))
theorem k25 : fnOk Tryd.prog Tryd.f25 c25 60 5 [.t 10] = true := by kernel_rfl
/-- guerdon/guerdonref54.lines -/
def c29 : FC :=
  (.seq (.reg none [⟨8, (.op (.box (.t 2))), none⟩, ⟨9, (.op (.box (.t 3))), none⟩, ⟨12, (.op (.mv (.k (.arr [])))), none⟩] [2, 3, 12])
  (.seq (.seq (.reg none [⟨13, (.op (.mv (.k (.int .i64 0)))), none⟩] [])
  (.block 0 (.loop (.seq (.seq (.reg none [⟨15, (.op (.mv (.t 13))), none⟩, ⟨16, (.op (.mv (.t 4))), none⟩, ⟨17, (.op (.len (.t 16))), none⟩, ⟨18, (.op (.bin .lss (.t 15) (.t 17))), none⟩] [15, 16, 17])
      (.cond (.t 18)
        .skip
        (.exit 0)))
      (.seq (.block 1 (.seq (.reg none [⟨14, (.op (.mv (.k (.int .i64 (-1))))), none⟩] [18])
        (.seq (.seq (.reg none [⟨21, (.op (.mv (.t 13))), none⟩, ⟨22, (.op (.mv (.t 5))), none⟩, ⟨23, (.op (.len (.t 22))), none⟩, ⟨24, (.op (.bin .lss (.t 21) (.t 23))), none⟩] [21, 22, 23])
        (.cond (.t 24)
          (.reg none [⟨25, (.op (.mv (.t 5))), none⟩, ⟨26, (.op (.mv (.t 13))), none⟩, ⟨27, (.op (.ia (.t 25) (.t 26) 1)), none⟩, ⟨28, (.op (.load (.t 27) 1 false)), none⟩, ⟨14, (.op (.mv (.t 28))), none⟩] [24, 25, 26, 27, 28])
          .skip))
        (.reg (some 21) [⟨29, (.op (.mv (.t 0))), none⟩, ⟨30, (.op (.mv (.t 1))), none⟩, ⟨31, (.op (.load (.t 9) 5 true)), none⟩, ⟨32, (.op (.mv (.t 13))), none⟩, ⟨33, (.callL 34 [.t 31, .t 32]), none⟩, ⟨34, (.op (.bin .add (.t 30) (.t 33))), none⟩, ⟨35, (.op (.bin .add (.t 34) (.k (.str [32, 61, 32])))), none⟩, ⟨36, (.op (.mv (.t 4))), none⟩, ⟨37, (.op (.mv (.t 13))), none⟩, ⟨38, (.op (.ia (.t 36) (.t 37) 3)), none⟩, ⟨39, (.op (.load (.t 38) 3 true)), none⟩, ⟨40, (.op (.fa (.t 8) 0)), none⟩, ⟨41, (.op (.load (.t 40) 1 false)), none⟩, ⟨42, (.callL 52 [.t 39, .t 41]), none⟩, ⟨43, (.op (.bin .add (.t 35) (.t 42))), none⟩, ⟨44, (.op (.bin .add (.t 43) (.k (.str [32, 98, 121, 32])))), none⟩, ⟨45, (.op (.load (.t 9) 5 true)), none⟩, ⟨46, (.op (.mv (.t 14))), none⟩, ⟨47, (.callL 35 [.t 45, .t 46]), none⟩, ⟨48, (.op (.bin .add (.t 44) (.t 47))), none⟩, ⟨49, (.op (.buildSl [(.str [])] 1 [0] [.t 48])), none⟩, ⟨50, (.op (.app (.t 29) (.t 49) 1 16)), none⟩, ⟨0, (.op (.mvP true (.t 50))), none⟩] [14, 24, 29, 30, 31, 32, 33, 34, 35, 36, 37, 38, 39, 40, 41, 42, 43, 44, 45, 46, 47, 48, 49, 50]))))
      (.reg none [⟨19, (.op (.mv (.t 13))), none⟩, ⟨20, (.op (.bin .add (.t 19) (.k (.int .i64 1)))), none⟩, ⟨13, (.op (.mv (.t 20))), none⟩] [19, 20]))))))
  (.seq (.reg none [⟨51, (.op (.mv (.t 0))), none⟩, ⟨12, (.op (.mv (.t 51))), none⟩] [1, 4, 5, 8, 9, 13, 18])
  .ret)))
theorem k29 : fnOk Tryd.prog Tryd.f29 c29 52 6 [.t 12] = true := by kernel_rfl
/-- guerdon/guerdonsame.TinyLaw -/
def c23 : FC :=
  (.seq (.reg none [⟨2, (.op (.alloc [(.sl true []), (.sl true []), (.sl true [])])), none⟩] [])
  (.seq (.reg none [⟨6, (.op (.build [(.int .i64 0), (.int .i64 0)] [(0, 1), (1, 1)] [.k (.int .i64 0), .k (.int .i64 109573)])), none⟩, ⟨3, (.op (.alloc [(.int .i64 0), (.int .i64 0)])), none⟩, ⟨0, (.op (.store (.t 3) (.t 6) 2 true)), none⟩] [6])
  (.seq (.reg none [⟨7, (.op (.build [(.int .i64 0), (.int .i64 0)] [(0, 1)] [.k (.int .i64 3)])), none⟩, ⟨4, (.op (.alloc [(.int .i64 0), (.int .i64 0)])), none⟩, ⟨0, (.op (.store (.t 4) (.t 7) 2 true)), none⟩] [7])
  (.seq (.reg none [⟨8, (.op (.load (.t 3) 2 true)), none⟩, ⟨9, (.op (.mv (.t 0))), none⟩, ⟨10, (.op (.build [(.str []), (.int .i64 0), (.int .i64 0), (.int .i64 0), (.int .i64 0), (.int .i64 0), (.sl true []), (.sl true []), (.str [])] [(0, 1), (2, 1), (4, 2), (7, 1)] [.k (.str [98, 97, 115, 101]), .k (.int .i64 (-1)), .t 8, .t 9])), none⟩, ⟨5, (.op (.alloc [(.str []), (.int .i64 0), (.int .i64 0), (.int .i64 0), (.int .i64 0), (.int .i64 0), (.sl true []), (.sl true []), (.str [])])), none⟩, ⟨0, (.op (.store (.t 5) (.t 10) 9 true)), none⟩] [0, 3, 8, 9, 10])
  (.seq (.reg none [⟨11, (.op (.load (.t 4) 2 true)), none⟩, ⟨12, (.op (.build [(.str []), (.int .i64 0), (.int .i64 0)] [(0, 1), (1, 2)] [.k (.str [97]), .t 11])), none⟩, ⟨13, (.op (.buildSl [(.str []), (.int .i64 0), (.int .i64 0)] 1 [0] [.t 12])), none⟩, ⟨14, (.op (.load (.t 4) 2 true)), none⟩, ⟨15, (.op (.build [(.str []), (.int .i64 0), (.int .i64 0)] [(0, 1), (1, 2)] [.k (.str [100]), .t 14])), none⟩, ⟨16, (.op (.buildSl [(.str []), (.int .i64 0), (.int .i64 0)] 1 [0] [.t 15])), none⟩, ⟨17, (.op (.load (.t 5) 9 true)), none⟩, ⟨18, (.op (.buildSl [(.str []), (.int .i64 0), (.int .i64 0), (.int .i64 0), (.int .i64 0), (.int .i64 0), (.sl true []), (.sl true []), (.str [])] 1 [0] [.t 17])), none⟩, ⟨19, (.op (.build [(.str []), (.int .i64 0), (.sl true []), (.sl true []), (.sl true [])] [(0, 1), (1, 1), (2, 1), (3, 1), (4, 1)] [.k (.str [104, 111, 117, 115, 101]), .k (.int .i64 (-1)), .t 13, .t 16, .t 18])), none⟩, ⟨20, (.op (.buildSl [(.str []), (.int .i64 0), (.sl true []), (.sl true []), (.sl true [])] 1 [0] [.t 19])), none⟩, ⟨21, (.op (.build [(.sl true []), (.sl true []), (.sl true [])] [(2, 1)] [.t 20])), none⟩, ⟨0, (.op (.store (.t 2) (.t 21) 3 true)), none⟩] [4, 5, 11, 12, 13, 14, 15, 16, 17, 18, 19, 20, 21])
  .ret)))))
theorem k23 : fnOk Tryd.prog Tryd.f23 c23 22 1 [.c 2 3 true] = true := by kernel_rfl
/-- guerdon/guerdonlaw54.few -/
def c8 : FC :=
  (.seq (.reg none [⟨1, (.op (.box (.t 0))), none⟩, ⟨2, (.op (.mv (.k (.bool false)))), none⟩] [0, 2])
  (.seq (.seq (.reg none [⟨4, (.op (.fa (.t 1) 0)), none⟩, ⟨5, (.op (.load (.t 4) 1 false)), none⟩, ⟨6, (.op (.len (.t 5))), none⟩, ⟨7, (.op (.bin .gtr (.t 6) (.k (.int .i64 20)))), none⟩, ⟨8, (.op (.mv (.t 7))), none⟩, ⟨9, (.op (.fa (.t 1) 1)), some (8, false)⟩, ⟨10, (.op (.load (.t 9) 1 false)), some (8, false)⟩, ⟨11, (.op (.len (.t 10))), some (8, false)⟩, ⟨12, (.op (.bin .gtr (.t 11) (.k (.int .i64 20)))), some (8, false)⟩, ⟨13, (.op (.pick (.t 8) (.k (.bool true)) (.t 12))), none⟩, ⟨14, (.op (.mv (.t 13))), none⟩, ⟨15, (.op (.fa (.t 1) 2)), some (14, false)⟩, ⟨16, (.op (.load (.t 15) 1 false)), some (14, false)⟩, ⟨17, (.op (.len (.t 16))), some (14, false)⟩, ⟨18, (.op (.bin .gtr (.t 17) (.k (.int .i64 12)))), some (14, false)⟩, ⟨19, (.op (.pick (.t 14) (.k (.bool true)) (.t 18))), none⟩] [4, 5, 6, 7, 8, 9, 10, 11, 12, 13, 14, 15, 16, 17, 18])
  (.cond (.t 19)
    (.seq (.reg none [⟨2, (.op (.mv (.k (.bool false)))), none⟩] [1, 19])
    .ret)
    .skip))
  (.seq (.seq (.reg none [⟨3, (.op (.mv (.k (.int .i64 0)))), none⟩] [19])
  (.block 0 (.loop (.seq (.seq (.reg none [⟨20, (.op (.mv (.t 3))), none⟩, ⟨21, (.op (.fa (.t 1) 2)), none⟩, ⟨22, (.op (.load (.t 21) 1 false)), none⟩, ⟨23, (.op (.len (.t 22))), none⟩, ⟨24, (.op (.bin .lss (.t 20) (.t 23))), none⟩] [20, 21, 22, 23])
      (.cond (.t 24)
        .skip
        (.exit 0)))
      (.seq (.block 1 (.seq (.reg none [⟨27, (.op (.fa (.t 1) 2)), none⟩, ⟨28, (.op (.load (.t 27) 1 false)), none⟩, ⟨29, (.op (.mv (.t 3))), none⟩, ⟨30, (.op (.ia (.t 28) (.t 29) 2)), none⟩, ⟨31, (.op (.fa (.t 30) 0)), none⟩, ⟨32, (.op (.load (.t 31) 1 false)), none⟩, ⟨33, (.op (.len (.t 32))), none⟩, ⟨34, (.op (.bin .gtr (.t 33) (.k (.int .i64 20)))), none⟩, ⟨35, (.op (.mv (.t 34))), none⟩, ⟨36, (.op (.fa (.t 1) 2)), some (35, false)⟩, ⟨37, (.op (.load (.t 36) 1 false)), some (35, false)⟩, ⟨38, (.op (.mv (.t 3))), some (35, false)⟩, ⟨39, (.op (.ia (.t 37) (.t 38) 2)), some (35, false)⟩, ⟨40, (.op (.fa (.t 39) 1)), some (35, false)⟩, ⟨41, (.op (.load (.t 40) 1 false)), some (35, false)⟩, ⟨42, (.op (.len (.t 41))), some (35, false)⟩, ⟨43, (.op (.bin .gtr (.t 42) (.k (.int .i64 20)))), some (35, false)⟩, ⟨44, (.op (.pick (.t 35) (.k (.bool true)) (.t 43))), none⟩] [24, 27, 28, 29, 30, 31, 32, 33, 34, 35, 36, 37, 38, 39, 40, 41, 42, 43])
        (.cond (.t 44)
          (.seq (.reg none [⟨2, (.op (.mv (.k (.bool false)))), none⟩] [1, 3, 44])
          .ret)
          .skip)))
      (.reg none [⟨25, (.op (.mv (.t 3))), none⟩, ⟨26, (.op (.bin .add (.t 25) (.k (.int .i64 1)))), none⟩, ⟨3, (.op (.mv (.t 26))), none⟩] [25, 26, 44]))))))
  (.seq (.reg none [⟨2, (.op (.mv (.k (.bool true)))), none⟩] [1, 3, 24])
  .ret))))
theorem k8 : fnOk Tryd.prog Tryd.f8 c8 45 1 [.t 2] = true := by kernel_rfl
/-- guerdon/guerdonsame.SmallLaw -/
def c7 : FC :=
  (.seq (.reg none [⟨1, (.op (.box (.t 0))), none⟩, ⟨2, (.op (.mv (.k (.bool false)))), none⟩] [0, 2])
  (.seq (.seq (.reg none [⟨9, (.op (.fa (.t 1) 0)), none⟩, ⟨10, (.op (.load (.t 9) 1 false)), none⟩, ⟨11, (.op (.len (.t 10))), none⟩, ⟨12, (.op (.bin .gtr (.t 11) (.k (.int .i64 9)))), none⟩, ⟨13, (.op (.mv (.t 12))), none⟩, ⟨14, (.op (.fa (.t 1) 1)), some (13, false)⟩, ⟨15, (.op (.load (.t 14) 1 false)), some (13, false)⟩, ⟨16, (.op (.len (.t 15))), some (13, false)⟩, ⟨17, (.op (.bin .gtr (.t 16) (.k (.int .i64 9)))), some (13, false)⟩, ⟨18, (.op (.pick (.t 13) (.k (.bool true)) (.t 17))), none⟩, ⟨19, (.op (.mv (.t 18))), none⟩, ⟨20, (.op (.fa (.t 1) 2)), some (19, false)⟩, ⟨21, (.op (.load (.t 20) 1 false)), some (19, false)⟩, ⟨22, (.op (.len (.t 21))), some (19, false)⟩, ⟨23, (.op (.bin .gtr (.t 22) (.k (.int .i64 5)))), some (19, false)⟩, ⟨24, (.op (.pick (.t 19) (.k (.bool true)) (.t 23))), none⟩] [9, 10, 11, 12, 13, 14, 15, 16, 17, 18, 19, 20, 21, 22, 23])
  (.cond (.t 24)
    (.seq (.reg none [⟨2, (.op (.mv (.k (.bool false)))), none⟩] [1, 24])
    .ret)
    .skip))
  (.seq (.reg none [⟨3, (.op (.mv (.k (.int .i64 0)))), none⟩] [24])
  (.seq (.reg none [⟨4, (.op (.mv (.k (.int .i64 0)))), none⟩] [])
  (.seq (.seq (.reg none [⟨5, (.op (.mv (.k (.int .i64 0)))), none⟩] [])
  (.block 0 (.loop (.seq (.seq (.reg none [⟨25, (.op (.mv (.t 5))), none⟩, ⟨26, (.op (.fa (.t 1) 0)), none⟩, ⟨27, (.op (.load (.t 26) 1 false)), none⟩, ⟨28, (.op (.len (.t 27))), none⟩, ⟨29, (.op (.bin .lss (.t 25) (.t 28))), none⟩] [25, 26, 27, 28])
      (.cond (.t 29)
        .skip
        (.exit 0)))
      (.seq (.block 1 (.seq (.seq (.reg none [⟨32, (.op (.fa (.t 1) 0)), none⟩, ⟨33, (.op (.load (.t 32) 1 false)), none⟩, ⟨34, (.op (.mv (.t 5))), none⟩, ⟨35, (.op (.ia (.t 33) (.t 34) 2)), none⟩, ⟨36, (.op (.fa (.t 35) 0)), none⟩, ⟨37, (.op (.load (.t 36) 1 false)), none⟩, ⟨38, (.op (.lenS (.t 37))), none⟩, ⟨39, (.op (.bin .gtr (.t 38) (.k (.int .i64 80)))), none⟩, ⟨40, (.op (.mv (.t 39))), none⟩, ⟨41, (.op (.fa (.t 1) 0)), some (40, false)⟩, ⟨42, (.op (.load (.t 41) 1 false)), some (40, false)⟩, ⟨43, (.op (.mv (.t 5))), some (40, false)⟩, ⟨44, (.op (.ia (.t 42) (.t 43) 2)), some (40, false)⟩, ⟨45, (.op (.fa (.t 44) 1)), some (40, false)⟩, ⟨46, (.op (.load (.t 45) 1 false)), some (40, false)⟩, ⟨47, (.op (.len (.t 46))), some (40, false)⟩, ⟨48, (.op (.bin .gtr (.t 47) (.k (.int .i64 20)))), some (40, false)⟩, ⟨49, (.op (.pick (.t 40) (.k (.bool true)) (.t 48))), none⟩] [29, 32, 33, 34, 35, 36, 37, 38, 39, 40, 41, 42, 43, 44, 45, 46, 47, 48])
        (.cond (.t 49)
          (.seq (.reg none [⟨2, (.op (.mv (.k (.bool false)))), none⟩] [1, 3, 4, 5, 49])
          .ret)
          .skip))
        (.seq (.reg none [⟨6, (.op (.mv (.k (.int .i64 0)))), none⟩] [49])
        (.block 2 (.loop (.seq (.seq (.reg none [⟨50, (.op (.mv (.t 6))), none⟩, ⟨51, (.op (.fa (.t 1) 0)), none⟩, ⟨52, (.op (.load (.t 51) 1 false)), none⟩, ⟨53, (.op (.mv (.t 5))), none⟩, ⟨54, (.op (.ia (.t 52) (.t 53) 2)), none⟩, ⟨55, (.op (.fa (.t 54) 1)), none⟩, ⟨56, (.op (.load (.t 55) 1 false)), none⟩, ⟨57, (.op (.len (.t 56))), none⟩, ⟨58, (.op (.bin .lss (.t 50) (.t 57))), none⟩] [50, 51, 52, 53, 54, 55, 56, 57])
            (.cond (.t 58)
              .skip
              (.exit 2)))
            (.seq (.block 3 (.seq (.reg none [⟨61, (.op (.fa (.t 1) 0)), none⟩, ⟨62, (.op (.load (.t 61) 1 false)), none⟩, ⟨63, (.op (.mv (.t 5))), none⟩, ⟨64, (.op (.ia (.t 62) (.t 63) 2)), none⟩, ⟨65, (.op (.fa (.t 64) 1)), none⟩, ⟨66, (.op (.load (.t 65) 1 false)), none⟩, ⟨67, (.op (.mv (.t 6))), none⟩, ⟨68, (.op (.ia (.t 66) (.t 67) 1)), none⟩, ⟨69, (.op (.load (.t 68) 1 false)), none⟩, ⟨70, (.op (.lenS (.t 69))), none⟩, ⟨71, (.op (.bin .gtr (.t 70) (.k (.int .i64 80)))), none⟩] [58, 61, 62, 63, 64, 65, 66, 67, 68, 69, 70])
              (.cond (.t 71)
                (.seq (.reg none [⟨2, (.op (.mv (.k (.bool false)))), none⟩] [1, 3, 4, 5, 6, 71])
                .ret)
                .skip)))
            (.reg none [⟨59, (.op (.mv (.t 6))), none⟩, ⟨60, (.op (.bin .add (.t 59) (.k (.int .i64 1)))), none⟩, ⟨6, (.op (.mv (.t 60))), none⟩] [59, 60, 71]))))))))
      (.reg none [⟨30, (.op (.mv (.t 5))), none⟩, ⟨31, (.op (.bin .add (.t 30) (.k (.int .i64 1)))), none⟩, ⟨5, (.op (.mv (.t 31))), none⟩] [6, 30, 31, 58]))))))
  (.seq (.seq (.reg none [⟨7, (.op (.mv (.k (.int .i64 0)))), none⟩] [5, 29])
  (.block 4 (.loop (.seq (.seq (.reg none [⟨72, (.op (.mv (.t 7))), none⟩, ⟨73, (.op (.fa (.t 1) 1)), none⟩, ⟨74, (.op (.load (.t 73) 1 false)), none⟩, ⟨75, (.op (.len (.t 74))), none⟩, ⟨76, (.op (.bin .lss (.t 72) (.t 75))), none⟩] [72, 73, 74, 75])
      (.cond (.t 76)
        .skip
        (.exit 4)))
      (.seq (.block 5 (.seq (.reg none [⟨79, (.op (.mv (.t 3))), none⟩, ⟨80, (.op (.fa (.t 1) 1)), none⟩, ⟨81, (.op (.load (.t 80) 1 false)), none⟩, ⟨82, (.op (.mv (.t 7))), none⟩, ⟨83, (.op (.ia (.t 81) (.t 82) 6)), none⟩, ⟨84, (.op (.fa (.t 83) 5)), none⟩, ⟨85, (.op (.load (.t 84) 1 false)), none⟩, ⟨86, (.op (.len (.t 85))), none⟩, ⟨87, (.op (.bin .add (.t 79) (.t 86))), none⟩, ⟨3, (.op (.mv (.t 87))), none⟩] [76, 79, 80, 81, 82, 83, 84, 85, 86, 87])
        (.seq (.reg none [⟨88, (.op (.fa (.t 1) 1)), none⟩, ⟨89, (.op (.load (.t 88) 1 false)), none⟩, ⟨90, (.op (.mv (.t 7))), none⟩, ⟨91, (.op (.ia (.t 89) (.t 90) 6)), none⟩, ⟨92, (.op (.fa (.t 91) 0)), none⟩, ⟨93, (.op (.load (.t 92) 1 false)), none⟩, ⟨94, (.op (.lenS (.t 93))), none⟩, ⟨95, (.op (.bin .gtr (.t 94) (.k (.int .i64 80)))), none⟩, ⟨96, (.op (.mv (.t 95))), none⟩, ⟨97, (.op (.mv (.t 3))), some (96, false)⟩, ⟨98, (.op (.bin .gtr (.t 97) (.k (.int .i64 150)))), some (96, false)⟩, ⟨99, (.op (.pick (.t 96) (.k (.bool true)) (.t 98))), none⟩] [88, 89, 90, 91, 92, 93, 94, 95, 96, 97, 98])
        (.cond (.t 99)
          (.seq (.reg none [⟨2, (.op (.mv (.k (.bool false)))), none⟩] [1, 3, 4, 7, 99])
          .ret)
          .skip))))
      (.reg none [⟨77, (.op (.mv (.t 7))), none⟩, ⟨78, (.op (.bin .add (.t 77) (.k (.int .i64 1)))), none⟩, ⟨7, (.op (.mv (.t 78))), none⟩] [77, 78, 99]))))))
  (.seq (.seq (.reg none [⟨8, (.op (.mv (.k (.int .i64 0)))), none⟩] [3, 7, 76])
  (.block 6 (.loop (.seq (.seq (.reg none [⟨100, (.op (.mv (.t 8))), none⟩, ⟨101, (.op (.fa (.t 1) 2)), none⟩, ⟨102, (.op (.load (.t 101) 1 false)), none⟩, ⟨103, (.op (.len (.t 102))), none⟩, ⟨104, (.op (.bin .lss (.t 100) (.t 103))), none⟩] [100, 101, 102, 103])
      (.cond (.t 104)
        .skip
        (.exit 6)))
      (.seq (.block 7 (.seq (.reg none [⟨107, (.op (.mv (.t 4))), none⟩, ⟨108, (.op (.fa (.t 1) 2)), none⟩, ⟨109, (.op (.load (.t 108) 1 false)), none⟩, ⟨110, (.op (.mv (.t 8))), none⟩, ⟨111, (.op (.ia (.t 109) (.t 110) 5)), none⟩, ⟨112, (.op (.fa (.t 111) 4)), none⟩, ⟨113, (.op (.load (.t 112) 1 false)), none⟩, ⟨114, (.op (.len (.t 113))), none⟩, ⟨115, (.op (.bin .add (.t 107) (.t 114))), none⟩, ⟨4, (.op (.mv (.t 115))), none⟩] [104, 107, 108, 109, 110, 111, 112, 113, 114, 115])
        (.seq (.reg none [⟨116, (.op (.mv (.t 4))), none⟩, ⟨117, (.op (.bin .gtr (.t 116) (.k (.int .i64 60)))), none⟩, ⟨118, (.op (.mv (.t 117))), none⟩, ⟨119, (.op (.fa (.t 1) 2)), some (118, false)⟩, ⟨120, (.op (.load (.t 119) 1 false)), some (118, false)⟩, ⟨121, (.op (.mv (.t 8))), some (118, false)⟩, ⟨122, (.op (.ia (.t 120) (.t 121) 5)), some (118, false)⟩, ⟨123, (.op (.load (.t 122) 5 true)), some (118, false)⟩, ⟨124, (.callL 22 [.t 123]), some (118, false)⟩, ⟨125, (.op (.un .not (.t 124))), some (118, false)⟩, ⟨126, (.op (.pick (.t 118) (.k (.bool true)) (.t 125))), none⟩] [116, 117, 118, 119, 120, 121, 122, 123, 124, 125])
        (.cond (.t 126)
          (.seq (.reg none [⟨2, (.op (.mv (.k (.bool false)))), none⟩] [1, 4, 8, 126])
          .ret)
          .skip))))
      (.reg none [⟨105, (.op (.mv (.t 8))), none⟩, ⟨106, (.op (.bin .add (.t 105) (.k (.int .i64 1)))), none⟩, ⟨8, (.op (.mv (.t 106))), none⟩] [105, 106, 126]))))))
  (.seq (.reg none [⟨2, (.op (.mv (.k (.bool true)))), none⟩] [1, 4, 8, 104])
  .ret))))))))
theorem k7 : fnOk Tryd.prog Tryd.f7 c7 127 1 [.t 2] = true := by kernel_rfl
/-- guerdon/guerdonlaw54.ReportPostings -/
def c6 : FC :=
  (.seq (.reg none [⟨2, (.op (.mv (.k (.bool false)))), none⟩] [2])
  (.seq (.seq (.reg none [⟨3, (.op (.mv (.t 0))), none⟩, ⟨4, (.op (.len (.t 3))), none⟩, ⟨5, (.op (.bin .gtr (.t 4) (.k (.int .i64 200)))), none⟩] [3, 4])
  (.cond (.t 5)
    (.seq (.reg none [⟨6, (.callL 9 []), none⟩, ⟨2, (.op (.mvP true (.t 6))), none⟩] [0, 5, 6])
    .ret)
    .skip))
  (.seq (.reg none [⟨7, (.op (.mv (.t 0))), none⟩, ⟨8, (.callL 20 [.t 7]), none⟩, ⟨9, (.op (.mv (.t 0))), none⟩, ⟨10, (.callL 21 [.t 9]), none⟩, ⟨11, (.callB 10 [.t 8, .t 10]), none⟩, ⟨12, (.op (.mv (.t 11))), none⟩, ⟨13, (.callL 9 []), some (12, true)⟩, ⟨14, (.op (.pick (.t 12) (.t 13) (.k (.bool false)))), none⟩, ⟨2, (.op (.mv (.t 14))), none⟩] [0, 5, 7, 8, 9, 10, 11, 12, 13, 14])
  .ret)))
theorem k6 : fnOk Tryd.prog Tryd.f6 c6 15 1 [.t 2] = true := by kernel_rfl
/-- guerdon/guerdonlaw54.ReportBalances -/
def c5 : FC :=
  (.seq (.reg none [⟨2, (.op (.mv (.k (.bool false)))), none⟩] [2])
  (.seq (.seq (.reg none [⟨13, (.op (.mv (.t 0))), none⟩, ⟨14, (.op (.len (.t 13))), none⟩, ⟨15, (.op (.bin .gtr (.t 14) (.k (.int .i64 100)))), none⟩] [13, 14])
  (.cond (.t 15)
    (.seq (.reg none [⟨16, (.callL 9 []), none⟩, ⟨2, (.op (.mvP true (.t 16))), none⟩] [0, 15, 16])
    .ret)
    .skip))
  (.seq (.seq (.reg none [⟨3, (.op (.mv (.k (.int .i64 0)))), none⟩] [15])
  (.block 0 (.loop (.seq (.seq (.reg none [⟨17, (.op (.mv (.t 3))), none⟩, ⟨18, (.op (.mv (.t 0))), none⟩, ⟨19, (.op (.len (.t 18))), none⟩, ⟨20, (.op (.bin .lss (.t 17) (.t 19))), none⟩] [17, 18, 19])
      (.cond (.t 20)
        .skip
        (.exit 0)))
      (.seq (.block 1 (.seq (.reg none [⟨23, (.op (.mv (.t 0))), none⟩, ⟨24, (.op (.mv (.t 3))), none⟩, ⟨25, (.op (.ia (.t 23) (.t 24) 4)), none⟩, ⟨26, (.op (.load (.t 25) 4 true)), none⟩, ⟨27, (.callL 15 [.t 26, .k (.int .i64 1152921504606846976)]), none⟩, ⟨28, (.op (.un .not (.t 27))), none⟩] [20, 23, 24, 25, 26, 27])
        (.cond (.t 28)
          (.seq (.reg none [⟨29, (.callL 9 []), none⟩, ⟨2, (.op (.mvP true (.t 29))), none⟩] [0, 3, 28, 29])
          .ret)
          .skip)))
      (.reg none [⟨21, (.op (.mv (.t 3))), none⟩, ⟨22, (.op (.bin .add (.t 21) (.k (.int .i64 1)))), none⟩, ⟨3, (.op (.mv (.t 22))), none⟩] [21, 22, 28]))))))
  (.seq (.reg none [⟨30, (.op (.mv (.t 0))), none⟩, ⟨31, (.callL 16 [.t 30]), none⟩, ⟨4, (.op (.mvP true (.t 31))), none⟩] [3, 20, 30, 31])
  (.seq (.seq (.reg none [⟨32, (.op (.mv (.t 4))), none⟩, ⟨33, (.op (.mv (.t 0))), none⟩, ⟨34, (.callL 17 [.t 33]), none⟩, ⟨35, (.callL 10 [.t 32, .t 34]), none⟩, ⟨36, (.op (.un .not (.t 35))), none⟩] [32, 33, 34, 35])
  (.cond (.t 36)
    (.seq (.reg none [⟨2, (.op (.mv (.k (.bool false)))), none⟩] [0, 4, 36])
    .ret)
    .skip))
  (.seq (.seq (.reg none [⟨5, (.op (.mv (.k (.int .i64 0)))), none⟩] [36])
  (.block 2 (.loop (.seq (.seq (.reg none [⟨37, (.op (.mv (.t 5))), none⟩, ⟨38, (.op (.mv (.t 0))), none⟩, ⟨39, (.op (.len (.t 38))), none⟩, ⟨40, (.op (.bin .lss (.t 37) (.t 39))), none⟩] [37, 38, 39])
      (.cond (.t 40)
        .skip
        (.exit 2)))
      (.seq (.block 3 (.seq (.reg none [⟨43, (.op (.mv (.t 4))), none⟩, ⟨44, (.op (.mv (.t 5))), none⟩, ⟨45, (.op (.ia (.t 43) (.t 44) 1)), none⟩, ⟨46, (.op (.load (.t 45) 1 false)), none⟩, ⟨47, (.callL 18 [.t 46]), none⟩, ⟨6, (.op (.mvP true (.t 47))), none⟩] [40, 43, 44, 45, 46, 47])
        (.seq (.seq (.reg none [⟨48, (.op (.mv (.t 6))), none⟩, ⟨49, (.op (.len (.t 48))), none⟩, ⟨50, (.op (.bin .neq (.t 49) (.k (.int .i64 11)))), none⟩] [48, 49])
        (.cond (.t 50)
          (.seq (.reg none [⟨2, (.op (.mv (.k (.bool false)))), none⟩] [0, 4, 5, 6, 50])
          .ret)
          .skip))
        (.seq (.reg none [⟨52, (.op (.mv (.t 6))), none⟩, ⟨53, (.op (.ia (.t 52) (.k (.int .i64 2)) 1)), none⟩, ⟨54, (.op (.load (.t 53) 1 false)), none⟩, ⟨55, (.callL 19 [.t 54, .k (.int .i64 2)]), none⟩, ⟨51, (.op (.mvP true (.t 55))), none⟩, ⟨56, (.op (.extract 51 0)), none⟩, ⟨57, (.op (.extract 51 1)), none⟩, ⟨7, (.op (.mvP true (.t 56))), none⟩, ⟨8, (.op (.mvP true (.t 57))), none⟩] [50, 51, 52, 53, 54, 55, 56, 57])
        (.seq (.reg none [⟨59, (.op (.mv (.t 6))), none⟩, ⟨60, (.op (.ia (.t 59) (.k (.int .i64 4)) 1)), none⟩, ⟨61, (.op (.load (.t 60) 1 false)), none⟩, ⟨62, (.callL 19 [.t 61, .k (.int .i64 2)]), none⟩, ⟨58, (.op (.mvP true (.t 62))), none⟩, ⟨63, (.op (.extract 58 0)), none⟩, ⟨64, (.op (.extract 58 1)), none⟩, ⟨9, (.op (.mvP true (.t 63))), none⟩, ⟨10, (.op (.mvP true (.t 64))), none⟩] [58, 59, 60, 61, 62, 63, 64])
        (.seq (.reg none [⟨66, (.op (.mv (.t 6))), none⟩, ⟨67, (.op (.ia (.t 66) (.k (.int .i64 6)) 1)), none⟩, ⟨68, (.op (.load (.t 67) 1 false)), none⟩, ⟨69, (.callL 19 [.t 68, .k (.int .i64 2)]), none⟩, ⟨65, (.op (.mvP true (.t 69))), none⟩, ⟨70, (.op (.extract 65 0)), none⟩, ⟨71, (.op (.extract 65 1)), none⟩, ⟨11, (.op (.mvP true (.t 70))), none⟩, ⟨12, (.op (.mvP true (.t 71))), none⟩] [6, 65, 66, 67, 68, 69, 70, 71])
        (.seq (.reg none [⟨72, (.op (.mv (.t 7))), none⟩, ⟨73, (.op (.mv (.t 0))), none⟩, ⟨74, (.op (.mv (.t 5))), none⟩, ⟨75, (.op (.ia (.t 73) (.t 74) 4)), none⟩, ⟨76, (.op (.fa (.t 75) 1)), none⟩, ⟨77, (.op (.load (.t 76) 1 false)), none⟩, ⟨78, (.op (.bin .neq (.t 72) (.t 77))), none⟩, ⟨79, (.op (.mv (.t 78))), none⟩, ⟨80, (.op (.mv (.t 9))), some (79, false)⟩, ⟨81, (.op (.mv (.t 0))), some (79, false)⟩, ⟨82, (.op (.mv (.t 5))), some (79, false)⟩, ⟨83, (.op (.ia (.t 81) (.t 82) 4)), some (79, false)⟩, ⟨84, (.op (.fa (.t 83) 2)), some (79, false)⟩, ⟨85, (.op (.load (.t 84) 1 false)), some (79, false)⟩, ⟨86, (.op (.bin .neq (.t 80) (.t 85))), some (79, false)⟩, ⟨87, (.op (.pick (.t 79) (.k (.bool true)) (.t 86))), none⟩, ⟨88, (.op (.mv (.t 87))), none⟩, ⟨89, (.op (.mv (.t 11))), some (88, false)⟩, ⟨90, (.op (.mv (.t 0))), some (88, false)⟩, ⟨91, (.op (.mv (.t 5))), some (88, false)⟩, ⟨92, (.op (.ia (.t 90) (.t 91) 4)), some (88, false)⟩, ⟨93, (.op (.fa (.t 92) 3)), some (88, false)⟩, ⟨94, (.op (.load (.t 93) 1 false)), some (88, false)⟩, ⟨95, (.op (.bin .neq (.t 89) (.t 94))), some (88, false)⟩, ⟨96, (.op (.pick (.t 88) (.k (.bool true)) (.t 95))), none⟩, ⟨97, (.op (.mv (.t 96))), none⟩, ⟨98, (.op (.mv (.t 8))), some (97, false)⟩, ⟨99, (.op (.bin .neq (.t 98) (.k (.int .i64 0)))), some (97, false)⟩, ⟨100, (.op (.pick (.t 97) (.k (.bool true)) (.t 99))), none⟩, ⟨101, (.op (.mv (.t 100))), none⟩, ⟨102, (.op (.mv (.t 10))), some (101, false)⟩, ⟨103, (.op (.bin .neq (.t 102) (.k (.int .i64 0)))), some (101, false)⟩, ⟨104, (.op (.pick (.t 101) (.k (.bool true)) (.t 103))), none⟩, ⟨105, (.op (.mv (.t 104))), none⟩, ⟨106, (.op (.mv (.t 12))), some (105, false)⟩, ⟨107, (.op (.bin .neq (.t 106) (.k (.int .i64 0)))), some (105, false)⟩, ⟨108, (.op (.pick (.t 105) (.k (.bool true)) (.t 107))), none⟩] [7, 8, 9, 10, 11, 12, 72, 73, 74, 75, 76, 77, 78, 79, 80, 81, 82, 83, 84, 85, 86, 87, 88, 89, 90, 91, 92, 93, 94, 95, 96, 97, 98, 99, 100, 101, 102, 103, 104, 105, 106, 107])
        (.cond (.t 108)
          (.seq (.reg none [⟨2, (.op (.mv (.k (.bool false)))), none⟩] [0, 4, 5, 108])
          .ret)
          .skip))))))))
      (.reg none [⟨41, (.op (.mv (.t 5))), none⟩, ⟨42, (.op (.bin .add (.t 41) (.k (.int .i64 1)))), none⟩, ⟨5, (.op (.mv (.t 42))), none⟩] [41, 42, 108]))))))
  (.seq (.reg none [⟨109, (.callL 9 []), none⟩, ⟨2, (.op (.mvP true (.t 109))), none⟩] [0, 4, 5, 40, 109])
  .ret)))))))
theorem k5 : fnOk Tryd.prog Tryd.f5 c5 110 1 [.t 2] = true := by kernel_rfl
/-- guerdon/guerdonlaw54.ReportEvalError -/
def c4 : FC :=
  (.seq (.reg none [⟨3, (.op (.box (.t 0))), none⟩, ⟨5, (.op (.box (.t 2))), none⟩, ⟨6, (.op (.mv (.k (.bool false)))), none⟩] [0, 2, 6])
  (.seq (.seq (.reg none [⟨7, (.op (.load (.t 3) 3 true)), none⟩, ⟨8, (.callL 7 [.t 7]), none⟩, ⟨9, (.op (.un .not (.t 8))), none⟩] [7, 8])
  (.cond (.t 9)
    (.seq (.reg none [⟨10, (.callL 9 []), none⟩, ⟨6, (.op (.mvP true (.t 10))), none⟩] [1, 3, 5, 9, 10])
    .ret)
    .skip))
  (.seq (.reg (some 13) [⟨11, (.op (.load (.t 3) 3 true)), none⟩, ⟨12, (.op (.mv (.t 1))), none⟩, ⟨13, (.op (.load (.t 5) 4 true)), none⟩, ⟨14, (.callL 13 [.t 11, .t 12, .t 13]), none⟩, ⟨15, (.op (.load (.t 3) 3 true)), none⟩, ⟨16, (.op (.mv (.t 1))), none⟩, ⟨17, (.op (.load (.t 5) 4 true)), none⟩, ⟨18, (.callL 14 [.t 15, .t 16, .t 17]), none⟩, ⟨19, (.op (.bin .eql (.t 14) (.t 18))), none⟩, ⟨20, (.op (.mv (.t 19))), none⟩, ⟨21, (.callL 9 []), some (20, true)⟩, ⟨22, (.op (.pick (.t 20) (.t 21) (.k (.bool false)))), none⟩, ⟨6, (.op (.mv (.t 22))), none⟩] [1, 3, 5, 9, 11, 12, 13, 14, 15, 16, 17, 18, 19, 20, 21, 22])
  .ret)))
theorem k4 : fnOk Tryd.prog Tryd.f4 c4 23 3 [.t 6] = true := by kernel_rfl
/-- guerdon/guerdonlaw54.ReportResult -/
def c3 : FC :=
  (.seq (.reg none [⟨3, (.op (.box (.t 0))), none⟩, ⟨5, (.op (.box (.t 2))), none⟩, ⟨6, (.op (.mv (.k (.bool false)))), none⟩] [0, 2, 6])
  (.seq (.seq (.reg none [⟨7, (.op (.load (.t 3) 3 true)), none⟩, ⟨8, (.callL 7 [.t 7]), none⟩, ⟨9, (.op (.un .not (.t 8))), none⟩, ⟨10, (.op (.mv (.t 9))), none⟩, ⟨11, (.op (.load (.t 5) 3 true)), some (10, false)⟩, ⟨12, (.callL 8 [.t 11]), some (10, false)⟩, ⟨13, (.op (.un .not (.t 12))), some (10, false)⟩, ⟨14, (.op (.pick (.t 10) (.k (.bool true)) (.t 13))), none⟩] [7, 8, 9, 10, 11, 12, 13])
  (.cond (.t 14)
    (.seq (.reg none [⟨15, (.callL 9 []), none⟩, ⟨6, (.op (.mvP true (.t 15))), none⟩] [1, 3, 5, 14, 15])
    .ret)
    .skip))
  (.seq (.reg (some 13) [⟨16, (.op (.load (.t 3) 3 true)), none⟩, ⟨17, (.op (.mv (.t 1))), none⟩, ⟨18, (.op (.load (.t 5) 3 true)), none⟩, ⟨19, (.callL 11 [.t 16, .t 17, .t 18]), none⟩, ⟨20, (.op (.load (.t 3) 3 true)), none⟩, ⟨21, (.op (.mv (.t 1))), none⟩, ⟨22, (.op (.load (.t 5) 3 true)), none⟩, ⟨23, (.callL 12 [.t 20, .t 21, .t 22]), none⟩, ⟨24, (.callB 10 [.t 19, .t 23]), none⟩, ⟨25, (.op (.mv (.t 24))), none⟩, ⟨26, (.callL 9 []), some (25, true)⟩, ⟨27, (.op (.pick (.t 25) (.t 26) (.k (.bool false)))), none⟩, ⟨6, (.op (.mv (.t 27))), none⟩] [1, 3, 5, 14, 16, 17, 18, 19, 20, 21, 22, 23, 24, 25, 26, 27])
  .ret)))
theorem k3 : fnOk Tryd.prog Tryd.f3 c3 28 3 [.t 6] = true := by kernel_rfl
/-- guerdon/guerdonlaw54.awake -/
def c9 : FC :=
  (.seq (.reg none [⟨0, (.op (.mv (.k (.bool false)))), none⟩] [0])
  (.seq (.reg none [⟨6, (.callL 23 [.k (.sl true [])]), none⟩, ⟨1, (.op (.alloc [(.sl true []), (.sl true []), (.sl true [])])), none⟩, ⟨0, (.op (.store (.t 1) (.t 6) 3 true)), none⟩] [6])
  (.seq (.reg none [⟨7, (.op (.load (.t 1) 3 true)), none⟩, ⟨8, (.op (.build [(.int .i64 0), (.int .i64 0), (.int .i64 0)] [(0, 1), (2, 1)] [.k (.int .i64 3), .k (.int .i64 1250)])), none⟩, ⟨9, (.op (.buildSl [(.int .i64 0), (.int .i64 0), (.int .i64 0)] 1 [0] [.t 8])), none⟩, ⟨10, (.op (.buildSl [(.int .i64 0)] 1 [0] [.k (.int .i64 0)])), none⟩, ⟨11, (.op (.build [(.sl true []), (.sl true []), (.sl true [])] [(0, 1), (1, 1)] [.t 9, .t 10])), none⟩, ⟨12, (.callB 11 [.t 7, .k (.int .i64 0), .t 11]), none⟩, ⟨2, (.op (.mvP true (.t 12))), none⟩] [7, 8, 9, 10, 11, 12])
  (.seq (.reg none [⟨13, (.op (.build [(.int .i64 0), (.int .i64 0), (.int .i64 0), (.int .i64 0)] [(0, 1), (1, 1), (2, 1)] [.k (.int .i64 1200), .k (.int .i64 50000), .k (.int .i64 20000)])), none⟩, ⟨14, (.op (.buildSl [(.int .i64 0), (.int .i64 0), (.int .i64 0), (.int .i64 0)] 1 [0] [.t 13])), none⟩, ⟨15, (.callB 16 [.t 14]), none⟩, ⟨3, (.op (.mvP true (.t 15))), none⟩] [13, 14, 15])
  (.seq (.reg none [⟨16, (.op (.build [(.int .i64 0), (.int .i64 0), (.int .i64 0), (.int .i64 0)] [(0, 1), (1, 1), (2, 1), (3, 1)] [.k (.int .i64 36524), .k (.int .i64 1200), .k (.int .i64 2), .k (.int .i64 250)])), none⟩, ⟨17, (.op (.buildSl [(.int .i64 0), (.int .i64 0), (.int .i64 0), (.int .i64 0)] 1 [0] [.t 16])), none⟩, ⟨18, (.callB 20 [.t 17]), none⟩, ⟨4, (.op (.mvP true (.t 18))), none⟩] [16, 17, 18])
  (.seq (.reg none [⟨19, (.op (.load (.t 1) 3 true)), none⟩, ⟨20, (.op (.build [(.int .i64 0), (.int .i64 0), (.int .i64 0), (.int .i64 0)] [(0, 1), (1, 1)] [.k (.int .i64 12), .k (.int .i64 (-1))])), none⟩, ⟨21, (.callL 13 [.t 19, .k (.int .i64 0), .t 20]), none⟩, ⟨5, (.op (.mvP true (.t 21))), none⟩] [19, 20, 21])
  (.seq (.reg none [⟨22, (.op (.mv (.t 2))), none⟩, ⟨23, (.op (.buildSl [(.str [])] 1 [0] [.k (.str [100, 32, 61, 32, 49, 50, 46, 53, 48, 32, 98, 121, 32, 98, 97, 115, 101])])), none⟩, ⟨24, (.callB 10 [.t 22, .t 23]), none⟩, ⟨25, (.op (.mv (.t 24))), none⟩, ⟨26, (.op (.mv (.t 3))), some (25, true)⟩, ⟨27, (.op (.buildSl [(.str [])] 1 [0] [.k (.str [50, 48, 48, 48, 45, 48, 49, 32, 100, 117, 101, 32, 53, 48, 48, 46, 48, 48, 32, 114, 101, 99, 101, 105, 118, 101, 100, 32, 50, 48, 48, 46, 48, 48, 32, 119, 97, 105, 118, 101, 100, 32, 48, 46, 48, 48, 32, 97, 114, 114, 101, 97, 114, 115, 32, 51, 48, 48, 46, 48, 48, 32, 111, 118, 101, 114, 112, 97, 121, 109, 101, 110, 116, 32, 48, 46, 48, 48])])), some (25, true)⟩, ⟨28, (.callB 10 [.t 26, .t 27]), some (25, true)⟩, ⟨29, (.op (.pick (.t 25) (.t 28) (.k (.bool false)))), none⟩, ⟨30, (.op (.mv (.t 29))), none⟩, ⟨31, (.op (.mv (.t 4))), some (30, true)⟩, ⟨32, (.op (.buildSl [(.str [])] 1 [0] [.k (.str [50, 48, 48, 48, 45, 48, 49, 45, 48, 49, 32, 50, 48, 48, 48, 45, 48, 49, 32, 114, 101, 99, 111, 118, 101, 114, 121, 32, 50, 46, 53, 48])])), some (30, true)⟩, ⟨33, (.callB 10 [.t 31, .t 32]), some (30, true)⟩, ⟨34, (.op (.pick (.t 30) (.t 33) (.k (.bool false)))), none⟩, ⟨35, (.op (.mv (.t 34))), none⟩, ⟨36, (.op (.mv (.t 5))), some (35, true)⟩, ⟨37, (.op (.bin .eql (.t 36) (.k (.str [101, 114, 114, 111, 114, 32, 49, 50, 32, 102, 111, 114, 32, 100, 32, 98, 121, 32, 98, 97, 115, 101])))), some (35, true)⟩, ⟨38, (.op (.pick (.t 35) (.t 37) (.k (.bool false)))), none⟩, ⟨39, (.op (.mv (.t 38))), none⟩, ⟨40, (.op (.load (.t 1) 3 true)), some (39, true)⟩, ⟨41, (.op (.build [(.int .i64 0), (.int .i64 0), (.int .i64 0), (.int .i64 0)] [(0, 1), (1, 1), (2, 1), (3, 1)] [.k (.int .i64 1), .k (.int .i64 (-1)), .k (.int .i64 (-1)), .k (.int .i64 (-1))])), some (39, true)⟩, ⟨42, (.callL 13 [.t 40, .k (.int .i64 0), .t 41]), some (39, true)⟩, ⟨43, (.op (.bin .eql (.t 42) (.k (.str [101, 114, 114, 111, 114, 32, 49])))), some (39, true)⟩, ⟨44, (.op (.pick (.t 39) (.t 43) (.k (.bool false)))), none⟩, ⟨0, (.op (.mv (.t 44))), none⟩] [1, 2, 3, 4, 5, 22, 23, 24, 25, 26, 27, 28, 29, 30, 31, 32, 33, 34, 35, 36, 37, 38, 39, 40, 41, 42, 43, 44])
  .ret)))))))
theorem k9 : fnOk Tryd.prog Tryd.f9 c9 45 0 [.t 0] = true := by kernel_rfl
/-- guerdon/guerdonref01.Fields -/
def c18 : FC :=
  (.seq (.reg none [⟨2, (.op (.mv (.k (.arr [])))), none⟩] [2])
  (.seq (.reg none [⟨7, (.op (.buildSl [(.str [])] 0 [] [])), none⟩, ⟨3, (.op (.mvP true (.t 7))), none⟩] [7])
  (.seq (.reg none [⟨4, (.op (.mv (.k (.int .i64 (-1))))), none⟩] [])
  (.seq (.seq (.reg none [⟨5, (.op (.mv (.k (.int .i64 0)))), none⟩] [])
  (.block 0 (.loop (.seq (.seq (.reg none [⟨8, (.op (.mv (.t 5))), none⟩, ⟨9, (.op (.mv (.t 0))), none⟩, ⟨10, (.op (.lenS (.t 9))), none⟩, ⟨11, (.op (.bin .leq (.t 8) (.t 10))), none⟩] [8, 9, 10])
      (.cond (.t 11)
        .skip
        (.exit 0)))
      (.seq (.block 1 (.seq (.reg none [⟨14, (.op (.mv (.t 5))), none⟩, ⟨15, (.op (.mv (.t 0))), none⟩, ⟨16, (.op (.lenS (.t 15))), none⟩, ⟨17, (.op (.bin .eql (.t 14) (.t 16))), none⟩, ⟨18, (.op (.mv (.t 17))), none⟩, ⟨19, (.op (.mv (.t 0))), some (18, false)⟩, ⟨20, (.op (.mv (.t 5))), some (18, false)⟩, ⟨21, (.op (.index (.t 19) (.t 20))), some (18, false)⟩, ⟨22, (.op (.bin .eql (.t 21) (.k (.int .u8 32)))), some (18, false)⟩, ⟨23, (.op (.pick (.t 18) (.k (.bool true)) (.t 22))), none⟩, ⟨24, (.op (.mv (.t 23))), none⟩, ⟨25, (.op (.mv (.t 0))), some (24, false)⟩, ⟨26, (.op (.mv (.t 5))), some (24, false)⟩, ⟨27, (.op (.index (.t 25) (.t 26))), some (24, false)⟩, ⟨28, (.op (.bin .eql (.t 27) (.k (.int .u8 9)))), some (24, false)⟩, ⟨29, (.op (.pick (.t 24) (.k (.bool true)) (.t 28))), none⟩, ⟨6, (.op (.mv (.t 29))), none⟩] [11, 14, 15, 16, 17, 18, 19, 20, 21, 22, 23, 24, 25, 26, 27, 28, 29])
        (.seq (.seq (.reg none [⟨30, (.op (.mv (.t 6))), none⟩, ⟨31, (.op (.mv (.t 30))), none⟩, ⟨32, (.op (.mv (.t 4))), some (31, true)⟩, ⟨33, (.op (.bin .geq (.t 32) (.k (.int .i64 0)))), some (31, true)⟩, ⟨34, (.op (.pick (.t 31) (.t 33) (.k (.bool false)))), none⟩] [30, 31, 32, 33])
        (.cond (.t 34)
          (.seq (.reg none [⟨35, (.op (.mv (.t 3))), none⟩, ⟨36, (.op (.mv (.t 0))), none⟩, ⟨37, (.op (.mv (.t 4))), none⟩, ⟨38, (.op (.mv (.t 5))), none⟩, ⟨39, (.op (.subStr (.t 36) (some (.t 37)) (some (.t 38)))), none⟩, ⟨40, (.op (.buildSl [(.str [])] 1 [0] [.t 39])), none⟩, ⟨41, (.op (.app (.t 35) (.t 40) 1 16)), none⟩, ⟨3, (.op (.mvP true (.t 41))), none⟩] [4, 34, 35, 36, 37, 38, 39, 40, 41])
          (.reg none [⟨4, (.op (.mv (.k (.int .i64 (-1))))), none⟩] []))
          .skip))
        (.seq (.reg none [⟨42, (.op (.mv (.t 6))), none⟩, ⟨43, (.op (.un .not (.t 42))), none⟩, ⟨44, (.op (.mv (.t 43))), none⟩, ⟨45, (.op (.mv (.t 4))), some (44, true)⟩, ⟨46, (.op (.bin .lss (.t 45) (.k (.int .i64 0)))), some (44, true)⟩, ⟨47, (.op (.pick (.t 44) (.t 46) (.k (.bool false)))), none⟩] [6, 34, 42, 43, 44, 45, 46])
        (.cond (.t 47)
          (.reg none [⟨48, (.op (.mv (.t 5))), none⟩, ⟨4, (.op (.mv (.t 48))), none⟩] [47, 48])
          .skip)))))
      (.reg none [⟨12, (.op (.mv (.t 5))), none⟩, ⟨13, (.op (.bin .add (.t 12) (.k (.int .i64 1)))), none⟩, ⟨5, (.op (.mv (.t 13))), none⟩] [12, 13, 47]))))))
  (.seq (.reg none [⟨49, (.op (.mv (.t 3))), none⟩, ⟨2, (.op (.mv (.t 49))), none⟩] [0, 4, 5, 11])
  .ret)))))
theorem k18 : fnOk Tryd.prog Tryd.f18 c18 50 1 [.t 2] = true := by kernel_rfl
/-- guerdon/guerdonref01.ParseFixed -/
def c19 : FC :=
  (.seq (.reg none [⟨4, (.op (.mv (.k (.int .i64 0)))), none⟩, ⟨5, (.op (.mv (.k (.int .i64 0)))), none⟩] [4, 5])
  (.seq (.reg none [⟨10, (.op (.mv (.t 1))), none⟩, ⟨11, (.callL 44 [.t 10]), none⟩, ⟨6, (.op (.mvP true (.t 11))), none⟩] [1, 10, 11])
  (.seq (.seq (.reg none [⟨12, (.op (.mv (.t 6))), none⟩, ⟨13, (.op (.bin .eql (.t 12) (.k (.int .i64 0)))), none⟩] [12])
  (.cond (.t 13)
    (.seq (.reg none [⟨14, (.op (.mv (.t 0))), none⟩, ⟨15, (.callL 45 [.t 14]), none⟩, ⟨16, (.op (.extract 15 0)), none⟩, ⟨17, (.op (.extract 15 1)), none⟩, ⟨4, (.op (.mvP true (.t 16))), none⟩, ⟨5, (.op (.mvP true (.t 17))), none⟩] [0, 6, 13, 14, 15, 16, 17])
    .ret)
    .skip))
  (.seq (.reg none [⟨19, (.op (.mv (.t 0))), none⟩, ⟨20, (.callL 46 [.t 19]), none⟩, ⟨18, (.op (.mvP true (.t 20))), none⟩, ⟨21, (.op (.extract 18 0)), none⟩, ⟨22, (.op (.extract 18 1)), none⟩, ⟨7, (.op (.mvP true (.t 21))), none⟩, ⟨8, (.op (.mvP true (.t 22))), none⟩] [0, 13, 18, 19, 20, 21, 22])
  (.seq (.reg none [⟨23, (.op (.mv (.t 7))), none⟩, ⟨24, (.op (.lenS (.t 23))), none⟩, ⟨25, (.op (.mv (.t 6))), none⟩, ⟨26, (.op (.bin .sub (.t 24) (.t 25))), none⟩, ⟨27, (.op (.bin .sub (.t 26) (.k (.int .i64 1)))), none⟩, ⟨9, (.op (.mv (.t 27))), none⟩] [6, 23, 24, 25, 26, 27])
  (.seq (.seq (.reg none [⟨28, (.op (.mv (.t 9))), none⟩, ⟨29, (.op (.bin .lss (.t 28) (.k (.int .i64 1)))), none⟩, ⟨30, (.op (.mv (.t 29))), none⟩, ⟨31, (.op (.mv (.t 7))), some (30, false)⟩, ⟨32, (.op (.mv (.t 9))), some (30, false)⟩, ⟨33, (.op (.index (.t 31) (.t 32))), some (30, false)⟩, ⟨34, (.op (.bin .neq (.t 33) (.k (.int .u8 46)))), some (30, false)⟩, ⟨35, (.op (.pick (.t 30) (.k (.bool true)) (.t 34))), none⟩, ⟨36, (.op (.mv (.t 35))), none⟩, ⟨37, (.op (.mv (.t 7))), some (36, false)⟩, ⟨38, (.op (.mv (.t 9))), some (36, false)⟩, ⟨39, (.op (.subStr (.t 37) none (some (.t 38)))), some (36, false)⟩, ⟨40, (.callL 47 [.t 39]), some (36, false)⟩, ⟨41, (.op (.un .not (.t 40))), some (36, false)⟩, ⟨42, (.op (.pick (.t 36) (.k (.bool true)) (.t 41))), none⟩, ⟨43, (.op (.mv (.t 42))), none⟩, ⟨44, (.op (.mv (.t 7))), some (43, false)⟩, ⟨45, (.op (.mv (.t 9))), some (43, false)⟩, ⟨46, (.op (.bin .add (.t 45) (.k (.int .i64 1)))), some (43, false)⟩, ⟨47, (.op (.subStr (.t 44) (some (.t 46)) none)), some (43, false)⟩, ⟨48, (.callL 47 [.t 47]), some (43, false)⟩, ⟨49, (.op (.un .not (.t 48))), some (43, false)⟩, ⟨50, (.op (.pick (.t 43) (.k (.bool true)) (.t 49))), none⟩, ⟨51, (.op (.mv (.t 50))), none⟩, ⟨52, (.op (.mv (.t 9))), some (51, false)⟩, ⟨53, (.op (.bin .gtr (.t 52) (.k (.int .i64 1)))), some (51, false)⟩, ⟨54, (.op (.mv (.t 53))), some (51, false)⟩, ⟨55, (.op (.mv (.t 7))), some (54, true)⟩, ⟨56, (.op (.index (.t 55) (.k (.int .i64 0)))), some (54, true)⟩, ⟨57, (.op (.bin .eql (.t 56) (.k (.int .u8 48)))), some (54, true)⟩, ⟨58, (.op (.pick (.t 54) (.t 57) (.k (.bool false)))), some (51, false)⟩, ⟨59, (.op (.pick (.t 51) (.k (.bool true)) (.t 58))), none⟩] [28, 29, 30, 31, 32, 33, 34, 35, 36, 37, 38, 39, 40, 41, 42, 43, 44, 45, 46, 47, 48, 49, 50, 51, 52, 53, 54, 55, 56, 57, 58])
  (.cond (.t 59)
    (.seq (.reg none [⟨4, (.op (.mv (.k (.int .i64 0)))), none⟩, ⟨5, (.op (.mv (.k (.int .i64 2)))), none⟩] [7, 8, 9, 59])
    .ret)
    .skip))
  (.seq (.reg (some 8) [⟨60, (.op (.mv (.t 7))), none⟩, ⟨61, (.op (.mv (.t 9))), none⟩, ⟨62, (.op (.subStr (.t 60) none (some (.t 61)))), none⟩, ⟨63, (.op (.mv (.t 7))), none⟩, ⟨64, (.op (.mv (.t 9))), none⟩, ⟨65, (.op (.bin .add (.t 64) (.k (.int .i64 1)))), none⟩, ⟨66, (.op (.subStr (.t 63) (some (.t 65)) none)), none⟩, ⟨67, (.op (.bin .add (.t 62) (.t 66))), none⟩, ⟨7, (.op (.mv (.t 67))), none⟩] [9, 59, 60, 61, 62, 63, 64, 65, 66, 67])
  (.seq (.block 0 (.loop (.seq (.seq (.reg none [⟨68, (.op (.mv (.t 7))), none⟩, ⟨69, (.op (.lenS (.t 68))), none⟩, ⟨70, (.op (.bin .gtr (.t 69) (.k (.int .i64 1)))), none⟩, ⟨71, (.op (.mv (.t 70))), none⟩, ⟨72, (.op (.mv (.t 7))), some (71, true)⟩, ⟨73, (.op (.index (.t 72) (.k (.int .i64 0)))), some (71, true)⟩, ⟨74, (.op (.bin .eql (.t 73) (.k (.int .u8 48)))), some (71, true)⟩, ⟨75, (.op (.pick (.t 71) (.t 74) (.k (.bool false)))), none⟩] [68, 69, 70, 71, 72, 73, 74])
      (.cond (.t 75)
        .skip
        (.exit 0)))
      (.block 1 (.reg none [⟨76, (.op (.mv (.t 7))), none⟩, ⟨77, (.op (.subStr (.t 76) (some (.k (.int .i64 1))) none)), none⟩, ⟨7, (.op (.mv (.t 77))), none⟩] [75, 76, 77])))))
  (.seq (.seq (.reg none [⟨78, (.op (.mv (.t 8))), none⟩, ⟨79, (.op (.mv (.t 78))), none⟩, ⟨80, (.op (.mv (.t 7))), some (79, true)⟩, ⟨81, (.op (.bin .eql (.t 80) (.k (.str [48])))), some (79, true)⟩, ⟨82, (.op (.pick (.t 79) (.t 81) (.k (.bool false)))), none⟩] [75, 78, 79, 80, 81])
  (.cond (.t 82)
    (.seq (.reg none [⟨4, (.op (.mv (.k (.int .i64 0)))), none⟩, ⟨5, (.op (.mv (.k (.int .i64 2)))), none⟩] [7, 8, 82])
    .ret)
    .skip))
  (.seq (.reg none [⟨83, (.op (.mv (.t 7))), none⟩, ⟨84, (.op (.mv (.t 8))), none⟩, ⟨85, (.callL 48 [.t 83, .t 84]), none⟩, ⟨86, (.op (.extract 85 0)), none⟩, ⟨87, (.op (.extract 85 1)), none⟩, ⟨4, (.op (.mvP true (.t 86))), none⟩, ⟨5, (.op (.mvP true (.t 87))), none⟩] [7, 8, 82, 83, 84, 85, 86, 87])
  .ret))))))))))
theorem k19 : fnOk Tryd.prog Tryd.f19 c19 88 2 [.t 4, .t 5] = true := by kernel_rfl
/-- guerdon/guerdonref01.ParseInt -/
def c45 : FC :=
  (.seq (.reg none [⟨2, (.op (.mv (.k (.int .i64 0)))), none⟩, ⟨3, (.op (.mv (.k (.int .i64 0)))), none⟩] [2, 3])
  (.seq (.reg none [⟨7, (.op (.mv (.t 0))), none⟩, ⟨8, (.callL 46 [.t 7]), none⟩, ⟨6, (.op (.mvP true (.t 8))), none⟩, ⟨9, (.op (.extract 6 0)), none⟩, ⟨10, (.op (.extract 6 1)), none⟩, ⟨4, (.op (.mvP true (.t 9))), none⟩, ⟨5, (.op (.mvP true (.t 10))), none⟩] [0, 6, 7, 8, 9, 10])
  (.seq (.seq (.reg none [⟨11, (.op (.mv (.t 4))), none⟩, ⟨12, (.callL 47 [.t 11]), none⟩, ⟨13, (.op (.un .not (.t 12))), none⟩, ⟨14, (.op (.mv (.t 13))), none⟩, ⟨15, (.op (.mv (.t 4))), some (14, false)⟩, ⟨16, (.op (.lenS (.t 15))), some (14, false)⟩, ⟨17, (.op (.bin .gtr (.t 16) (.k (.int .i64 1)))), some (14, false)⟩, ⟨18, (.op (.mv (.t 17))), some (14, false)⟩, ⟨19, (.op (.mv (.t 4))), some (18, true)⟩, ⟨20, (.op (.index (.t 19) (.k (.int .i64 0)))), some (18, true)⟩, ⟨21, (.op (.bin .eql (.t 20) (.k (.int .u8 48)))), some (18, true)⟩, ⟨22, (.op (.pick (.t 18) (.t 21) (.k (.bool false)))), some (14, false)⟩, ⟨23, (.op (.pick (.t 14) (.k (.bool true)) (.t 22))), none⟩, ⟨24, (.op (.mv (.t 23))), none⟩, ⟨25, (.op (.mv (.t 5))), some (24, false)⟩, ⟨26, (.op (.mv (.t 25))), some (24, false)⟩, ⟨27, (.op (.mv (.t 4))), some (26, true)⟩, ⟨28, (.op (.bin .eql (.t 27) (.k (.str [48])))), some (26, true)⟩, ⟨29, (.op (.pick (.t 26) (.t 28) (.k (.bool false)))), some (24, false)⟩, ⟨30, (.op (.pick (.t 24) (.k (.bool true)) (.t 29))), none⟩] [11, 12, 13, 14, 15, 16, 17, 18, 19, 20, 21, 22, 23, 24, 25, 26, 27, 28, 29])
  (.cond (.t 30)
    (.seq (.reg none [⟨2, (.op (.mv (.k (.int .i64 0)))), none⟩, ⟨3, (.op (.mv (.k (.int .i64 2)))), none⟩] [4, 5, 30])
    .ret)
    .skip))
  (.seq (.reg none [⟨31, (.op (.mv (.t 4))), none⟩, ⟨32, (.op (.mv (.t 5))), none⟩, ⟨33, (.callL 48 [.t 31, .t 32]), none⟩, ⟨34, (.op (.extract 33 0)), none⟩, ⟨35, (.op (.extract 33 1)), none⟩, ⟨2, (.op (.mvP true (.t 34))), none⟩, ⟨3, (.op (.mvP true (.t 35))), none⟩] [4, 5, 30, 31, 32, 33, 34, 35])
  .ret))))
theorem k45 : fnOk Tryd.prog Tryd.f45 c45 36 1 [.t 2, .t 3] = true := by kernel_rfl
/-- guerdon/value.Format -/
def c49 : FC :=
  (.seq (.reg none [⟨2, (.op (.box (.t 0))), none⟩, ⟨4, (.op (.mv (.k (.str [])))), none⟩, ⟨5, (.op (.mv (.k (.int .i64 0)))), none⟩] [0, 4, 5])
  (.seq (.block 0 (.seq (.reg none [⟨7, (.op (.load (.t 2) 3 true)), none⟩, ⟨8, (.callL 64 [.t 7]), none⟩, ⟨9, (.op (.mv (.t 1))), none⟩, ⟨10, (.callL 63 [.t 8, .t 9]), none⟩, ⟨11, (.op (.un .not (.t 10))), none⟩, ⟨6, (.op (.mv (.t 11))), none⟩] [7, 8, 9, 10, 11])
    (.cond (.t 6)
      (.seq (.reg none [⟨4, (.op (.mv (.k (.str [])))), none⟩, ⟨5, (.op (.mv (.k (.int .i64 8)))), none⟩] [1, 2, 6])
      .ret)
      (.seq (.reg none [⟨13, (.op (.load (.t 2) 3 true)), none⟩, ⟨14, (.op (.mv (.t 1))), none⟩, ⟨15, (.callL 65 [.t 13, .t 14]), none⟩, ⟨16, (.op (.un .not (.t 15))), none⟩, ⟨12, (.op (.mv (.t 16))), none⟩] [6, 13, 14, 15, 16])
      (.cond (.t 12)
        (.seq (.reg none [⟨4, (.op (.mv (.k (.str [])))), none⟩, ⟨5, (.op (.mv (.k (.int .i64 3)))), none⟩] [1, 2, 12])
        .ret)
        .skip)))))
  (.seq (.seq (.reg none [⟨17, (.op (.fa (.t 2) 0)), none⟩, ⟨18, (.op (.load (.t 17) 1 false)), none⟩] [12, 17])
  (.block 1 (.seq (.reg none [⟨20, (.op (.bin .eql (.t 18) (.k (.int .i64 1)))), none⟩, ⟨19, (.op (.mv (.t 20))), none⟩] [20])
    (.cond (.t 19)
      (.seq (.seq (.reg none [⟨21, (.op (.fa (.t 2) 2)), none⟩, ⟨22, (.op (.load (.t 21) 1 false)), none⟩, ⟨23, (.op (.bin .eql (.t 22) (.k (.int .i64 1)))), none⟩] [1, 2, 18, 19, 21, 22])
      (.cond (.t 23)
        (.seq (.reg none [⟨4, (.op (.mv (.k (.str [116, 114, 117, 101])))), none⟩, ⟨5, (.op (.mv (.k (.int .i64 0)))), none⟩] [23])
        .ret)
        .skip))
      (.seq (.reg none [⟨4, (.op (.mv (.k (.str [102, 97, 108, 115, 101])))), none⟩, ⟨5, (.op (.mv (.k (.int .i64 0)))), none⟩] [23])
      .ret))
      (.seq (.reg none [⟨25, (.op (.bin .eql (.t 18) (.k (.int .i64 2)))), none⟩, ⟨24, (.op (.mv (.t 25))), none⟩] [19, 25])
      (.cond (.t 24)
        (.seq (.reg none [⟨26, (.op (.fa (.t 2) 2)), none⟩, ⟨27, (.op (.load (.t 26) 1 false)), none⟩, ⟨28, (.callL 27 [.t 27]), none⟩, ⟨4, (.op (.mvP true (.t 28))), none⟩, ⟨5, (.op (.mv (.k (.int .i64 0)))), none⟩] [1, 2, 18, 24, 26, 27, 28])
        .ret)
        (.seq (.reg none [⟨30, (.op (.bin .eql (.t 18) (.k (.int .i64 3)))), none⟩, ⟨29, (.op (.mv (.t 30))), none⟩] [24, 30])
        (.cond (.t 29)
          (.seq (.reg none [⟨31, (.op (.fa (.t 2) 2)), none⟩, ⟨32, (.op (.load (.t 31) 1 false)), none⟩, ⟨33, (.callL 60 [.t 32, .k (.int .i64 2)]), none⟩, ⟨4, (.op (.mvP true (.t 33))), none⟩, ⟨5, (.op (.mv (.k (.int .i64 0)))), none⟩] [1, 2, 18, 29, 31, 32, 33])
          .ret)
          (.seq (.reg none [⟨35, (.op (.bin .eql (.t 18) (.k (.int .i64 4)))), none⟩, ⟨34, (.op (.mv (.t 35))), none⟩] [29, 35])
          (.cond (.t 34)
            (.seq (.reg none [⟨36, (.op (.fa (.t 2) 2)), none⟩, ⟨37, (.op (.load (.t 36) 1 false)), none⟩, ⟨38, (.callL 60 [.t 37, .k (.int .i64 4)]), none⟩, ⟨39, (.op (.bin .add (.t 38) (.k (.str [37])))), none⟩, ⟨4, (.op (.mv (.t 39))), none⟩, ⟨5, (.op (.mv (.k (.int .i64 0)))), none⟩] [1, 2, 18, 34, 36, 37, 38, 39])
            .ret)
            (.seq (.reg none [⟨41, (.op (.bin .eql (.t 18) (.k (.int .i64 5)))), none⟩, ⟨40, (.op (.mv (.t 41))), none⟩] [18, 34, 41])
            (.cond (.t 40)
              (.seq (.reg none [⟨42, (.op (.fa (.t 2) 2)), none⟩, ⟨43, (.op (.load (.t 42) 1 false)), none⟩, ⟨44, (.callL 66 [.t 43]), none⟩, ⟨4, (.op (.mvP true (.t 44))), none⟩, ⟨5, (.op (.mv (.k (.int .i64 0)))), none⟩] [1, 2, 40, 42, 43, 44])
              .ret)
              .skip))))))))))))
  (.seq (.reg (some 12) [⟨45, (.op (.mv (.t 1))), none⟩, ⟨46, (.op (.fa (.t 2) 1)), none⟩, ⟨47, (.op (.load (.t 46) 1 false)), none⟩, ⟨48, (.op (.ia (.t 45) (.t 47) 2)), none⟩, ⟨49, (.op (.fa (.t 48) 1)), none⟩, ⟨50, (.op (.load (.t 49) 1 false)), none⟩, ⟨51, (.op (.fa (.t 2) 2)), none⟩, ⟨52, (.op (.load (.t 51) 1 false)), none⟩, ⟨53, (.op (.ia (.t 50) (.t 52) 1)), none⟩, ⟨54, (.op (.load (.t 53) 1 false)), none⟩, ⟨4, (.op (.mv (.t 54))), none⟩, ⟨5, (.op (.mv (.k (.int .i64 0)))), none⟩] [1, 2, 40, 45, 46, 47, 48, 49, 50, 51, 52, 53, 54])
  .ret))))
theorem k49 : fnOk Tryd.prog Tryd.f49 c49 55 2 [.t 4, .t 5] = true := by kernel_rfl
theorem mixed : Tryd.prog.follows .mixedOrders = true := by kernel_rfl
end Go.Fx.Tryd
