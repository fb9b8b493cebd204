/- Part of a proof: see the last text of the claim. -/
import Derived.Test.YtdjbhceoodcphaaGreatA4
import Derived.Test.YtdjbhceoodcphaaGreatA7
set_option linter.unusedVariables false
namespace Go.Fx.Tryz
open Go Go.Fm Go.Proofs
/-- guerdon/guerdonref08.digit -/
def c_ref08_digit : FC :=
  (.seq (.reg none [⟨2, (.op (.mv (.k (.bool false)))), none⟩] [2])
  (.seq (.reg none [⟨3, (.op (.mv (.t 0))), none⟩, ⟨4, (.op (.bin .geq (.t 3) (.k (.int .u8 48)))), none⟩, ⟨5, (.op (.mv (.t 4))), none⟩, ⟨6, (.op (.mv (.t 0))), some (5, true)⟩, ⟨7, (.op (.bin .leq (.t 6) (.k (.int .u8 57)))), some (5, true)⟩, ⟨8, (.op (.pick (.t 5) (.t 7) (.k (.bool false)))), none⟩, ⟨2, (.op (.mv (.t 8))), none⟩] [0, 3, 4, 5, 6, 7, 8])
  .ret))
theorem k_ref08_digit : fnOk Tryz.prog Tryz.f140 c_ref08_digit 9 1 [.t 2] = true := by kernel_rfl
theorem u_ref08_digit : Tryz.prog.funcs[n_ref08_digit]? = some Tryz.f140 := Tryz.func140
/-- guerdon/guerdonref09.In -/
def c_ref09_In : FC :=
  (.seq (.reg none [⟨4, (.op (.box (.t 1))), none⟩, ⟨6, (.op (.mv (.k (.bool false)))), none⟩] [1, 6])
  (.seq (.reg none [⟨10, (.op (.load (.t 4) 2 true)), none⟩, ⟨11, (.op (.mv (.t 2))), none⟩, ⟨12, (.callL n_ref09_Bounds [.t 10, .t 11]), none⟩, ⟨9, (.op (.mvP true (.t 12))), none⟩, ⟨13, (.op (.extract 9 0)), none⟩, ⟨14, (.op (.extract 9 1)), none⟩, ⟨7, (.op (.mvP true (.t 13))), none⟩, ⟨8, (.op (.mvP true (.t 14))), none⟩] [2, 4, 9, 10, 11, 12, 13, 14])
  (.seq (.reg none [⟨15, (.op (.mv (.t 7))), none⟩, ⟨16, (.op (.mv (.t 0))), none⟩, ⟨17, (.op (.bin .leq (.t 15) (.t 16))), none⟩, ⟨18, (.op (.mv (.t 17))), none⟩, ⟨19, (.op (.mv (.t 0))), some (18, true)⟩, ⟨20, (.op (.mv (.t 8))), some (18, true)⟩, ⟨21, (.op (.bin .leq (.t 19) (.t 20))), some (18, true)⟩, ⟨22, (.op (.pick (.t 18) (.t 21) (.k (.bool false)))), none⟩, ⟨6, (.op (.mv (.t 22))), none⟩] [0, 7, 8, 15, 16, 17, 18, 19, 20, 21, 22])
  .ret)))
theorem k_ref09_In : fnOk Tryz.prog Tryz.f141 c_ref09_In 23 3 [.t 6] = true := by kernel_rfl
theorem u_ref09_In : Tryz.prog.funcs[n_ref09_In]? = some Tryz.f141 := Tryz.func141
/-- guerdon/guerdonref05.Intersect -/
def c_ref05_Intersect : FC :=
  (.seq (.reg none [⟨2, (.op (.box (.t 0))), none⟩, ⟨3, (.op (.box (.t 1))), none⟩, ⟨4, (.op (.alloc [(.int .i64 0), (.int .i64 0)])), none⟩, ⟨5, (.op (.mv (.k (.bool false)))), none⟩] [0, 1, 5])
  (.seq (.seq (.reg none [⟨7, (.op (.load (.t 2) 2 true)), none⟩, ⟨8, (.callL n_ref05_Valid [.t 7]), none⟩, ⟨9, (.op (.un .not (.t 8))), none⟩, ⟨10, (.op (.mv (.t 9))), none⟩, ⟨11, (.op (.load (.t 3) 2 true)), some (10, false)⟩, ⟨12, (.callL n_ref05_Valid [.t 11]), some (10, false)⟩, ⟨13, (.op (.un .not (.t 12))), some (10, false)⟩, ⟨14, (.op (.pick (.t 10) (.k (.bool true)) (.t 13))), none⟩] [7, 8, 9, 10, 11, 12, 13])
  (.cond (.t 14)
    (.seq (.reg none [⟨15, (.op (.build [(.int .i64 0), (.int .i64 0)] [] [])), none⟩, ⟨0, (.op (.store (.t 4) (.t 15) 2 true)), none⟩, ⟨5, (.op (.mv (.k (.bool false)))), none⟩] [2, 3, 14, 15])
    .ret)
    .skip))
  (.seq (.reg none [⟨16, (.op (.fa (.t 2) 0)), none⟩, ⟨17, (.op (.load (.t 16) 1 false)), none⟩, ⟨18, (.op (.fa (.t 3) 0)), none⟩, ⟨19, (.op (.load (.t 18) 1 false)), none⟩, ⟨20, (.op (.mm true (.t 17) (.t 19))), none⟩, ⟨21, (.op (.fa (.t 2) 1)), none⟩, ⟨22, (.op (.load (.t 21) 1 false)), none⟩, ⟨23, (.op (.fa (.t 3) 1)), none⟩, ⟨24, (.op (.load (.t 23) 1 false)), none⟩, ⟨25, (.op (.mm false (.t 22) (.t 24))), none⟩, ⟨26, (.op (.build [(.int .i64 0), (.int .i64 0)] [(0, 1), (1, 1)] [.t 20, .t 25])), none⟩, ⟨6, (.op (.alloc [(.int .i64 0), (.int .i64 0)])), none⟩, ⟨0, (.op (.store (.t 6) (.t 26) 2 true)), none⟩] [2, 3, 14, 16, 17, 18, 19, 20, 21, 22, 23, 24, 25, 26])
  (.seq (.seq (.reg none [⟨27, (.op (.fa (.t 6) 0)), none⟩, ⟨28, (.op (.load (.t 27) 1 false)), none⟩, ⟨29, (.op (.fa (.t 6) 1)), none⟩, ⟨30, (.op (.load (.t 29) 1 false)), none⟩, ⟨31, (.op (.bin .geq (.t 28) (.t 30))), none⟩] [27, 28, 29, 30])
  (.cond (.t 31)
    (.seq (.reg none [⟨32, (.op (.build [(.int .i64 0), (.int .i64 0)] [] [])), none⟩, ⟨0, (.op (.store (.t 4) (.t 32) 2 true)), none⟩, ⟨5, (.op (.mv (.k (.bool false)))), none⟩] [6, 31, 32])
    .ret)
    .skip))
  (.seq (.reg none [⟨33, (.op (.load (.t 6) 2 true)), none⟩, ⟨0, (.op (.store (.t 4) (.t 33) 2 true)), none⟩, ⟨5, (.op (.mv (.k (.bool true)))), none⟩] [6, 31, 33])
  .ret)))))
theorem k_ref05_Intersect : fnOk Tryz.prog Tryz.f142 c_ref05_Intersect 34 2 [.c 4 2 true, .t 5] = true := by kernel_rfl
theorem u_ref05_Intersect : Tryz.prog.funcs[n_ref05_Intersect]? = some Tryz.f142 := Tryz.func142
/-- guerdon/guerdonref10.TypeOf -/
def c_ref10_TypeOf : FC :=
  (.seq (.reg none [⟨3, (.op (.box (.t 1))), none⟩, ⟨4, (.op (.alloc [(.int .i64 0), (.int .i64 0)])), none⟩, ⟨5, (.op (.mv (.k (.int .i64 0)))), none⟩, ⟨6, (.op (.mv (.k (.int .i64 0)))), none⟩] [1, 5, 6])
  (.seq (.reg none [⟨16, (.op (.mv (.t 0))), none⟩, ⟨17, (.callL n_ref10_structure [.t 16]), none⟩, ⟨15, (.op (.mvP true (.t 17))), none⟩, ⟨18, (.op (.extract 15 0)), none⟩, ⟨19, (.op (.extract 15 1)), none⟩, ⟨20, (.op (.extract 15 2)), none⟩, ⟨7, (.op (.mvP true (.t 18))), none⟩, ⟨8, (.op (.mvP true (.t 19))), none⟩, ⟨9, (.op (.mvP true (.t 20))), none⟩] [7, 15, 16, 17, 18, 19, 20])
  (.seq (.seq (.reg none [⟨21, (.op (.mv (.t 9))), none⟩, ⟨22, (.op (.bin .neq (.t 21) (.k (.int .i64 0)))), none⟩] [21])
  (.cond (.t 22)
    (.seq (.reg none [⟨23, (.op (.build [(.int .i64 0), (.int .i64 0)] [] [])), none⟩, ⟨24, (.op (.mv (.t 8))), none⟩, ⟨25, (.op (.mv (.t 9))), none⟩, ⟨0, (.op (.store (.t 4) (.t 23) 2 true)), none⟩, ⟨5, (.op (.mv (.t 24))), none⟩, ⟨6, (.op (.mv (.t 25))), none⟩] [0, 3, 8, 9, 22, 23, 24, 25])
    .ret)
    .skip))
  (.seq (.reg none [⟨10, (.op (.mv (.k (.arr [])))), none⟩] [8, 9, 22])
  (.seq (.seq (.reg none [⟨11, (.op (.mv (.k (.int .i64 0)))), none⟩] [])
  (.block 0 (.loop (.seq (.seq (.reg none [⟨26, (.op (.mv (.t 11))), none⟩, ⟨27, (.op (.mv (.t 0))), none⟩, ⟨28, (.op (.len (.t 27))), none⟩, ⟨29, (.op (.bin .lss (.t 26) (.t 28))), none⟩] [26, 27, 28])
      (.cond (.t 29)
        .skip
        (.exit 0)))
      (.seq (.block 1 (.seq (.reg none [⟨32, (.op (.mv (.t 10))), none⟩, ⟨33, (.op (.len (.t 32))), none⟩, ⟨34, (.op (.mv (.t 0))), none⟩, ⟨35, (.op (.mv (.t 11))), none⟩, ⟨36, (.op (.ia (.t 34) (.t 35) 2)), none⟩, ⟨37, (.op (.fa (.t 36) 0)), none⟩, ⟨38, (.op (.load (.t 37) 1 false)), none⟩, ⟨39, (.callL n_ref10_Arity [.t 38]), none⟩, ⟨40, (.op (.bin .sub (.t 33) (.t 39))), none⟩, ⟨12, (.op (.mv (.t 40))), none⟩] [29, 32, 33, 34, 35, 36, 37, 38, 39, 40])
        (.seq (.reg (some 15) [⟨42, (.op (.mv (.t 0))), none⟩, ⟨43, (.op (.mv (.t 11))), none⟩, ⟨44, (.op (.ia (.t 42) (.t 43) 2)), none⟩, ⟨45, (.op (.load (.t 44) 2 true)), none⟩, ⟨46, (.op (.mv (.t 10))), none⟩, ⟨47, (.op (.mv (.t 12))), none⟩, ⟨48, (.op (.subSl (.t 46) (some (.t 47)) none 2)), none⟩, ⟨49, (.op (.load (.t 3) 6 true)), none⟩, ⟨50, (.callB n_ref10_Result [.t 45, .t 48, .t 49]), none⟩, ⟨41, (.op (.mvP true (.t 50))), none⟩, ⟨51, (.op (.extractL 41 0)), none⟩, ⟨52, (.op (.extractL 41 1)), none⟩, ⟨13, (.op (.alloc [(.int .i64 0), (.int .i64 0)])), none⟩, ⟨13, (.storeW (.t 51) 2), none⟩, ⟨14, (.op (.mv (.t 52))), none⟩] [41, 42, 43, 44, 45, 46, 47, 48, 49, 50, 51, 52])
        (.seq (.seq (.reg none [⟨53, (.op (.mv (.t 14))), none⟩, ⟨54, (.op (.bin .neq (.t 53) (.k (.int .i64 0)))), none⟩] [53])
        (.cond (.t 54)
          (.seq (.reg none [⟨55, (.op (.build [(.int .i64 0), (.int .i64 0)] [] [])), none⟩, ⟨56, (.op (.mv (.t 11))), none⟩, ⟨57, (.op (.mv (.t 14))), none⟩, ⟨0, (.op (.store (.t 4) (.t 55) 2 true)), none⟩, ⟨5, (.op (.mv (.t 56))), none⟩, ⟨6, (.op (.mv (.t 57))), none⟩] [0, 3, 10, 11, 12, 13, 14, 54, 55, 56, 57])
          .ret)
          .skip))
        (.reg (some 5) [⟨58, (.op (.mv (.t 10))), none⟩, ⟨59, (.op (.mv (.t 12))), none⟩, ⟨60, (.op (.subSl (.t 58) none (some (.t 59)) 2)), none⟩, ⟨61, (.op (.load (.t 13) 2 true)), none⟩, ⟨62, (.op (.buildSl [(.int .i64 0), (.int .i64 0)] 1 [0] [.t 61])), none⟩, ⟨63, (.op (.app (.t 60) (.t 62) 2 16)), none⟩, ⟨10, (.op (.mvP true (.t 63))), none⟩] [12, 13, 14, 54, 58, 59, 60, 61, 62, 63])))))
      (.reg none [⟨30, (.op (.mv (.t 11))), none⟩, ⟨31, (.op (.bin .add (.t 30) (.k (.int .i64 1)))), none⟩, ⟨11, (.op (.mv (.t 31))), none⟩] [30, 31]))))))
  (.seq (.reg none [⟨64, (.op (.mv (.t 10))), none⟩, ⟨65, (.op (.ia (.t 64) (.k (.int .i64 0)) 2)), none⟩, ⟨66, (.op (.load (.t 65) 2 true)), none⟩, ⟨0, (.op (.store (.t 4) (.t 66) 2 true)), none⟩, ⟨5, (.op (.mv (.k (.int .i64 0)))), none⟩, ⟨6, (.op (.mv (.k (.int .i64 0)))), none⟩] [0, 3, 10, 11, 29, 64, 65, 66])
  .ret))))))
theorem k_ref10_TypeOf : fnOk Tryz.prog Tryz.f143 c_ref10_TypeOf 67 2 [.c 4 2 true, .t 5, .t 6] = true := by kernel_rfl
theorem u_ref10_TypeOf : Tryz.prog.funcs[n_ref10_TypeOf]? = some Tryz.f143 := Tryz.func143
/-- guerdon/guerdonref16.is -/
def c_ref16_is : FC :=
  (.seq (.reg none [⟨2, (.op (.box (.t 0))), none⟩, ⟨4, (.op (.mv (.k (.bool false)))), none⟩] [0, 4])
  (.seq (.reg none [⟨5, (.op (.mv (.t 1))), none⟩, ⟨6, (.op (.bin .geq (.t 5) (.k (.int .i64 0)))), none⟩, ⟨7, (.op (.mv (.t 6))), none⟩, ⟨8, (.op (.mv (.t 1))), some (7, true)⟩, ⟨9, (.op (.fa (.t 2) 3)), some (7, true)⟩, ⟨10, (.op (.load (.t 9) 1 false)), some (7, true)⟩, ⟨11, (.op (.len (.t 10))), some (7, true)⟩, ⟨12, (.op (.bin .lss (.t 8) (.t 11))), some (7, true)⟩, ⟨13, (.op (.pick (.t 7) (.t 12) (.k (.bool false)))), none⟩, ⟨4, (.op (.mv (.t 13))), none⟩] [1, 2, 5, 6, 7, 8, 9, 10, 11, 12, 13])
  .ret))
theorem k_ref16_is : fnOk Tryz.prog Tryz.f144 c_ref16_is 14 2 [.t 4] = true := by kernel_rfl
theorem u_ref16_is : Tryz.prog.funcs[n_ref16_is]? = some Tryz.f144 := Tryz.func144
/-- guerdon/guerdonref10.References -/
def c_ref10_References : FC :=
  (.seq (.reg none [⟨2, (.op (.mv (.k (.arr [])))), none⟩, ⟨3, (.op (.mv (.k (.arr [])))), none⟩, ⟨4, (.op (.mv (.k (.arr [])))), none⟩] [2, 3, 4])
  (.seq (.reg none [⟨5, (.op (.mv (.k (.arr [])))), none⟩, ⟨6, (.op (.mv (.k (.arr [])))), none⟩, ⟨7, (.op (.mv (.k (.arr [])))), none⟩] [])
  (.seq (.seq (.reg none [⟨8, (.op (.mv (.k (.int .i64 0)))), none⟩] [])
  (.block 0 (.loop (.seq (.seq (.reg none [⟨10, (.op (.mv (.t 8))), none⟩, ⟨11, (.op (.mv (.t 0))), none⟩, ⟨12, (.op (.len (.t 11))), none⟩, ⟨13, (.op (.bin .lss (.t 10) (.t 12))), none⟩] [10, 11, 12])
      (.cond (.t 13)
        .skip
        (.exit 0)))
      (.seq (.block 1 (.seq (.reg none [⟨16, (.op (.mv (.t 0))), none⟩, ⟨17, (.op (.mv (.t 8))), none⟩, ⟨18, (.op (.ia (.t 16) (.t 17) 2)), none⟩, ⟨19, (.op (.fa (.t 18) 0)), none⟩, ⟨20, (.op (.load (.t 19) 1 false)), none⟩, ⟨9, (.op (.mv (.t 20))), none⟩] [13, 16, 17, 18, 19, 20])
        (.seq (.seq (.reg none [⟨21, (.op (.mv (.t 9))), none⟩, ⟨22, (.op (.bin .eql (.t 21) (.k (.int .i64 7)))), none⟩] [21])
        (.cond (.t 22)
          (.reg none [⟨23, (.op (.mv (.t 5))), none⟩, ⟨24, (.op (.mv (.t 0))), none⟩, ⟨25, (.op (.mv (.t 8))), none⟩, ⟨26, (.op (.ia (.t 24) (.t 25) 2)), none⟩, ⟨27, (.op (.fa (.t 26) 1)), none⟩, ⟨28, (.op (.load (.t 27) 1 false)), none⟩, ⟨29, (.callB n_ref10_insert [.t 23, .t 28]), none⟩, ⟨5, (.op (.mvP true (.t 29))), none⟩] [22, 23, 24, 25, 26, 27, 28, 29])
          .skip))
        (.seq (.seq (.reg none [⟨30, (.op (.mv (.t 9))), none⟩, ⟨31, (.op (.bin .eql (.t 30) (.k (.int .i64 8)))), none⟩] [22, 30])
        (.cond (.t 31)
          (.reg none [⟨32, (.op (.mv (.t 6))), none⟩, ⟨33, (.op (.mv (.t 0))), none⟩, ⟨34, (.op (.mv (.t 8))), none⟩, ⟨35, (.op (.ia (.t 33) (.t 34) 2)), none⟩, ⟨36, (.op (.fa (.t 35) 1)), none⟩, ⟨37, (.op (.load (.t 36) 1 false)), none⟩, ⟨38, (.callB n_ref10_insert [.t 32, .t 37]), none⟩, ⟨6, (.op (.mvP true (.t 38))), none⟩] [31, 32, 33, 34, 35, 36, 37, 38])
          .skip))
        (.seq (.reg none [⟨39, (.op (.mv (.t 9))), none⟩, ⟨40, (.op (.bin .geq (.t 39) (.k (.int .i64 36)))), none⟩, ⟨41, (.op (.mv (.t 40))), none⟩, ⟨42, (.op (.mv (.t 9))), some (41, true)⟩, ⟨43, (.op (.bin .leq (.t 42) (.k (.int .i64 39)))), some (41, true)⟩, ⟨44, (.op (.pick (.t 41) (.t 43) (.k (.bool false)))), none⟩] [9, 31, 39, 40, 41, 42, 43])
        (.cond (.t 44)
          (.reg none [⟨45, (.op (.mv (.t 7))), none⟩, ⟨46, (.op (.mv (.t 0))), none⟩, ⟨47, (.op (.mv (.t 8))), none⟩, ⟨48, (.op (.ia (.t 46) (.t 47) 2)), none⟩, ⟨49, (.op (.fa (.t 48) 1)), none⟩, ⟨50, (.op (.load (.t 49) 1 false)), none⟩, ⟨51, (.callB n_ref10_insert [.t 45, .t 50]), none⟩, ⟨7, (.op (.mvP true (.t 51))), none⟩] [44, 45, 46, 47, 48, 49, 50, 51])
          .skip))))))
      (.reg none [⟨14, (.op (.mv (.t 8))), none⟩, ⟨15, (.op (.bin .add (.t 14) (.k (.int .i64 1)))), none⟩, ⟨8, (.op (.mv (.t 15))), none⟩] [14, 15, 44]))))))
  (.seq (.reg none [⟨52, (.op (.mv (.t 5))), none⟩, ⟨53, (.op (.mv (.t 6))), none⟩, ⟨54, (.op (.mv (.t 7))), none⟩, ⟨2, (.op (.mv (.t 52))), none⟩, ⟨3, (.op (.mv (.t 53))), none⟩, ⟨4, (.op (.mv (.t 54))), none⟩] [0, 8, 13])
  .ret))))
theorem k_ref10_References : fnOk Tryz.prog Tryz.f145 c_ref10_References 55 1 [.t 2, .t 3, .t 4] = true := by kernel_rfl
theorem u_ref10_References : Tryz.prog.funcs[n_ref10_References]? = some Tryz.f145 := Tryz.func145
/-- guerdon/expr.meaning -/
def c_expr_meaning : FC :=
  (.seq (.reg none [⟨2, (.op (.mv (.k (.bool false)))), none⟩] [2])
  (.seq (.seq (.reg none [⟨3, (.op (.mv (.t 0))), none⟩] [])
  (.block 0 (.seq (.seq (.reg none [⟨5, (.op (.bin .eql (.t 3) (.k (.int .i64 7)))), none⟩, ⟨4, (.op (.mv (.t 5))), none⟩] [5])
    (.cond (.t 4)
      .skip
      (.seq (.reg none [⟨6, (.op (.bin .eql (.t 3) (.k (.int .i64 8)))), none⟩, ⟨4, (.op (.mv (.t 6))), none⟩] [6])
      (.cond (.t 4)
        .skip
        (.seq (.reg none [⟨7, (.op (.bin .eql (.t 3) (.k (.int .i64 14)))), none⟩, ⟨4, (.op (.mv (.t 7))), none⟩] [7])
        (.cond (.t 4)
          .skip
          (.seq (.reg none [⟨8, (.op (.bin .eql (.t 3) (.k (.int .i64 15)))), none⟩, ⟨4, (.op (.mv (.t 8))), none⟩] [8])
          (.cond (.t 4)
            .skip
            (.seq (.reg none [⟨9, (.op (.bin .eql (.t 3) (.k (.int .i64 16)))), none⟩, ⟨4, (.op (.mv (.t 9))), none⟩] [9])
            (.cond (.t 4)
              .skip
              (.seq (.reg none [⟨10, (.op (.bin .eql (.t 3) (.k (.int .i64 33)))), none⟩, ⟨4, (.op (.mv (.t 10))), none⟩] [10])
              (.cond (.t 4)
                .skip
                (.seq (.reg none [⟨11, (.op (.bin .eql (.t 3) (.k (.int .i64 34)))), none⟩, ⟨4, (.op (.mv (.t 11))), none⟩] [11])
                (.cond (.t 4)
                  .skip
                  (.seq (.reg none [⟨12, (.op (.bin .eql (.t 3) (.k (.int .i64 36)))), none⟩, ⟨4, (.op (.mv (.t 12))), none⟩] [12])
                  (.cond (.t 4)
                    .skip
                    (.seq (.reg none [⟨13, (.op (.bin .eql (.t 3) (.k (.int .i64 37)))), none⟩, ⟨4, (.op (.mv (.t 13))), none⟩] [13])
                    (.cond (.t 4)
                      .skip
                      (.seq (.reg none [⟨14, (.op (.bin .eql (.t 3) (.k (.int .i64 38)))), none⟩, ⟨4, (.op (.mv (.t 14))), none⟩] [14])
                      (.cond (.t 4)
                        .skip
                        (.reg none [⟨15, (.op (.bin .eql (.t 3) (.k (.int .i64 39)))), none⟩, ⟨4, (.op (.mv (.t 15))), none⟩] [3, 15])))))))))))))))))))))
    (.cond (.t 4)
      (.seq (.reg none [⟨2, (.op (.mv (.k (.bool true)))), none⟩] [0, 3, 4])
      .ret)
      .skip))))
  (.seq (.reg none [⟨16, (.op (.mv (.t 0))), none⟩, ⟨17, (.callL n_expr_literal [.t 16]), none⟩, ⟨18, (.op (.bin .gtr (.t 17) (.k (.int .i64 0)))), none⟩, ⟨2, (.op (.mv (.t 18))), none⟩] [0, 3, 4, 16, 17, 18])
  .ret)))
theorem k_expr_meaning : fnOk Tryz.prog Tryz.f146 c_expr_meaning 19 1 [.t 2] = true := by kernel_rfl
theorem u_expr_meaning : Tryz.prog.funcs[n_expr_meaning]? = some Tryz.f146 := Tryz.func146
/-- guerdon/expr.at[guerdon/api.Enum] -/
def c_expr_at_api_Enum : FC :=
  (.seq (.reg none [⟨4, (.op (.alloc [(.str []), (.sl true [])])), none⟩, ⟨5, (.op (.mv (.k (.int .i64 0)))), none⟩] [5])
  (.seq (.seq (.reg none [⟨7, (.op (.mv (.t 1))), none⟩, ⟨8, (.op (.bin .lss (.t 7) (.k (.int .i64 0)))), none⟩, ⟨9, (.op (.mv (.t 8))), none⟩, ⟨10, (.op (.mv (.t 1))), some (9, false)⟩, ⟨11, (.op (.mv (.t 0))), some (9, false)⟩, ⟨12, (.op (.len (.t 11))), some (9, false)⟩, ⟨13, (.op (.bin .geq (.t 10) (.t 12))), some (9, false)⟩, ⟨14, (.op (.pick (.t 9) (.k (.bool true)) (.t 13))), none⟩] [7, 8, 9, 10, 11, 12, 13])
  (.cond (.t 14)
    (.seq (.reg none [⟨6, (.op (.alloc [(.str []), (.sl true [])])), none⟩] [0, 1, 14])
    (.seq (.reg none [⟨15, (.op (.loadM true (.t 6) 2 true)), none⟩, ⟨0, (.op (.store (.t 4) (.t 15) 2 true)), none⟩, ⟨5, (.op (.mv (.k (.int .i64 6)))), none⟩] [6, 15])
    .ret))
    .skip))
  (.seq (.reg none [⟨16, (.op (.mv (.t 0))), none⟩, ⟨17, (.op (.mv (.t 1))), none⟩, ⟨18, (.op (.ia (.t 16) (.t 17) 2)), none⟩, ⟨19, (.op (.load (.t 18) 2 true)), none⟩, ⟨0, (.op (.store (.t 4) (.t 19) 2 true)), none⟩, ⟨5, (.op (.mv (.k (.int .i64 0)))), none⟩] [0, 1, 14, 16, 17, 18, 19])
  .ret)))
theorem k_expr_at_api_Enum : fnOk Tryz.prog Tryz.f147 c_expr_at_api_Enum 20 2 [.c 4 2 true, .t 5] = true := by kernel_rfl
theorem u_expr_at_api_Enum : Tryz.prog.funcs[n_expr_at_api_Enum]? = some Tryz.f147 := Tryz.func147
/-- guerdon/expr.at[string] -/
def c_expr_at_string : FC :=
  (.seq (.reg none [⟨4, (.op (.mv (.k (.str [])))), none⟩, ⟨5, (.op (.mv (.k (.int .i64 0)))), none⟩] [4, 5])
  (.seq (.seq (.reg none [⟨7, (.op (.mv (.t 1))), none⟩, ⟨8, (.op (.bin .lss (.t 7) (.k (.int .i64 0)))), none⟩, ⟨9, (.op (.mv (.t 8))), none⟩, ⟨10, (.op (.mv (.t 1))), some (9, false)⟩, ⟨11, (.op (.mv (.t 0))), some (9, false)⟩, ⟨12, (.op (.len (.t 11))), some (9, false)⟩, ⟨13, (.op (.bin .geq (.t 10) (.t 12))), some (9, false)⟩, ⟨14, (.op (.pick (.t 9) (.k (.bool true)) (.t 13))), none⟩] [7, 8, 9, 10, 11, 12, 13])
  (.cond (.t 14)
    (.seq (.reg none [⟨6, (.op (.mv (.k (.str [])))), none⟩] [0, 1, 14])
    (.seq (.reg none [⟨15, (.op (.mv (.t 6))), none⟩, ⟨4, (.op (.mv (.t 15))), none⟩, ⟨5, (.op (.mv (.k (.int .i64 6)))), none⟩] [6, 15])
    .ret))
    .skip))
  (.seq (.reg none [⟨16, (.op (.mv (.t 0))), none⟩, ⟨17, (.op (.mv (.t 1))), none⟩, ⟨18, (.op (.ia (.t 16) (.t 17) 1)), none⟩, ⟨19, (.op (.load (.t 18) 1 false)), none⟩, ⟨4, (.op (.mv (.t 19))), none⟩, ⟨5, (.op (.mv (.k (.int .i64 0)))), none⟩] [0, 1, 14, 16, 17, 18, 19])
  .ret)))
theorem k_expr_at_string : fnOk Tryz.prog Tryz.f148 c_expr_at_string 20 2 [.t 4, .t 5] = true := by kernel_rfl
theorem u_expr_at_string : Tryz.prog.funcs[n_expr_at_string]? = some Tryz.f148 := Tryz.func148
/-- guerdon/expr.at[guerdon/api.Type] -/
def c_expr_at_api_Type : FC :=
  (.seq (.reg none [⟨4, (.op (.alloc [(.int .i64 0), (.int .i64 0)])), none⟩, ⟨5, (.op (.mv (.k (.int .i64 0)))), none⟩] [5])
  (.seq (.seq (.reg none [⟨7, (.op (.mv (.t 1))), none⟩, ⟨8, (.op (.bin .lss (.t 7) (.k (.int .i64 0)))), none⟩, ⟨9, (.op (.mv (.t 8))), none⟩, ⟨10, (.op (.mv (.t 1))), some (9, false)⟩, ⟨11, (.op (.mv (.t 0))), some (9, false)⟩, ⟨12, (.op (.len (.t 11))), some (9, false)⟩, ⟨13, (.op (.bin .geq (.t 10) (.t 12))), some (9, false)⟩, ⟨14, (.op (.pick (.t 9) (.k (.bool true)) (.t 13))), none⟩] [7, 8, 9, 10, 11, 12, 13])
  (.cond (.t 14)
    (.seq (.reg none [⟨6, (.op (.alloc [(.int .i64 0), (.int .i64 0)])), none⟩] [0, 1, 14])
    (.seq (.reg none [⟨15, (.op (.load (.t 6) 2 true)), none⟩, ⟨0, (.op (.store (.t 4) (.t 15) 2 true)), none⟩, ⟨5, (.op (.mv (.k (.int .i64 6)))), none⟩] [6, 15])
    .ret))
    .skip))
  (.seq (.reg none [⟨16, (.op (.mv (.t 0))), none⟩, ⟨17, (.op (.mv (.t 1))), none⟩, ⟨18, (.op (.ia (.t 16) (.t 17) 2)), none⟩, ⟨19, (.op (.load (.t 18) 2 true)), none⟩, ⟨0, (.op (.store (.t 4) (.t 19) 2 true)), none⟩, ⟨5, (.op (.mv (.k (.int .i64 0)))), none⟩] [0, 1, 14, 16, 17, 18, 19])
  .ret)))
theorem k_expr_at_api_Type : fnOk Tryz.prog Tryz.f149 c_expr_at_api_Type 20 2 [.c 4 2 true, .t 5] = true := by kernel_rfl
theorem u_expr_at_api_Type : Tryz.prog.funcs[n_expr_at_api_Type]? = some Tryz.f149 := Tryz.func149
/-- guerdon/expr.aggregate -/
def c_expr_aggregate : FC :=
  (.seq (.reg none [⟨4, (.op (.mv (.k (.bool false)))), none⟩] [4])
  (.seq (.seq (.reg none [⟨5, (.op (.mv (.t 0))), none⟩] [0])
  (.block 0 (.seq (.reg none [⟨7, (.op (.bin .eql (.t 5) (.k (.int .i64 36)))), none⟩, ⟨6, (.op (.mv (.t 7))), none⟩] [7])
    (.cond (.t 6)
      (.seq (.reg none [⟨8, (.op (.mv (.t 1))), none⟩, ⟨9, (.op (.bin .eql (.t 8) (.k (.int .i64 2)))), none⟩, ⟨10, (.op (.mv (.t 9))), none⟩, ⟨11, (.op (.mv (.t 1))), some (10, false)⟩, ⟨12, (.op (.bin .eql (.t 11) (.k (.int .i64 3)))), some (10, false)⟩, ⟨13, (.op (.pick (.t 10) (.k (.bool true)) (.t 12))), none⟩, ⟨4, (.op (.mv (.t 13))), none⟩] [1, 5, 6, 8, 9, 10, 11, 12, 13])
      .ret)
      (.seq (.seq (.reg none [⟨15, (.op (.bin .eql (.t 5) (.k (.int .i64 37)))), none⟩, ⟨14, (.op (.mv (.t 15))), none⟩] [6, 15])
      (.cond (.t 14)
        .skip
        (.reg none [⟨16, (.op (.bin .eql (.t 5) (.k (.int .i64 38)))), none⟩, ⟨14, (.op (.mv (.t 16))), none⟩] [16])))
      (.cond (.t 14)
        (.seq (.reg none [⟨17, (.op (.mv (.t 1))), none⟩, ⟨18, (.op (.bin .eql (.t 17) (.k (.int .i64 1)))), none⟩, ⟨4, (.op (.mv (.t 18))), none⟩] [1, 5, 14, 17, 18])
        .ret)
        (.seq (.reg none [⟨20, (.op (.bin .eql (.t 5) (.k (.int .i64 39)))), none⟩, ⟨19, (.op (.mv (.t 20))), none⟩] [5, 14, 20])
        (.cond (.t 19)
          (.seq (.reg none [⟨21, (.op (.mv (.t 1))), none⟩, ⟨22, (.callL n_expr_ordered [.t 21]), none⟩, ⟨4, (.op (.mvP true (.t 22))), none⟩] [1, 19, 21, 22])
          .ret)
          .skip))))))))
  (.seq (.reg none [⟨4, (.op (.mv (.k (.bool true)))), none⟩] [1, 19])
  .ret)))
theorem k_expr_aggregate : fnOk Tryz.prog Tryz.f150 c_expr_aggregate 23 2 [.t 4] = true := by kernel_rfl
theorem u_expr_aggregate : Tryz.prog.funcs[n_expr_aggregate]? = some Tryz.f150 := Tryz.func150
/-- guerdon/expr.at[guerdon/api.Table] -/
def c_expr_at_api_Table : FC :=
  (.seq (.reg none [⟨4, (.op (.alloc [(.str []), (.int .i64 0), (.int .i64 0), (.int .i64 0), (.int .i64 0), (.sl true [])])), none⟩, ⟨5, (.op (.mv (.k (.int .i64 0)))), none⟩] [5])
  (.seq (.seq (.reg none [⟨7, (.op (.mv (.t 1))), none⟩, ⟨8, (.op (.bin .lss (.t 7) (.k (.int .i64 0)))), none⟩, ⟨9, (.op (.mv (.t 8))), none⟩, ⟨10, (.op (.mv (.t 1))), some (9, false)⟩, ⟨11, (.op (.mv (.t 0))), some (9, false)⟩, ⟨12, (.op (.len (.t 11))), some (9, false)⟩, ⟨13, (.op (.bin .geq (.t 10) (.t 12))), some (9, false)⟩, ⟨14, (.op (.pick (.t 9) (.k (.bool true)) (.t 13))), none⟩] [7, 8, 9, 10, 11, 12, 13])
  (.cond (.t 14)
    (.seq (.reg none [⟨6, (.op (.alloc [(.str []), (.int .i64 0), (.int .i64 0), (.int .i64 0), (.int .i64 0), (.sl true [])])), none⟩] [0, 1, 14])
    (.seq (.reg none [⟨15, (.op (.loadM true (.t 6) 6 true)), none⟩, ⟨0, (.op (.store (.t 4) (.t 15) 6 true)), none⟩, ⟨5, (.op (.mv (.k (.int .i64 6)))), none⟩] [6, 15])
    .ret))
    .skip))
  (.seq (.reg none [⟨16, (.op (.mv (.t 0))), none⟩, ⟨17, (.op (.mv (.t 1))), none⟩, ⟨18, (.op (.ia (.t 16) (.t 17) 6)), none⟩, ⟨19, (.op (.load (.t 18) 6 true)), none⟩, ⟨0, (.op (.store (.t 4) (.t 19) 6 true)), none⟩, ⟨5, (.op (.mv (.k (.int .i64 0)))), none⟩] [0, 1, 14, 16, 17, 18, 19])
  .ret)))
theorem k_expr_at_api_Table : fnOk Tryz.prog Tryz.f151 c_expr_at_api_Table 20 2 [.c 4 6 true, .t 5] = true := by kernel_rfl
theorem u_expr_at_api_Table : Tryz.prog.funcs[n_expr_at_api_Table]? = some Tryz.f151 := Tryz.func151
/-- guerdon/expr.result$1 -/
def c_expr_result_1 : FC :=
  (.seq (.reg none [⟨4, (.op (.alloc [(.int .i64 0), (.int .i64 0)])), none⟩] [])
  (.seq (.seq (.reg none [⟨5, (.op (.mv (.t 1))), none⟩, ⟨6, (.op (.un .not (.t 5))), none⟩] [1, 5])
  (.cond (.t 6)
    (.seq (.reg none [⟨7, (.op (.build [(.int .i64 0), (.int .i64 0)] [] [])), none⟩, ⟨0, (.op (.store (.t 4) (.t 7) 2 true)), none⟩] [0, 6, 7])
    .ret)
    .skip))
  (.seq (.reg none [⟨8, (.op (.mv (.t 0))), none⟩, ⟨9, (.op (.build [(.int .i64 0), (.int .i64 0)] [(0, 1)] [.t 8])), none⟩, ⟨0, (.op (.store (.t 4) (.t 9) 2 true)), none⟩] [0, 6, 8, 9])
  .ret)))
theorem k_expr_result_1 : fnOk Tryz.prog Tryz.f152 c_expr_result_1 10 2 [.c 4 2 true] = true := by kernel_rfl
theorem u_expr_result_1 : Tryz.prog.funcs[n_expr_result_1]? = some Tryz.f152 := Tryz.func152
/-- guerdon/expr.numeric -/
def c_expr_numeric : FC :=
  (.seq (.reg none [⟨2, (.op (.mv (.k (.bool false)))), none⟩] [2])
  (.seq (.reg none [⟨3, (.op (.mv (.t 0))), none⟩, ⟨4, (.op (.bin .eql (.t 3) (.k (.int .i64 2)))), none⟩, ⟨5, (.op (.mv (.t 4))), none⟩, ⟨6, (.op (.mv (.t 0))), some (5, false)⟩, ⟨7, (.op (.bin .eql (.t 6) (.k (.int .i64 3)))), some (5, false)⟩, ⟨8, (.op (.pick (.t 5) (.k (.bool true)) (.t 7))), none⟩, ⟨9, (.op (.mv (.t 8))), none⟩, ⟨10, (.op (.mv (.t 0))), some (9, false)⟩, ⟨11, (.op (.bin .eql (.t 10) (.k (.int .i64 4)))), some (9, false)⟩, ⟨12, (.op (.pick (.t 9) (.k (.bool true)) (.t 11))), none⟩, ⟨2, (.op (.mv (.t 12))), none⟩] [0, 3, 4, 5, 6, 7, 8, 9, 10, 11, 12])
  .ret))
theorem k_expr_numeric : fnOk Tryz.prog Tryz.f153 c_expr_numeric 13 1 [.t 2] = true := by kernel_rfl
theorem u_expr_numeric : Tryz.prog.funcs[n_expr_numeric]? = some Tryz.f153 := Tryz.func153
/-- guerdon/expr.arithmetic -/
def c_expr_arithmetic : FC :=
  (.seq (.reg none [⟨6, (.op (.mv (.k (.int .i64 0)))), none⟩] [6])
  (.seq (.block 0 (.seq (.reg none [⟨8, (.op (.mv (.t 0))), none⟩, ⟨9, (.op (.bin .eql (.t 8) (.k (.int .i64 13)))), none⟩, ⟨10, (.op (.mv (.t 9))), none⟩, ⟨11, (.op (.mv (.t 2))), some (10, true)⟩, ⟨12, (.op (.bin .eql (.t 11) (.k (.int .i64 2)))), some (10, true)⟩, ⟨13, (.op (.pick (.t 10) (.t 12) (.k (.bool false)))), none⟩, ⟨14, (.op (.mv (.t 13))), none⟩, ⟨15, (.op (.mv (.t 1))), some (14, true)⟩, ⟨16, (.op (.bin .eql (.t 15) (.k (.int .i64 2)))), some (14, true)⟩, ⟨17, (.op (.mv (.t 16))), some (14, true)⟩, ⟨18, (.op (.mv (.t 1))), some (17, false)⟩, ⟨19, (.op (.bin .eql (.t 18) (.k (.int .i64 3)))), some (17, false)⟩, ⟨20, (.op (.pick (.t 17) (.k (.bool true)) (.t 19))), some (14, true)⟩, ⟨21, (.op (.pick (.t 14) (.t 20) (.k (.bool false)))), none⟩, ⟨7, (.op (.mv (.t 21))), none⟩] [8, 9, 10, 11, 12, 13, 14, 15, 16, 17, 18, 19, 20, 21])
    (.cond (.t 7)
      (.seq (.reg none [⟨22, (.op (.mv (.t 1))), none⟩, ⟨6, (.op (.mv (.t 22))), none⟩] [0, 1, 2, 7, 22])
      .ret)
      (.seq (.reg none [⟨24, (.op (.mv (.t 0))), none⟩, ⟨25, (.op (.bin .eql (.t 24) (.k (.int .i64 14)))), none⟩, ⟨26, (.op (.mv (.t 25))), none⟩, ⟨27, (.op (.mv (.t 2))), some (26, true)⟩, ⟨28, (.op (.bin .eql (.t 27) (.k (.int .i64 4)))), some (26, true)⟩, ⟨29, (.op (.pick (.t 26) (.t 28) (.k (.bool false)))), none⟩, ⟨30, (.op (.mv (.t 29))), none⟩, ⟨31, (.op (.mv (.t 1))), some (30, true)⟩, ⟨32, (.op (.bin .eql (.t 31) (.k (.int .i64 3)))), some (30, true)⟩, ⟨33, (.op (.mv (.t 32))), some (30, true)⟩, ⟨34, (.op (.mv (.t 1))), some (33, false)⟩, ⟨35, (.op (.bin .eql (.t 34) (.k (.int .i64 4)))), some (33, false)⟩, ⟨36, (.op (.pick (.t 33) (.k (.bool true)) (.t 35))), some (30, true)⟩, ⟨37, (.op (.pick (.t 30) (.t 36) (.k (.bool false)))), none⟩, ⟨23, (.op (.mv (.t 37))), none⟩] [7, 24, 25, 26, 27, 28, 29, 30, 31, 32, 33, 34, 35, 36, 37])
      (.cond (.t 23)
        (.seq (.reg none [⟨38, (.op (.mv (.t 1))), none⟩, ⟨6, (.op (.mv (.t 38))), none⟩] [0, 1, 2, 23, 38])
        .ret)
        (.seq (.reg none [⟨40, (.op (.mv (.t 0))), none⟩, ⟨41, (.op (.bin .eql (.t 40) (.k (.int .i64 15)))), none⟩, ⟨42, (.op (.mv (.t 41))), none⟩, ⟨43, (.op (.mv (.t 2))), some (42, true)⟩, ⟨44, (.op (.bin .eql (.t 43) (.k (.int .i64 2)))), some (42, true)⟩, ⟨45, (.op (.pick (.t 42) (.t 44) (.k (.bool false)))), none⟩, ⟨46, (.op (.mv (.t 45))), none⟩, ⟨47, (.op (.mv (.t 1))), some (46, true)⟩, ⟨48, (.op (.bin .eql (.t 47) (.k (.int .i64 2)))), some (46, true)⟩, ⟨49, (.op (.mv (.t 48))), some (46, true)⟩, ⟨50, (.op (.mv (.t 1))), some (49, false)⟩, ⟨51, (.op (.bin .eql (.t 50) (.k (.int .i64 3)))), some (49, false)⟩, ⟨52, (.op (.pick (.t 49) (.k (.bool true)) (.t 51))), some (46, true)⟩, ⟨53, (.op (.pick (.t 46) (.t 52) (.k (.bool false)))), none⟩, ⟨39, (.op (.mv (.t 53))), none⟩] [23, 40, 41, 42, 43, 44, 45, 46, 47, 48, 49, 50, 51, 52, 53])
        (.cond (.t 39)
          (.seq (.reg none [⟨54, (.op (.mv (.t 1))), none⟩, ⟨6, (.op (.mv (.t 54))), none⟩] [0, 1, 2, 39, 54])
          .ret)
          (.seq (.reg none [⟨56, (.op (.mv (.t 0))), none⟩, ⟨57, (.op (.bin .eql (.t 56) (.k (.int .i64 15)))), none⟩, ⟨58, (.op (.mv (.t 57))), none⟩, ⟨59, (.op (.mv (.t 1))), some (58, true)⟩, ⟨60, (.op (.bin .eql (.t 59) (.k (.int .i64 3)))), some (58, true)⟩, ⟨61, (.op (.pick (.t 58) (.t 60) (.k (.bool false)))), none⟩, ⟨62, (.op (.mv (.t 61))), none⟩, ⟨63, (.op (.mv (.t 2))), some (62, true)⟩, ⟨64, (.op (.bin .eql (.t 63) (.k (.int .i64 3)))), some (62, true)⟩, ⟨65, (.op (.pick (.t 62) (.t 64) (.k (.bool false)))), none⟩, ⟨55, (.op (.mv (.t 65))), none⟩] [39, 56, 57, 58, 59, 60, 61, 62, 63, 64, 65])
          (.cond (.t 55)
            (.seq (.reg none [⟨6, (.op (.mv (.k (.int .i64 4)))), none⟩] [0, 1, 2, 55])
            .ret)
            (.seq (.reg none [⟨67, (.op (.mv (.t 0))), none⟩, ⟨68, (.op (.bin .eql (.t 67) (.k (.int .i64 16)))), none⟩, ⟨69, (.op (.mv (.t 68))), none⟩, ⟨70, (.op (.mv (.t 1))), some (69, true)⟩, ⟨71, (.op (.bin .eql (.t 70) (.k (.int .i64 3)))), some (69, true)⟩, ⟨72, (.op (.pick (.t 69) (.t 71) (.k (.bool false)))), none⟩, ⟨73, (.op (.mv (.t 72))), none⟩, ⟨74, (.op (.mv (.t 2))), some (73, true)⟩, ⟨75, (.op (.bin .eql (.t 74) (.k (.int .i64 3)))), some (73, true)⟩, ⟨76, (.op (.pick (.t 73) (.t 75) (.k (.bool false)))), none⟩, ⟨66, (.op (.mv (.t 76))), none⟩] [0, 1, 2, 55, 67, 68, 69, 70, 71, 72, 73, 74, 75, 76])
            (.cond (.t 66)
              (.seq (.reg none [⟨6, (.op (.mv (.k (.int .i64 3)))), none⟩] [66])
              .ret)
              .skip)))))))))))
  (.seq (.reg none [⟨6, (.op (.mv (.k (.int .i64 0)))), none⟩] [66])
  .ret)))
theorem k_expr_arithmetic : fnOk Tryz.prog Tryz.f154 c_expr_arithmetic 77 3 [.t 6] = true := by kernel_rfl
theorem u_expr_arithmetic : Tryz.prog.funcs[n_expr_arithmetic]? = some Tryz.f154 := Tryz.func154
/-- guerdon/expr.ordered -/
def c_expr_ordered : FC :=
  (.seq (.reg none [⟨2, (.op (.mv (.k (.bool false)))), none⟩] [2])
  (.seq (.reg none [⟨3, (.op (.mv (.t 0))), none⟩, ⟨4, (.callL n_expr_numeric [.t 3]), none⟩, ⟨5, (.op (.mv (.t 4))), none⟩, ⟨6, (.op (.mv (.t 0))), some (5, false)⟩, ⟨7, (.op (.bin .eql (.t 6) (.k (.int .i64 5)))), some (5, false)⟩, ⟨8, (.op (.pick (.t 5) (.k (.bool true)) (.t 7))), none⟩, ⟨2, (.op (.mv (.t 8))), none⟩] [0, 3, 4, 5, 6, 7, 8])
  .ret))
theorem k_expr_ordered : fnOk Tryz.prog Tryz.f155 c_expr_ordered 9 1 [.t 2] = true := by kernel_rfl
theorem u_expr_ordered : Tryz.prog.funcs[n_expr_ordered]? = some Tryz.f155 := Tryz.func155
/-- guerdon/guerdonsame.Fields -/
def c_same_Fields : FC :=
  (.seq (.reg none [⟨4, (.op (.mv (.k (.bool false)))), none⟩] [4])
  (.seq (.seq (.reg none [⟨6, (.op (.mv (.t 0))), none⟩, ⟨7, (.op (.len (.t 6))), none⟩, ⟨8, (.op (.mv (.t 1))), none⟩, ⟨9, (.op (.len (.t 8))), none⟩, ⟨10, (.op (.bin .neq (.t 7) (.t 9))), none⟩] [6, 7, 8, 9])
  (.cond (.t 10)
    (.seq (.reg none [⟨4, (.op (.mv (.k (.bool false)))), none⟩] [0, 1, 10])
    .ret)
    .skip))
  (.seq (.seq (.reg none [⟨5, (.op (.mv (.k (.int .i64 0)))), none⟩] [10])
  (.block 0 (.loop (.seq (.seq (.reg none [⟨11, (.op (.mv (.t 5))), none⟩, ⟨12, (.op (.mv (.t 0))), none⟩, ⟨13, (.op (.len (.t 12))), none⟩, ⟨14, (.op (.bin .lss (.t 11) (.t 13))), none⟩, ⟨15, (.op (.mv (.t 14))), none⟩, ⟨16, (.op (.mv (.t 5))), some (15, true)⟩, ⟨17, (.op (.mv (.t 1))), some (15, true)⟩, ⟨18, (.op (.len (.t 17))), some (15, true)⟩, ⟨19, (.op (.bin .lss (.t 16) (.t 18))), some (15, true)⟩, ⟨20, (.op (.pick (.t 15) (.t 19) (.k (.bool false)))), none⟩] [11, 12, 13, 14, 15, 16, 17, 18, 19])
      (.cond (.t 20)
        .skip
        (.exit 0)))
      (.seq (.block 1 (.seq (.reg (some 9) [⟨23, (.op (.mv (.t 0))), none⟩, ⟨24, (.op (.mv (.t 5))), none⟩, ⟨25, (.op (.ia (.t 23) (.t 24) 3)), none⟩, ⟨26, (.op (.load (.t 25) 3 true)), none⟩, ⟨27, (.op (.mv (.t 1))), none⟩, ⟨28, (.op (.mv (.t 5))), none⟩, ⟨29, (.op (.ia (.t 27) (.t 28) 3)), none⟩, ⟨30, (.op (.load (.t 29) 3 true)), none⟩, ⟨31, (.op (.eqS true [2, 0, 0] (.t 26) (.t 30))), none⟩] [20, 23, 24, 25, 26, 27, 28, 29, 30])
        (.cond (.t 31)
          (.seq (.reg none [⟨4, (.op (.mv (.k (.bool false)))), none⟩] [0, 1, 5, 31])
          .ret)
          .skip)))
      (.reg none [⟨21, (.op (.mv (.t 5))), none⟩, ⟨22, (.op (.bin .add (.t 21) (.k (.int .i64 1)))), none⟩, ⟨5, (.op (.mv (.t 22))), none⟩] [21, 22, 31]))))))
  (.seq (.reg none [⟨4, (.op (.mv (.k (.bool true)))), none⟩] [0, 1, 5, 20])
  .ret))))
theorem k_same_Fields : fnOk Tryz.prog Tryz.f167 c_same_Fields 32 2 [.t 4] = true := by kernel_rfl
theorem u_same_Fields : Tryz.prog.funcs[n_same_Fields]? = some Tryz.f167 := Tryz.func167
/-- guerdon/guerdonsame.Rules -/
def c_same_Rules : FC :=
  (.seq (.reg none [⟨4, (.op (.mv (.k (.bool false)))), none⟩] [4])
  (.seq (.seq (.reg none [⟨6, (.op (.mv (.t 0))), none⟩, ⟨7, (.op (.len (.t 6))), none⟩, ⟨8, (.op (.mv (.t 1))), none⟩, ⟨9, (.op (.len (.t 8))), none⟩, ⟨10, (.op (.bin .neq (.t 7) (.t 9))), none⟩] [6, 7, 8, 9])
  (.cond (.t 10)
    (.seq (.reg none [⟨4, (.op (.mv (.k (.bool false)))), none⟩] [0, 1, 10])
    .ret)
    .skip))
  (.seq (.seq (.reg none [⟨5, (.op (.mv (.k (.int .i64 0)))), none⟩] [10])
  (.block 0 (.loop (.seq (.seq (.reg none [⟨11, (.op (.mv (.t 5))), none⟩, ⟨12, (.op (.mv (.t 0))), none⟩, ⟨13, (.op (.len (.t 12))), none⟩, ⟨14, (.op (.bin .lss (.t 11) (.t 13))), none⟩, ⟨15, (.op (.mv (.t 14))), none⟩, ⟨16, (.op (.mv (.t 5))), some (15, true)⟩, ⟨17, (.op (.mv (.t 1))), some (15, true)⟩, ⟨18, (.op (.len (.t 17))), some (15, true)⟩, ⟨19, (.op (.bin .lss (.t 16) (.t 18))), some (15, true)⟩, ⟨20, (.op (.pick (.t 15) (.t 19) (.k (.bool false)))), none⟩] [11, 12, 13, 14, 15, 16, 17, 18, 19])
      (.cond (.t 20)
        .skip
        (.exit 0)))
      (.seq (.block 1 (.seq (.reg (some 10) [⟨23, (.op (.mv (.t 0))), none⟩, ⟨24, (.op (.mv (.t 5))), none⟩, ⟨25, (.op (.ia (.t 23) (.t 24) 9)), none⟩, ⟨26, (.op (.load (.t 25) 9 true)), none⟩, ⟨27, (.op (.mv (.t 1))), none⟩, ⟨28, (.op (.mv (.t 5))), none⟩, ⟨29, (.op (.ia (.t 27) (.t 28) 9)), none⟩, ⟨30, (.op (.load (.t 29) 9 true)), none⟩, ⟨31, (.callL n_same_Rule [.t 26, .t 30]), none⟩, ⟨32, (.op (.un .not (.t 31))), none⟩] [20, 23, 24, 25, 26, 27, 28, 29, 30, 31])
        (.cond (.t 32)
          (.seq (.reg none [⟨4, (.op (.mv (.k (.bool false)))), none⟩] [0, 1, 5, 32])
          .ret)
          .skip)))
      (.reg none [⟨21, (.op (.mv (.t 5))), none⟩, ⟨22, (.op (.bin .add (.t 21) (.k (.int .i64 1)))), none⟩, ⟨5, (.op (.mv (.t 22))), none⟩] [21, 22, 32]))))))
  (.seq (.reg none [⟨4, (.op (.mv (.k (.bool true)))), none⟩] [0, 1, 5, 20])
  .ret))))
theorem k_same_Rules : fnOk Tryz.prog Tryz.f168 c_same_Rules 33 2 [.t 4] = true := by kernel_rfl
theorem u_same_Rules : Tryz.prog.funcs[n_same_Rules]? = some Tryz.f168 := Tryz.func168
/-- guerdon/daterange.proper -/
def c_daterange_proper : FC :=
  (.seq (.reg none [⟨1, (.op (.box (.t 0))), none⟩, ⟨2, (.op (.mv (.k (.bool false)))), none⟩] [0, 2])
  (.seq (.reg none [⟨3, (.op (.load (.t 1) 2 true)), none⟩, ⟨4, (.callL n_daterange_Valid [.t 3]), none⟩, ⟨5, (.op (.mv (.t 4))), none⟩, ⟨6, (.op (.fa (.t 1) 0)), some (5, true)⟩, ⟨7, (.op (.load (.t 6) 1 false)), some (5, true)⟩, ⟨8, (.op (.fa (.t 1) 1)), some (5, true)⟩, ⟨9, (.op (.load (.t 8) 1 false)), some (5, true)⟩, ⟨10, (.op (.bin .lss (.t 7) (.t 9))), some (5, true)⟩, ⟨11, (.op (.pick (.t 5) (.t 10) (.k (.bool false)))), none⟩, ⟨2, (.op (.mv (.t 11))), none⟩] [1, 3, 4, 5, 6, 7, 8, 9, 10, 11])
  .ret))
theorem k_daterange_proper : fnOk Tryz.prog Tryz.f170 c_daterange_proper 12 1 [.t 2] = true := by kernel_rfl
theorem u_daterange_proper : Tryz.prog.funcs[n_daterange_proper]? = some Tryz.f170 := Tryz.func170
/-- guerdon/guerdonref09.Bounds -/
def c_ref09_Bounds : FC :=
  (.seq (.reg none [⟨2, (.op (.box (.t 0))), none⟩, ⟨4, (.op (.mv (.k (.int .i64 0)))), none⟩, ⟨5, (.op (.mv (.k (.int .i64 0)))), none⟩] [0, 4, 5])
  (.seq (.seq (.reg none [⟨6, (.op (.load (.t 2) 2 true)), none⟩, ⟨7, (.op (.mv (.t 1))), none⟩, ⟨8, (.callL n_ref09_ValidType [.t 6, .t 7]), none⟩, ⟨9, (.op (.un .not (.t 8))), none⟩] [6, 7, 8])
  (.cond (.t 9)
    (.seq (.reg none [⟨4, (.op (.mv (.k (.int .i64 0)))), none⟩, ⟨5, (.op (.mv (.k (.int .i64 (-1))))), none⟩] [1, 2, 9])
    .ret)
    .skip))
  (.seq (.seq (.reg none [⟨10, (.op (.fa (.t 2) 0)), none⟩, ⟨11, (.op (.load (.t 10) 1 false)), none⟩] [9, 10])
  (.block 0 (.seq (.reg none [⟨13, (.op (.bin .eql (.t 11) (.k (.int .i64 1)))), none⟩, ⟨12, (.op (.mv (.t 13))), none⟩] [13])
    (.cond (.t 12)
      (.seq (.reg none [⟨4, (.op (.mv (.k (.int .i64 0)))), none⟩, ⟨5, (.op (.mv (.k (.int .i64 1)))), none⟩] [1, 2, 11, 12])
      .ret)
      (.seq (.reg none [⟨15, (.op (.bin .eql (.t 11) (.k (.int .i64 2)))), none⟩, ⟨14, (.op (.mv (.t 15))), none⟩] [12, 15])
      (.cond (.t 14)
        (.seq (.reg none [⟨4, (.op (.mv (.k (.int .i64 (-1000000000000))))), none⟩, ⟨5, (.op (.mv (.k (.int .i64 1000000000000)))), none⟩] [1, 2, 11, 14])
        .ret)
        (.seq (.reg none [⟨17, (.op (.bin .eql (.t 11) (.k (.int .i64 3)))), none⟩, ⟨16, (.op (.mv (.t 17))), none⟩] [14, 17])
        (.cond (.t 16)
          (.seq (.reg none [⟨4, (.op (.mv (.k (.int .i64 (-1000000000000000))))), none⟩, ⟨5, (.op (.mv (.k (.int .i64 1000000000000000)))), none⟩] [1, 2, 11, 16])
          .ret)
          (.seq (.reg none [⟨19, (.op (.bin .eql (.t 11) (.k (.int .i64 4)))), none⟩, ⟨18, (.op (.mv (.t 19))), none⟩] [16, 19])
          (.cond (.t 18)
            (.seq (.reg none [⟨4, (.op (.mv (.k (.int .i64 (-1000000000))))), none⟩, ⟨5, (.op (.mv (.k (.int .i64 1000000000)))), none⟩] [1, 2, 11, 18])
            .ret)
            (.seq (.reg none [⟨21, (.op (.bin .eql (.t 11) (.k (.int .i64 5)))), none⟩, ⟨20, (.op (.mv (.t 21))), none⟩] [11, 18, 21])
            (.cond (.t 20)
              (.seq (.reg none [⟨4, (.op (.mv (.k (.int .i64 0)))), none⟩, ⟨5, (.op (.mv (.k (.int .i64 109572)))), none⟩] [1, 2, 20])
              .ret)
              .skip))))))))))))
  (.seq (.reg (some 10) [⟨22, (.op (.mv (.t 1))), none⟩, ⟨23, (.op (.fa (.t 2) 1)), none⟩, ⟨24, (.op (.load (.t 23) 1 false)), none⟩, ⟨25, (.op (.ia (.t 22) (.t 24) 2)), none⟩, ⟨26, (.op (.fa (.t 25) 1)), none⟩, ⟨27, (.op (.load (.t 26) 1 false)), none⟩, ⟨28, (.op (.len (.t 27))), none⟩, ⟨29, (.op (.bin .sub (.t 28) (.k (.int .i64 1)))), none⟩, ⟨4, (.op (.mv (.k (.int .i64 0)))), none⟩, ⟨5, (.op (.mv (.t 29))), none⟩] [1, 2, 20, 22, 23, 24, 25, 26, 27, 28, 29])
  .ret))))
theorem k_ref09_Bounds : fnOk Tryz.prog Tryz.f171 c_ref09_Bounds 30 2 [.t 4, .t 5] = true := by kernel_rfl
theorem u_ref09_Bounds : Tryz.prog.funcs[n_ref09_Bounds]? = some Tryz.f171 := Tryz.func171
/-- guerdon/guerdonref10.structure -/
def c_ref10_structure : FC :=
  (.seq (.reg none [⟨2, (.op (.mv (.k (.arr [])))), none⟩, ⟨3, (.op (.mv (.k (.int .i64 0)))), none⟩, ⟨4, (.op (.mv (.k (.int .i64 0)))), none⟩] [2, 3, 4])
  (.seq (.seq (.reg none [⟨10, (.op (.mv (.t 0))), none⟩, ⟨11, (.op (.len (.t 10))), none⟩, ⟨12, (.op (.bin .gtr (.t 11) (.k (.int .i64 48)))), none⟩] [10, 11])
  (.cond (.t 12)
    (.seq (.reg none [⟨2, (.op (.mv (.k (.arr [])))), none⟩, ⟨3, (.op (.mv (.k (.int .i64 0)))), none⟩, ⟨4, (.op (.mv (.k (.int .i64 4)))), none⟩] [0, 12])
    .ret)
    .skip))
  (.seq (.seq (.reg none [⟨13, (.op (.mv (.t 0))), none⟩, ⟨14, (.op (.len (.t 13))), none⟩, ⟨15, (.op (.bin .eql (.t 14) (.k (.int .i64 0)))), none⟩] [12, 13, 14])
  (.cond (.t 15)
    (.seq (.reg none [⟨2, (.op (.mv (.k (.arr [])))), none⟩, ⟨3, (.op (.mv (.k (.int .i64 0)))), none⟩, ⟨4, (.op (.mv (.k (.int .i64 5)))), none⟩] [0, 15])
    .ret)
    .skip))
  (.seq (.reg none [⟨5, (.op (.mv (.k (.arr [])))), none⟩, ⟨6, (.op (.mv (.k (.arr [])))), none⟩] [15])
  (.seq (.seq (.reg none [⟨7, (.op (.mv (.k (.int .i64 0)))), none⟩] [])
  (.block 0 (.loop (.seq (.seq (.reg none [⟨16, (.op (.mv (.t 7))), none⟩, ⟨17, (.op (.mv (.t 0))), none⟩, ⟨18, (.op (.len (.t 17))), none⟩, ⟨19, (.op (.bin .lss (.t 16) (.t 18))), none⟩] [16, 17, 18])
      (.cond (.t 19)
        .skip
        (.exit 0)))
      (.seq (.block 1 (.seq (.reg none [⟨22, (.op (.mv (.t 0))), none⟩, ⟨23, (.op (.mv (.t 7))), none⟩, ⟨24, (.op (.ia (.t 22) (.t 23) 2)), none⟩, ⟨25, (.op (.fa (.t 24) 0)), none⟩, ⟨26, (.op (.load (.t 25) 1 false)), none⟩, ⟨27, (.callL n_ref10_Arity [.t 26]), none⟩, ⟨8, (.op (.mvP true (.t 27))), none⟩] [19, 22, 23, 24, 25, 26, 27])
        (.seq (.seq (.reg none [⟨28, (.op (.mv (.t 8))), none⟩, ⟨29, (.op (.bin .lss (.t 28) (.k (.int .i64 0)))), none⟩] [28])
        (.cond (.t 29)
          (.seq (.reg none [⟨30, (.op (.mv (.t 7))), none⟩, ⟨2, (.op (.mv (.k (.arr [])))), none⟩, ⟨3, (.op (.mv (.t 30))), none⟩, ⟨4, (.op (.mv (.k (.int .i64 2)))), none⟩] [0, 6, 7, 8, 29, 30])
          .ret)
          .skip))
        (.seq (.seq (.reg none [⟨31, (.op (.mv (.t 8))), none⟩, ⟨32, (.op (.mv (.t 6))), none⟩, ⟨33, (.op (.len (.t 32))), none⟩, ⟨34, (.op (.bin .gtr (.t 31) (.t 33))), none⟩] [29, 31, 32, 33])
        (.cond (.t 34)
          (.seq (.reg none [⟨35, (.op (.mv (.t 7))), none⟩, ⟨2, (.op (.mv (.k (.arr [])))), none⟩, ⟨3, (.op (.mv (.t 35))), none⟩, ⟨4, (.op (.mv (.k (.int .i64 5)))), none⟩] [0, 6, 7, 8, 34, 35])
          .ret)
          .skip))
        (.seq (.reg none [⟨36, (.op (.mv (.t 7))), none⟩, ⟨9, (.op (.mv (.t 36))), none⟩] [34, 36])
        (.seq (.seq (.reg none [⟨37, (.op (.mv (.t 8))), none⟩, ⟨38, (.op (.bin .gtr (.t 37) (.k (.int .i64 0)))), none⟩] [37])
        (.cond (.t 38)
          (.seq (.reg none [⟨39, (.op (.mv (.t 6))), none⟩, ⟨40, (.op (.mv (.t 6))), none⟩, ⟨41, (.op (.len (.t 40))), none⟩, ⟨42, (.op (.mv (.t 8))), none⟩, ⟨43, (.op (.bin .sub (.t 41) (.t 42))), none⟩, ⟨44, (.op (.ia (.t 39) (.t 43) 1)), none⟩, ⟨45, (.op (.load (.t 44) 1 false)), none⟩, ⟨9, (.op (.mv (.t 45))), none⟩] [38, 39, 40, 41, 42, 43, 44, 45])
          (.reg none [⟨46, (.op (.mv (.t 6))), none⟩, ⟨47, (.op (.mv (.t 6))), none⟩, ⟨48, (.op (.len (.t 47))), none⟩, ⟨49, (.op (.mv (.t 8))), none⟩, ⟨50, (.op (.bin .sub (.t 48) (.t 49))), none⟩, ⟨51, (.op (.subSl (.t 46) none (some (.t 50)) 1)), none⟩, ⟨6, (.op (.mvP true (.t 51))), none⟩] [8, 46, 47, 48, 49, 50, 51]))
          .skip))
        (.seq (.reg none [⟨52, (.op (.mv (.t 6))), none⟩, ⟨53, (.op (.mv (.t 9))), none⟩, ⟨54, (.op (.buildSl [(.int .i64 0)] 1 [0] [.t 53])), none⟩, ⟨55, (.op (.app (.t 52) (.t 54) 1 8)), none⟩, ⟨6, (.op (.mvP true (.t 55))), none⟩] [8, 38, 52, 53, 54, 55])
        (.seq (.reg none [⟨56, (.op (.mv (.t 5))), none⟩, ⟨57, (.op (.mv (.t 9))), none⟩, ⟨58, (.op (.buildSl [(.int .i64 0)] 1 [0] [.t 57])), none⟩, ⟨59, (.op (.app (.t 56) (.t 58) 1 8)), none⟩, ⟨5, (.op (.mvP true (.t 59))), none⟩] [9, 56, 57, 58, 59])
        (.seq (.reg none [⟨60, (.op (.mv (.t 6))), none⟩, ⟨61, (.op (.len (.t 60))), none⟩, ⟨62, (.op (.bin .gtr (.t 61) (.k (.int .i64 12)))), none⟩] [60, 61])
        (.cond (.t 62)
          (.seq (.reg none [⟨63, (.op (.mv (.t 7))), none⟩, ⟨2, (.op (.mv (.k (.arr [])))), none⟩, ⟨3, (.op (.mv (.t 63))), none⟩, ⟨4, (.op (.mv (.k (.int .i64 16)))), none⟩] [0, 6, 7, 62, 63])
          .ret)
          .skip))))))))))
      (.reg none [⟨20, (.op (.mv (.t 7))), none⟩, ⟨21, (.op (.bin .add (.t 20) (.k (.int .i64 1)))), none⟩, ⟨7, (.op (.mv (.t 21))), none⟩] [20, 21, 62]))))))
  (.seq (.seq (.reg none [⟨64, (.op (.mv (.t 6))), none⟩, ⟨65, (.op (.len (.t 64))), none⟩, ⟨66, (.op (.bin .gtr (.t 65) (.k (.int .i64 1)))), none⟩] [6, 7, 19, 64, 65])
  (.cond (.t 66)
    (.seq (.reg none [⟨67, (.op (.mv (.t 0))), none⟩, ⟨68, (.op (.len (.t 67))), none⟩, ⟨2, (.op (.mv (.k (.arr [])))), none⟩, ⟨3, (.op (.mvP true (.t 68))), none⟩, ⟨4, (.op (.mv (.k (.int .i64 4)))), none⟩] [0, 66, 67, 68])
    .ret)
    .skip))
  (.seq (.reg none [⟨69, (.op (.mv (.t 5))), none⟩, ⟨2, (.op (.mv (.t 69))), none⟩, ⟨3, (.op (.mv (.k (.int .i64 0)))), none⟩, ⟨4, (.op (.mv (.k (.int .i64 0)))), none⟩] [0, 66])
  .ret)))))))
theorem k_ref10_structure : fnOk Tryz.prog Tryz.f172 c_ref10_structure 70 1 [.t 2, .t 3, .t 4] = true := by kernel_rfl
theorem u_ref10_structure : Tryz.prog.funcs[n_ref10_structure]? = some Tryz.f172 := Tryz.func172
/-- guerdon/guerdonref10.Arity -/
def c_ref10_Arity : FC :=
  (.seq (.reg none [⟨2, (.op (.mv (.k (.int .i64 0)))), none⟩] [2])
  (.seq (.seq (.reg none [⟨3, (.op (.mv (.t 0))), none⟩, ⟨4, (.op (.bin .geq (.t 3) (.k (.int .i64 1)))), none⟩, ⟨5, (.op (.mv (.t 4))), none⟩, ⟨6, (.op (.mv (.t 0))), some (5, true)⟩, ⟨7, (.op (.bin .leq (.t 6) (.k (.int .i64 9)))), some (5, true)⟩, ⟨8, (.op (.pick (.t 5) (.t 7) (.k (.bool false)))), none⟩, ⟨9, (.op (.mv (.t 8))), none⟩, ⟨10, (.op (.mv (.t 0))), some (9, false)⟩, ⟨11, (.op (.bin .geq (.t 10) (.k (.int .i64 35)))), some (9, false)⟩, ⟨12, (.op (.mv (.t 11))), some (9, false)⟩, ⟨13, (.op (.mv (.t 0))), some (12, true)⟩, ⟨14, (.op (.bin .leq (.t 13) (.k (.int .i64 39)))), some (12, true)⟩, ⟨15, (.op (.pick (.t 12) (.t 14) (.k (.bool false)))), some (9, false)⟩, ⟨16, (.op (.pick (.t 9) (.k (.bool true)) (.t 15))), none⟩] [3, 4, 5, 6, 7, 8, 9, 10, 11, 12, 13, 14, 15])
  (.cond (.t 16)
    (.seq (.reg none [⟨2, (.op (.mv (.k (.int .i64 0)))), none⟩] [0, 16])
    .ret)
    .skip))
  (.seq (.seq (.reg none [⟨17, (.op (.mv (.t 0))), none⟩] [16])
  (.block 0 (.seq (.seq (.reg none [⟨19, (.op (.bin .eql (.t 17) (.k (.int .i64 10)))), none⟩, ⟨18, (.op (.mv (.t 19))), none⟩] [19])
    (.cond (.t 18)
      .skip
      (.seq (.reg none [⟨20, (.op (.bin .eql (.t 17) (.k (.int .i64 25)))), none⟩, ⟨18, (.op (.mv (.t 20))), none⟩] [20])
      (.cond (.t 18)
        .skip
        (.seq (.reg none [⟨21, (.op (.bin .eql (.t 17) (.k (.int .i64 31)))), none⟩, ⟨18, (.op (.mv (.t 21))), none⟩] [21])
        (.cond (.t 18)
          .skip
          (.seq (.reg none [⟨22, (.op (.bin .eql (.t 17) (.k (.int .i64 32)))), none⟩, ⟨18, (.op (.mv (.t 22))), none⟩] [22])
          (.cond (.t 18)
            .skip
            (.seq (.reg none [⟨23, (.op (.bin .eql (.t 17) (.k (.int .i64 33)))), none⟩, ⟨18, (.op (.mv (.t 23))), none⟩] [23])
            (.cond (.t 18)
              .skip
              (.reg none [⟨24, (.op (.bin .eql (.t 17) (.k (.int .i64 34)))), none⟩, ⟨18, (.op (.mv (.t 24))), none⟩] [24])))))))))))
    (.cond (.t 18)
      (.seq (.reg none [⟨2, (.op (.mv (.k (.int .i64 1)))), none⟩] [0, 17, 18])
      .ret)
      (.seq (.reg none [⟨26, (.op (.bin .eql (.t 17) (.k (.int .i64 26)))), none⟩, ⟨25, (.op (.mv (.t 26))), none⟩] [17, 18, 26])
      (.cond (.t 25)
        (.seq (.reg none [⟨2, (.op (.mv (.k (.int .i64 3)))), none⟩] [0, 25])
        .ret)
        .skip))))))
  (.seq (.seq (.reg none [⟨27, (.op (.mv (.t 0))), none⟩, ⟨28, (.op (.bin .geq (.t 27) (.k (.int .i64 11)))), none⟩, ⟨29, (.op (.mv (.t 28))), none⟩, ⟨30, (.op (.mv (.t 0))), some (29, true)⟩, ⟨31, (.op (.bin .leq (.t 30) (.k (.int .i64 30)))), some (29, true)⟩, ⟨32, (.op (.pick (.t 29) (.t 31) (.k (.bool false)))), none⟩] [0, 25, 27, 28, 29, 30, 31])
  (.cond (.t 32)
    (.seq (.reg none [⟨2, (.op (.mv (.k (.int .i64 2)))), none⟩] [32])
    .ret)
    .skip))
  (.seq (.reg none [⟨2, (.op (.mv (.k (.int .i64 (-1))))), none⟩] [32])
  .ret)))))
theorem k_ref10_Arity : fnOk Tryz.prog Tryz.f173 c_ref10_Arity 33 1 [.t 2] = true := by kernel_rfl
theorem u_ref10_Arity : Tryz.prog.funcs[n_ref10_Arity]? = some Tryz.f173 := Tryz.func173
/-- guerdon/guerdonref10.Result -/
def c_ref10_Result : FC :=
  (.seq (.reg none [⟨3, (.op (.box (.t 0))), none⟩, ⟨5, (.op (.box (.t 2))), none⟩, ⟨6, (.op (.alloc [(.int .i64 0), (.int .i64 0)])), none⟩, ⟨7, (.op (.mv (.k (.int .i64 0)))), none⟩] [0, 2, 7])
  (.seq (.seq (.reg none [⟨10, (.op (.fa (.t 3) 1)), none⟩, ⟨11, (.op (.load (.t 10) 1 false)), none⟩, ⟨12, (.op (.bin .neq (.t 11) (.k (.int .i64 0)))), none⟩, ⟨13, (.op (.mv (.t 12))), none⟩, ⟨14, (.op (.fa (.t 3) 0)), some (13, true)⟩, ⟨15, (.op (.load (.t 14) 1 false)), some (13, true)⟩, ⟨16, (.callL n_ref10_meaning [.t 15]), some (13, true)⟩, ⟨17, (.op (.un .not (.t 16))), some (13, true)⟩, ⟨18, (.op (.pick (.t 13) (.t 17) (.k (.bool false)))), none⟩] [10, 11, 12, 13, 14, 15, 16, 17])
  (.cond (.t 18)
    (.seq (.reg none [⟨19, (.op (.build [(.int .i64 0), (.int .i64 0)] [] [])), none⟩, ⟨0, (.op (.store (.t 6) (.t 19) 2 true)), none⟩, ⟨7, (.op (.mv (.k (.int .i64 2)))), none⟩] [1, 3, 5, 18, 19])
    .ret)
    .skip))
  (.seq (.seq (.reg none [⟨20, (.op (.load (.t 3) 2 true)), none⟩, ⟨21, (.op (.load (.t 5) 6 true)), none⟩, ⟨22, (.callL n_ref10_ranged [.t 20, .t 21]), none⟩, ⟨23, (.op (.un .not (.t 22))), none⟩] [18, 20, 21, 22])
  (.cond (.t 23)
    (.seq (.reg none [⟨24, (.op (.build [(.int .i64 0), (.int .i64 0)] [] [])), none⟩, ⟨0, (.op (.store (.t 6) (.t 24) 2 true)), none⟩, ⟨7, (.op (.mv (.k (.int .i64 3)))), none⟩] [1, 3, 5, 23, 24])
    .ret)
    .skip))
  (.seq (.seq (.reg none [⟨25, (.op (.load (.t 3) 2 true)), none⟩, ⟨26, (.op (.load (.t 5) 6 true)), none⟩, ⟨27, (.callL n_ref10_found [.t 25, .t 26]), none⟩, ⟨28, (.op (.un .not (.t 27))), none⟩] [23, 25, 26, 27])
  (.cond (.t 28)
    (.seq (.reg none [⟨29, (.op (.build [(.int .i64 0), (.int .i64 0)] [] [])), none⟩, ⟨0, (.op (.store (.t 6) (.t 29) 2 true)), none⟩, ⟨7, (.op (.mv (.k (.int .i64 6)))), none⟩] [1, 3, 5, 28, 29])
    .ret)
    .skip))
  (.seq (.reg none [⟨30, (.op (.build [(.int .i64 0), (.int .i64 0)] [] [])), none⟩, ⟨8, (.op (.alloc [(.int .i64 0), (.int .i64 0)])), none⟩, ⟨0, (.op (.store (.t 8) (.t 30) 2 true)), none⟩] [28, 30])
  (.seq (.reg none [⟨9, (.op (.mv (.k (.bool false)))), none⟩] [9])
  (.seq (.seq (.reg none [⟨31, (.op (.mv (.t 1))), none⟩, ⟨32, (.op (.len (.t 31))), none⟩] [31])
  (.block 0 (.seq (.reg none [⟨51, (.op (.bin .eql (.t 32) (.k (.int .i64 0)))), none⟩, ⟨50, (.op (.mv (.t 51))), none⟩] [51])
    (.cond (.t 50)
      (.reg none [⟨53, (.op (.load (.t 3) 2 true)), none⟩, ⟨54, (.op (.loadM true (.t 5) 6 true)), none⟩, ⟨55, (.callL n_ref10_leaf [.t 53, .t 54]), none⟩, ⟨52, (.op (.mvP true (.t 55))), none⟩, ⟨56, (.op (.extract 52 0)), none⟩, ⟨57, (.op (.extract 52 1)), none⟩, ⟨0, (.op (.store (.t 8) (.t 56) 2 true)), none⟩, ⟨9, (.op (.mvP true (.t 57))), none⟩] [1, 3, 5, 32, 50, 52, 53, 54, 55, 56, 57])
      (.seq (.reg none [⟨59, (.op (.bin .eql (.t 32) (.k (.int .i64 1)))), none⟩, ⟨58, (.op (.mv (.t 59))), none⟩] [50, 59])
      (.cond (.t 58)
        (.reg (some 11) [⟨61, (.op (.load (.t 3) 2 true)), none⟩, ⟨62, (.op (.mv (.t 1))), none⟩, ⟨63, (.op (.ia (.t 62) (.k (.int .i64 0)) 2)), none⟩, ⟨64, (.op (.load (.t 63) 2 true)), none⟩, ⟨65, (.op (.load (.t 5) 6 true)), none⟩, ⟨66, (.callL n_ref10_single [.t 61, .t 64, .t 65]), none⟩, ⟨60, (.op (.mvP true (.t 66))), none⟩, ⟨67, (.op (.extractL 60 0)), none⟩, ⟨68, (.op (.extractL 60 1)), none⟩, ⟨8, (.storeW (.t 67) 2), none⟩, ⟨9, (.op (.mv (.t 68))), none⟩] [1, 3, 5, 32, 58, 60, 61, 62, 63, 64, 65, 66, 67, 68])
        (.seq (.reg none [⟨70, (.op (.bin .eql (.t 32) (.k (.int .i64 2)))), none⟩, ⟨69, (.op (.mv (.t 70))), none⟩] [5, 32, 58, 70])
        (.cond (.t 69)
          (.reg (some 14) [⟨72, (.op (.fa (.t 3) 0)), none⟩, ⟨73, (.op (.load (.t 72) 1 false)), none⟩, ⟨74, (.op (.mv (.t 1))), none⟩, ⟨75, (.op (.ia (.t 74) (.k (.int .i64 0)) 2)), none⟩, ⟨76, (.op (.load (.t 75) 2 true)), none⟩, ⟨77, (.op (.mv (.t 1))), none⟩, ⟨78, (.op (.ia (.t 77) (.k (.int .i64 1)) 2)), none⟩, ⟨79, (.op (.load (.t 78) 2 true)), none⟩, ⟨80, (.callL n_ref10_double [.t 73, .t 76, .t 79]), none⟩, ⟨71, (.op (.mvP true (.t 80))), none⟩, ⟨81, (.op (.extractL 71 0)), none⟩, ⟨82, (.op (.extractL 71 1)), none⟩, ⟨8, (.storeW (.t 81) 2), none⟩, ⟨9, (.op (.mv (.t 82))), none⟩] [1, 3, 69, 71, 72, 73, 74, 75, 76, 77, 78, 79, 80, 81, 82])
          (.seq (.reg none [⟨33, (.op (.mv (.t 1))), none⟩, ⟨34, (.op (.ia (.t 33) (.k (.int .i64 1)) 2)), none⟩, ⟨35, (.op (.load (.t 34) 2 true)), none⟩, ⟨0, (.op (.store (.t 8) (.t 35) 2 true)), none⟩] [3, 33, 34, 35, 69])
          (.reg (some 15) [⟨36, (.op (.mv (.t 1))), none⟩, ⟨37, (.op (.ia (.t 36) (.k (.int .i64 0)) 2)), none⟩, ⟨38, (.op (.fa (.t 37) 0)), none⟩, ⟨39, (.op (.load (.t 38) 1 false)), none⟩, ⟨40, (.op (.bin .eql (.t 39) (.k (.int .i64 1)))), none⟩, ⟨41, (.op (.mv (.t 40))), none⟩, ⟨42, (.op (.mv (.t 1))), some (41, true)⟩, ⟨43, (.op (.ia (.t 42) (.k (.int .i64 1)) 2)), some (41, true)⟩, ⟨44, (.op (.load (.t 43) 2 true)), some (41, true)⟩, ⟨45, (.op (.mv (.t 1))), some (41, true)⟩, ⟨46, (.op (.ia (.t 45) (.k (.int .i64 2)) 2)), some (41, true)⟩, ⟨47, (.op (.load (.t 46) 2 true)), some (41, true)⟩, ⟨48, (.op (.eqS false [0, 0] (.t 44) (.t 47))), some (41, true)⟩, ⟨49, (.op (.pick (.t 41) (.t 48) (.k (.bool false)))), none⟩, ⟨9, (.op (.mv (.t 49))), none⟩] [1, 36, 37, 38, 39, 40, 41, 42, 43, 44, 45, 46, 47, 48, 49]))))))))))
  (.seq (.seq (.reg none [⟨83, (.op (.mv (.t 9))), none⟩, ⟨84, (.op (.un .not (.t 83))), none⟩] [9, 83])
  (.cond (.t 84)
    (.seq (.reg none [⟨85, (.op (.build [(.int .i64 0), (.int .i64 0)] [] [])), none⟩, ⟨0, (.op (.store (.t 6) (.t 85) 2 true)), none⟩, ⟨7, (.op (.mv (.k (.int .i64 8)))), none⟩] [8, 84, 85])
    .ret)
    .skip))
  (.seq (.reg none [⟨86, (.op (.load (.t 8) 2 true)), none⟩, ⟨0, (.op (.store (.t 6) (.t 86) 2 true)), none⟩, ⟨7, (.op (.mv (.k (.int .i64 0)))), none⟩] [8, 84, 86])
  .ret)))))))))
theorem k_ref10_Result : fnOk Tryz.prog Tryz.f174 c_ref10_Result 87 3 [.c 6 2 true, .t 7] = true := by kernel_rfl
theorem u_ref10_Result : Tryz.prog.funcs[n_ref10_Result]? = some Tryz.f174 := Tryz.func174
/-- guerdon/guerdonref10.insert -/
def c_ref10_insert : FC :=
  (.seq (.reg none [⟨4, (.op (.mv (.k (.arr [])))), none⟩] [4])
  (.seq (.reg none [⟨5, (.op (.mv (.k (.arr [])))), none⟩] [])
  (.seq (.reg none [⟨6, (.op (.mv (.k (.bool false)))), none⟩] [])
  (.seq (.seq (.reg none [⟨7, (.op (.mv (.k (.int .i64 0)))), none⟩] [])
  (.block 0 (.loop (.seq (.seq (.reg none [⟨8, (.op (.mv (.t 7))), none⟩, ⟨9, (.op (.mv (.t 0))), none⟩, ⟨10, (.op (.len (.t 9))), none⟩, ⟨11, (.op (.bin .lss (.t 8) (.t 10))), none⟩] [8, 9, 10])
      (.cond (.t 11)
        .skip
        (.exit 0)))
      (.seq (.block 1 (.seq (.seq (.reg none [⟨14, (.op (.mv (.t 6))), none⟩, ⟨15, (.op (.un .not (.t 14))), none⟩, ⟨16, (.op (.mv (.t 15))), none⟩, ⟨17, (.op (.mv (.t 0))), some (16, true)⟩, ⟨18, (.op (.mv (.t 7))), some (16, true)⟩, ⟨19, (.op (.ia (.t 17) (.t 18) 1)), some (16, true)⟩, ⟨20, (.op (.load (.t 19) 1 false)), some (16, true)⟩, ⟨21, (.op (.mv (.t 1))), some (16, true)⟩, ⟨22, (.op (.bin .geq (.t 20) (.t 21))), some (16, true)⟩, ⟨23, (.op (.pick (.t 16) (.t 22) (.k (.bool false)))), none⟩] [11, 14, 15, 16, 17, 18, 19, 20, 21, 22])
        (.cond (.t 23)
          (.seq (.seq (.reg none [⟨24, (.op (.mv (.t 0))), none⟩, ⟨25, (.op (.mv (.t 7))), none⟩, ⟨26, (.op (.ia (.t 24) (.t 25) 1)), none⟩, ⟨27, (.op (.load (.t 26) 1 false)), none⟩, ⟨28, (.op (.mv (.t 1))), none⟩, ⟨29, (.op (.bin .gtr (.t 27) (.t 28))), none⟩] [6, 23, 24, 25, 26, 27, 28])
          (.cond (.t 29)
            (.reg none [⟨30, (.op (.mv (.t 5))), none⟩, ⟨31, (.op (.mv (.t 1))), none⟩, ⟨32, (.op (.buildSl [(.int .i64 0)] 1 [0] [.t 31])), none⟩, ⟨33, (.op (.app (.t 30) (.t 32) 1 8)), none⟩, ⟨5, (.op (.mvP true (.t 33))), none⟩] [29, 30, 31, 32, 33])
            .skip))
          (.reg none [⟨6, (.op (.mv (.k (.bool true)))), none⟩] [29]))
          .skip))
        (.reg none [⟨34, (.op (.mv (.t 5))), none⟩, ⟨35, (.op (.mv (.t 0))), none⟩, ⟨36, (.op (.mv (.t 7))), none⟩, ⟨37, (.op (.ia (.t 35) (.t 36) 1)), none⟩, ⟨38, (.op (.load (.t 37) 1 false)), none⟩, ⟨39, (.op (.buildSl [(.int .i64 0)] 1 [0] [.t 38])), none⟩, ⟨40, (.op (.app (.t 34) (.t 39) 1 8)), none⟩, ⟨5, (.op (.mvP true (.t 40))), none⟩] [23, 34, 35, 36, 37, 38, 39, 40])))
      (.reg none [⟨12, (.op (.mv (.t 7))), none⟩, ⟨13, (.op (.bin .add (.t 12) (.k (.int .i64 1)))), none⟩, ⟨7, (.op (.mv (.t 13))), none⟩] [12, 13]))))))
  (.seq (.seq (.reg none [⟨41, (.op (.mv (.t 6))), none⟩, ⟨42, (.op (.un .not (.t 41))), none⟩] [0, 6, 7, 11, 41])
  (.cond (.t 42)
    (.reg none [⟨43, (.op (.mv (.t 5))), none⟩, ⟨44, (.op (.mv (.t 1))), none⟩, ⟨45, (.op (.buildSl [(.int .i64 0)] 1 [0] [.t 44])), none⟩, ⟨46, (.op (.app (.t 43) (.t 45) 1 8)), none⟩, ⟨5, (.op (.mvP true (.t 46))), none⟩] [1, 42, 43, 44, 45, 46])
    .skip))
  (.seq (.reg none [⟨47, (.op (.mv (.t 5))), none⟩, ⟨4, (.op (.mv (.t 47))), none⟩] [1, 42])
  .ret))))))
theorem k_ref10_insert : fnOk Tryz.prog Tryz.f175 c_ref10_insert 48 2 [.t 4] = true := by kernel_rfl
theorem u_ref10_insert : Tryz.prog.funcs[n_ref10_insert]? = some Tryz.f175 := Tryz.func175
/-- guerdon/expr.literal -/
def c_expr_literal : FC :=
  (.seq (.reg none [⟨2, (.op (.mv (.k (.int .i64 0)))), none⟩] [2])
  (.seq (.seq (.reg none [⟨3, (.op (.mv (.t 0))), none⟩, ⟨4, (.op (.bin .geq (.t 3) (.k (.int .i64 1)))), none⟩, ⟨5, (.op (.mv (.t 4))), none⟩, ⟨6, (.op (.mv (.t 0))), some (5, true)⟩, ⟨7, (.op (.bin .leq (.t 6) (.k (.int .i64 6)))), some (5, true)⟩, ⟨8, (.op (.pick (.t 5) (.t 7) (.k (.bool false)))), none⟩] [3, 4, 5, 6, 7])
  (.cond (.t 8)
    (.seq (.reg none [⟨9, (.op (.mv (.t 0))), none⟩, ⟨2, (.op (.mv (.t 9))), none⟩] [0, 8, 9])
    .ret)
    .skip))
  (.seq (.reg none [⟨2, (.op (.mv (.k (.int .i64 0)))), none⟩] [0, 8])
  .ret)))
theorem k_expr_literal : fnOk Tryz.prog Tryz.f176 c_expr_literal 10 1 [.t 2] = true := by kernel_rfl
theorem u_expr_literal : Tryz.prog.funcs[n_expr_literal]? = some Tryz.f176 := Tryz.func176
/-- guerdon/guerdonsame.Rule -/
def c_same_Rule : FC :=
  (.seq (.reg none [⟨2, (.op (.box (.t 0))), none⟩, ⟨3, (.op (.box (.t 1))), none⟩, ⟨4, (.op (.mv (.k (.bool false)))), none⟩] [0, 1, 4])
  (.seq (.reg none [⟨5, (.op (.fa (.t 2) 0)), none⟩, ⟨6, (.op (.load (.t 5) 1 false)), none⟩, ⟨7, (.op (.fa (.t 3) 0)), none⟩, ⟨8, (.op (.load (.t 7) 1 false)), none⟩, ⟨9, (.op (.bin .eql (.t 6) (.t 8))), none⟩, ⟨10, (.op (.mv (.t 9))), none⟩, ⟨11, (.op (.fa (.t 2) 1)), some (10, true)⟩, ⟨12, (.op (.load (.t 11) 1 false)), some (10, true)⟩, ⟨13, (.op (.fa (.t 3) 1)), some (10, true)⟩, ⟨14, (.op (.load (.t 13) 1 false)), some (10, true)⟩, ⟨15, (.op (.bin .eql (.t 12) (.t 14))), some (10, true)⟩, ⟨16, (.op (.pick (.t 10) (.t 15) (.k (.bool false)))), none⟩, ⟨17, (.op (.mv (.t 16))), none⟩, ⟨18, (.op (.fa (.t 2) 2)), some (17, true)⟩, ⟨19, (.op (.load (.t 18) 1 false)), some (17, true)⟩, ⟨20, (.op (.fa (.t 3) 2)), some (17, true)⟩, ⟨21, (.op (.load (.t 20) 1 false)), some (17, true)⟩, ⟨22, (.op (.bin .eql (.t 19) (.t 21))), some (17, true)⟩, ⟨23, (.op (.pick (.t 17) (.t 22) (.k (.bool false)))), none⟩, ⟨24, (.op (.mv (.t 23))), none⟩, ⟨25, (.op (.fa (.t 2) 3)), some (24, true)⟩, ⟨26, (.op (.load (.t 25) 1 false)), some (24, true)⟩, ⟨27, (.op (.fa (.t 3) 3)), some (24, true)⟩, ⟨28, (.op (.load (.t 27) 1 false)), some (24, true)⟩, ⟨29, (.op (.bin .eql (.t 26) (.t 28))), some (24, true)⟩, ⟨30, (.op (.pick (.t 24) (.t 29) (.k (.bool false)))), none⟩, ⟨31, (.op (.mv (.t 30))), none⟩, ⟨32, (.op (.fa (.t 2) 4)), some (31, true)⟩, ⟨33, (.op (.load (.t 32) 2 true)), some (31, true)⟩, ⟨34, (.op (.fa (.t 3) 4)), some (31, true)⟩, ⟨35, (.op (.load (.t 34) 2 true)), some (31, true)⟩, ⟨36, (.op (.eqS false [0, 0] (.t 33) (.t 35))), some (31, true)⟩, ⟨37, (.op (.pick (.t 31) (.t 36) (.k (.bool false)))), none⟩, ⟨38, (.op (.mv (.t 37))), none⟩, ⟨39, (.op (.fa (.t 2) 8)), some (38, true)⟩, ⟨40, (.op (.load (.t 39) 1 false)), some (38, true)⟩, ⟨41, (.op (.fa (.t 3) 8)), some (38, true)⟩, ⟨42, (.op (.load (.t 41) 1 false)), some (38, true)⟩, ⟨43, (.op (.bin .eql (.t 40) (.t 42))), some (38, true)⟩, ⟨44, (.op (.pick (.t 38) (.t 43) (.k (.bool false)))), none⟩, ⟨45, (.op (.mv (.t 44))), none⟩, ⟨46, (.op (.fa (.t 2) 6)), some (45, true)⟩, ⟨47, (.op (.load (.t 46) 1 false)), some (45, true)⟩, ⟨48, (.op (.fa (.t 3) 6)), some (45, true)⟩, ⟨49, (.op (.load (.t 48) 1 false)), some (45, true)⟩, ⟨50, (.callL n_same_Nodes [.t 47, .t 49]), some (45, true)⟩, ⟨51, (.op (.pick (.t 45) (.t 50) (.k (.bool false)))), none⟩, ⟨52, (.op (.mv (.t 51))), none⟩, ⟨53, (.op (.fa (.t 2) 7)), some (52, true)⟩, ⟨54, (.op (.load (.t 53) 1 false)), some (52, true)⟩, ⟨55, (.op (.fa (.t 3) 7)), some (52, true)⟩, ⟨56, (.op (.load (.t 55) 1 false)), some (52, true)⟩, ⟨57, (.callL n_same_Nodes [.t 54, .t 56]), some (52, true)⟩, ⟨58, (.op (.pick (.t 52) (.t 57) (.k (.bool false)))), none⟩, ⟨4, (.op (.mv (.t 58))), none⟩] [2, 3, 5, 6, 7, 8, 9, 10, 11, 12, 13, 14, 15, 16, 17, 18, 19, 20, 21, 22, 23, 24, 25, 26, 27, 28, 29, 30, 31, 32, 33, 34, 35, 36, 37, 38, 39, 40, 41, 42, 43, 44, 45, 46, 47, 48, 49, 50, 51, 52, 53, 54, 55, 56, 57, 58])
  .ret))
theorem k_same_Rule : fnOk Tryz.prog Tryz.f183 c_same_Rule 59 2 [.t 4] = true := by kernel_rfl
theorem u_same_Rule : Tryz.prog.funcs[n_same_Rule]? = some Tryz.f183 := Tryz.func183
/-- guerdon/guerdonref10.meaning -/
def c_ref10_meaning : FC :=
  (.seq (.reg none [⟨2, (.op (.mv (.k (.bool false)))), none⟩] [2])
  (.seq (.seq (.reg none [⟨3, (.op (.mv (.t 0))), none⟩, ⟨4, (.op (.bin .geq (.t 3) (.k (.int .i64 1)))), none⟩, ⟨5, (.op (.mv (.t 4))), none⟩, ⟨6, (.op (.mv (.t 0))), some (5, true)⟩, ⟨7, (.op (.bin .leq (.t 6) (.k (.int .i64 8)))), some (5, true)⟩, ⟨8, (.op (.pick (.t 5) (.t 7) (.k (.bool false)))), none⟩, ⟨9, (.op (.mv (.t 8))), none⟩, ⟨10, (.op (.mv (.t 0))), some (9, false)⟩, ⟨11, (.op (.bin .geq (.t 10) (.k (.int .i64 36)))), some (9, false)⟩, ⟨12, (.op (.mv (.t 11))), some (9, false)⟩, ⟨13, (.op (.mv (.t 0))), some (12, true)⟩, ⟨14, (.op (.bin .leq (.t 13) (.k (.int .i64 39)))), some (12, true)⟩, ⟨15, (.op (.pick (.t 12) (.t 14) (.k (.bool false)))), some (9, false)⟩, ⟨16, (.op (.pick (.t 9) (.k (.bool true)) (.t 15))), none⟩] [3, 4, 5, 6, 7, 8, 9, 10, 11, 12, 13, 14, 15])
  (.cond (.t 16)
    (.seq (.reg none [⟨2, (.op (.mv (.k (.bool true)))), none⟩] [0, 16])
    .ret)
    .skip))
  (.seq (.reg none [⟨17, (.op (.mv (.t 0))), none⟩, ⟨18, (.op (.bin .eql (.t 17) (.k (.int .i64 14)))), none⟩, ⟨19, (.op (.mv (.t 18))), none⟩, ⟨20, (.op (.mv (.t 0))), some (19, false)⟩, ⟨21, (.op (.bin .eql (.t 20) (.k (.int .i64 15)))), some (19, false)⟩, ⟨22, (.op (.pick (.t 19) (.k (.bool true)) (.t 21))), none⟩, ⟨23, (.op (.mv (.t 22))), none⟩, ⟨24, (.op (.mv (.t 0))), some (23, false)⟩, ⟨25, (.op (.bin .eql (.t 24) (.k (.int .i64 16)))), some (23, false)⟩, ⟨26, (.op (.pick (.t 23) (.k (.bool true)) (.t 25))), none⟩, ⟨27, (.op (.mv (.t 26))), none⟩, ⟨28, (.op (.mv (.t 0))), some (27, false)⟩, ⟨29, (.op (.bin .eql (.t 28) (.k (.int .i64 33)))), some (27, false)⟩, ⟨30, (.op (.pick (.t 27) (.k (.bool true)) (.t 29))), none⟩, ⟨31, (.op (.mv (.t 30))), none⟩, ⟨32, (.op (.mv (.t 0))), some (31, false)⟩, ⟨33, (.op (.bin .eql (.t 32) (.k (.int .i64 34)))), some (31, false)⟩, ⟨34, (.op (.pick (.t 31) (.k (.bool true)) (.t 33))), none⟩, ⟨2, (.op (.mv (.t 34))), none⟩] [0, 16, 17, 18, 19, 20, 21, 22, 23, 24, 25, 26, 27, 28, 29, 30, 31, 32, 33, 34])
  .ret)))
theorem k_ref10_meaning : fnOk Tryz.prog Tryz.f188 c_ref10_meaning 35 1 [.t 2] = true := by kernel_rfl
theorem u_ref10_meaning : Tryz.prog.funcs[n_ref10_meaning]? = some Tryz.f188 := Tryz.func188
/-- guerdon/guerdonref10.ranged -/
def c_ref10_ranged : FC :=
  (.seq (.reg none [⟨2, (.op (.box (.t 0))), none⟩, ⟨3, (.op (.box (.t 1))), none⟩, ⟨4, (.op (.mv (.k (.bool false)))), none⟩] [0, 1, 4])
  (.seq (.seq (.reg none [⟨7, (.op (.fa (.t 2) 0)), none⟩, ⟨8, (.op (.load (.t 7) 1 false)), none⟩] [7])
  (.block 0 (.seq (.seq (.reg none [⟨10, (.op (.bin .eql (.t 8) (.k (.int .i64 1)))), none⟩, ⟨9, (.op (.mv (.t 10))), none⟩] [10])
    (.cond (.t 9)
      .skip
      (.seq (.reg none [⟨11, (.op (.bin .eql (.t 8) (.k (.int .i64 2)))), none⟩, ⟨9, (.op (.mv (.t 11))), none⟩] [11])
      (.cond (.t 9)
        .skip
        (.seq (.reg none [⟨12, (.op (.bin .eql (.t 8) (.k (.int .i64 3)))), none⟩, ⟨9, (.op (.mv (.t 12))), none⟩] [12])
        (.cond (.t 9)
          .skip
          (.seq (.reg none [⟨13, (.op (.bin .eql (.t 8) (.k (.int .i64 4)))), none⟩, ⟨9, (.op (.mv (.t 13))), none⟩] [13])
          (.cond (.t 9)
            .skip
            (.reg none [⟨14, (.op (.bin .eql (.t 8) (.k (.int .i64 5)))), none⟩, ⟨9, (.op (.mv (.t 14))), none⟩] [14])))))))))
    (.cond (.t 9)
      (.seq (.reg (some 11) [⟨16, (.op (.fa (.t 2) 0)), none⟩, ⟨17, (.op (.load (.t 16) 1 false)), none⟩, ⟨18, (.callL n_ref10_kind [.t 17]), none⟩, ⟨19, (.op (.fa (.t 3) 0)), none⟩, ⟨20, (.op (.load (.t 19) 1 false)), none⟩, ⟨21, (.callL n_ref09_Bounds [.t 18, .t 20]), none⟩, ⟨15, (.op (.mvP true (.t 21))), none⟩, ⟨22, (.op (.extractL 15 0)), none⟩, ⟨23, (.op (.extractL 15 1)), none⟩, ⟨5, (.op (.mv (.t 22))), none⟩, ⟨6, (.op (.mv (.t 23))), none⟩] [3, 8, 9, 15, 16, 17, 18, 19, 20, 21, 22, 23])
      (.seq (.reg none [⟨24, (.op (.fa (.t 2) 1)), none⟩, ⟨25, (.op (.load (.t 24) 1 false)), none⟩, ⟨26, (.op (.mv (.t 5))), none⟩, ⟨27, (.op (.bin .geq (.t 25) (.t 26))), none⟩, ⟨28, (.op (.mv (.t 27))), none⟩, ⟨29, (.op (.fa (.t 2) 1)), some (28, true)⟩, ⟨30, (.op (.load (.t 29) 1 false)), some (28, true)⟩, ⟨31, (.op (.mv (.t 6))), some (28, true)⟩, ⟨32, (.op (.bin .leq (.t 30) (.t 31))), some (28, true)⟩, ⟨33, (.op (.pick (.t 28) (.t 32) (.k (.bool false)))), none⟩, ⟨4, (.op (.mv (.t 33))), none⟩] [2, 5, 6, 24, 25, 26, 27, 28, 29, 30, 31, 32, 33])
      .ret))
      (.seq (.seq (.reg none [⟨35, (.op (.bin .eql (.t 8) (.k (.int .i64 14)))), none⟩, ⟨34, (.op (.mv (.t 35))), none⟩] [3, 9, 35])
      (.cond (.t 34)
        .skip
        (.seq (.reg none [⟨36, (.op (.bin .eql (.t 8) (.k (.int .i64 15)))), none⟩, ⟨34, (.op (.mv (.t 36))), none⟩] [36])
        (.cond (.t 34)
          .skip
          (.reg none [⟨37, (.op (.bin .eql (.t 8) (.k (.int .i64 16)))), none⟩, ⟨34, (.op (.mv (.t 37))), none⟩] [37])))))
      (.cond (.t 34)
        (.seq (.reg none [⟨38, (.op (.fa (.t 2) 1)), none⟩, ⟨39, (.op (.load (.t 38) 1 false)), none⟩, ⟨40, (.op (.bin .geq (.t 39) (.k (.int .i64 0)))), none⟩, ⟨41, (.op (.mv (.t 40))), none⟩, ⟨42, (.op (.fa (.t 2) 1)), some (41, true)⟩, ⟨43, (.op (.load (.t 42) 1 false)), some (41, true)⟩, ⟨44, (.op (.bin .leq (.t 43) (.k (.int .i64 5)))), some (41, true)⟩, ⟨45, (.op (.pick (.t 41) (.t 44) (.k (.bool false)))), none⟩, ⟨4, (.op (.mv (.t 45))), none⟩] [2, 8, 34, 38, 39, 40, 41, 42, 43, 44, 45])
        .ret)
        (.seq (.reg none [⟨47, (.op (.bin .eql (.t 8) (.k (.int .i64 34)))), none⟩, ⟨46, (.op (.mv (.t 47))), none⟩] [34, 47])
        (.cond (.t 46)
          (.seq (.reg none [⟨48, (.op (.fa (.t 2) 1)), none⟩, ⟨49, (.op (.load (.t 48) 1 false)), none⟩, ⟨50, (.op (.bin .geq (.t 49) (.k (.int .i64 0)))), none⟩, ⟨51, (.op (.mv (.t 50))), none⟩, ⟨52, (.op (.fa (.t 2) 1)), some (51, true)⟩, ⟨53, (.op (.load (.t 52) 1 false)), some (51, true)⟩, ⟨54, (.op (.bin .rem (.t 53) (.k (.int .i64 8)))), some (51, true)⟩, ⟨55, (.op (.bin .leq (.t 54) (.k (.int .i64 5)))), some (51, true)⟩, ⟨56, (.op (.pick (.t 51) (.t 55) (.k (.bool false)))), none⟩, ⟨4, (.op (.mv (.t 56))), none⟩] [2, 8, 46, 48, 49, 50, 51, 52, 53, 54, 55, 56])
          .ret)
          (.seq (.reg none [⟨58, (.op (.bin .eql (.t 8) (.k (.int .i64 6)))), none⟩, ⟨57, (.op (.mv (.t 58))), none⟩] [8, 46, 58])
          (.cond (.t 57)
            (.seq (.reg none [⟨59, (.op (.fa (.t 2) 1)), none⟩, ⟨60, (.op (.load (.t 59) 1 false)), none⟩, ⟨61, (.op (.bin .geq (.t 60) (.k (.int .i64 0)))), none⟩, ⟨4, (.op (.mv (.t 61))), none⟩] [2, 57, 59, 60, 61])
            .ret)
            .skip))))))))))
  (.seq (.reg none [⟨4, (.op (.mv (.k (.bool true)))), none⟩] [2, 57])
  .ret)))
theorem k_ref10_ranged : fnOk Tryz.prog Tryz.f189 c_ref10_ranged 62 2 [.t 4] = true := by kernel_rfl
theorem u_ref10_ranged : Tryz.prog.funcs[n_ref10_ranged]? = some Tryz.f189 := Tryz.func189
/-- guerdon/guerdonref10.found -/
def c_ref10_found : FC :=
  (.seq (.reg none [⟨2, (.op (.box (.t 0))), none⟩, ⟨3, (.op (.box (.t 1))), none⟩, ⟨4, (.op (.mv (.k (.bool false)))), none⟩] [0, 1, 4])
  (.seq (.seq (.reg none [⟨5, (.op (.fa (.t 2) 0)), none⟩, ⟨6, (.op (.load (.t 5) 1 false)), none⟩] [5])
  (.block 0 (.seq (.reg none [⟨8, (.op (.bin .eql (.t 6) (.k (.int .i64 6)))), none⟩, ⟨7, (.op (.mv (.t 8))), none⟩] [8])
    (.cond (.t 7)
      (.seq (.reg (some 23) [⟨9, (.op (.fa (.t 2) 1)), none⟩, ⟨10, (.op (.load (.t 9) 1 false)), none⟩, ⟨11, (.op (.bin .quo (.t 10) (.k (.int .i64 16)))), none⟩, ⟨12, (.op (.fa (.t 3) 0)), none⟩, ⟨13, (.op (.load (.t 12) 1 false)), none⟩, ⟨14, (.op (.len (.t 13))), none⟩, ⟨15, (.op (.bin .lss (.t 11) (.t 14))), none⟩, ⟨16, (.op (.mv (.t 15))), none⟩, ⟨17, (.op (.fa (.t 2) 1)), some (16, true)⟩, ⟨18, (.op (.load (.t 17) 1 false)), some (16, true)⟩, ⟨19, (.op (.bin .rem (.t 18) (.k (.int .i64 16)))), some (16, true)⟩, ⟨20, (.op (.fa (.t 3) 0)), some (16, true)⟩, ⟨21, (.op (.load (.t 20) 1 false)), some (16, true)⟩, ⟨22, (.op (.fa (.t 2) 1)), some (16, true)⟩, ⟨23, (.op (.load (.t 22) 1 false)), some (16, true)⟩, ⟨24, (.op (.bin .quo (.t 23) (.k (.int .i64 16)))), some (16, true)⟩, ⟨25, (.op (.ia (.t 21) (.t 24) 2)), some (16, true)⟩, ⟨26, (.op (.fa (.t 25) 1)), some (16, true)⟩, ⟨27, (.op (.load (.t 26) 1 false)), some (16, true)⟩, ⟨28, (.op (.len (.t 27))), some (16, true)⟩, ⟨29, (.op (.bin .lss (.t 19) (.t 28))), some (16, true)⟩, ⟨30, (.op (.pick (.t 16) (.t 29) (.k (.bool false)))), none⟩, ⟨4, (.op (.mv (.t 30))), none⟩] [2, 3, 6, 7, 9, 10, 11, 12, 13, 14, 15, 16, 17, 18, 19, 20, 21, 22, 23, 24, 25, 26, 27, 28, 29, 30])
      .ret)
      (.seq (.reg none [⟨32, (.op (.bin .eql (.t 6) (.k (.int .i64 7)))), none⟩, ⟨31, (.op (.mv (.t 32))), none⟩] [7, 32])
      (.cond (.t 31)
        (.seq (.reg none [⟨33, (.op (.fa (.t 2) 1)), none⟩, ⟨34, (.op (.load (.t 33) 1 false)), none⟩, ⟨35, (.op (.bin .geq (.t 34) (.k (.int .i64 0)))), none⟩, ⟨36, (.op (.mv (.t 35))), none⟩, ⟨37, (.op (.fa (.t 2) 1)), some (36, true)⟩, ⟨38, (.op (.load (.t 37) 1 false)), some (36, true)⟩, ⟨39, (.op (.fa (.t 3) 2)), some (36, true)⟩, ⟨40, (.op (.load (.t 39) 1 false)), some (36, true)⟩, ⟨41, (.op (.len (.t 40))), some (36, true)⟩, ⟨42, (.op (.bin .lss (.t 38) (.t 41))), some (36, true)⟩, ⟨43, (.op (.pick (.t 36) (.t 42) (.k (.bool false)))), none⟩, ⟨4, (.op (.mv (.t 43))), none⟩] [2, 3, 6, 31, 33, 34, 35, 36, 37, 38, 39, 40, 41, 42, 43])
        .ret)
        (.seq (.reg none [⟨45, (.op (.bin .eql (.t 6) (.k (.int .i64 8)))), none⟩, ⟨44, (.op (.mv (.t 45))), none⟩] [31, 45])
        (.cond (.t 44)
          (.seq (.reg none [⟨46, (.op (.fa (.t 2) 1)), none⟩, ⟨47, (.op (.load (.t 46) 1 false)), none⟩, ⟨48, (.op (.bin .geq (.t 47) (.k (.int .i64 0)))), none⟩, ⟨49, (.op (.mv (.t 48))), none⟩, ⟨50, (.op (.fa (.t 2) 1)), some (49, true)⟩, ⟨51, (.op (.load (.t 50) 1 false)), some (49, true)⟩, ⟨52, (.op (.fa (.t 3) 3)), some (49, true)⟩, ⟨53, (.op (.load (.t 52) 1 false)), some (49, true)⟩, ⟨54, (.op (.len (.t 53))), some (49, true)⟩, ⟨55, (.op (.bin .lss (.t 51) (.t 54))), some (49, true)⟩, ⟨56, (.op (.pick (.t 49) (.t 55) (.k (.bool false)))), none⟩, ⟨4, (.op (.mv (.t 56))), none⟩] [2, 3, 6, 44, 46, 47, 48, 49, 50, 51, 52, 53, 54, 55, 56])
          .ret)
          (.seq (.reg none [⟨58, (.op (.bin .eql (.t 6) (.k (.int .i64 33)))), none⟩, ⟨57, (.op (.mv (.t 58))), none⟩] [44, 58])
          (.cond (.t 57)
            (.seq (.reg none [⟨59, (.op (.fa (.t 2) 1)), none⟩, ⟨60, (.op (.load (.t 59) 1 false)), none⟩, ⟨61, (.op (.bin .geq (.t 60) (.k (.int .i64 0)))), none⟩, ⟨62, (.op (.mv (.t 61))), none⟩, ⟨63, (.op (.fa (.t 2) 1)), some (62, true)⟩, ⟨64, (.op (.load (.t 63) 1 false)), some (62, true)⟩, ⟨65, (.op (.fa (.t 3) 1)), some (62, true)⟩, ⟨66, (.op (.load (.t 65) 1 false)), some (62, true)⟩, ⟨67, (.op (.len (.t 66))), some (62, true)⟩, ⟨68, (.op (.bin .lss (.t 64) (.t 67))), some (62, true)⟩, ⟨69, (.op (.pick (.t 62) (.t 68) (.k (.bool false)))), none⟩, ⟨4, (.op (.mv (.t 69))), none⟩] [2, 3, 6, 57, 59, 60, 61, 62, 63, 64, 65, 66, 67, 68, 69])
            .ret)
            (.seq (.reg none [⟨71, (.op (.bin .eql (.t 6) (.k (.int .i64 34)))), none⟩, ⟨70, (.op (.mv (.t 71))), none⟩] [57, 71])
            (.cond (.t 70)
              (.seq (.reg none [⟨72, (.op (.fa (.t 2) 1)), none⟩, ⟨73, (.op (.load (.t 72) 1 false)), none⟩, ⟨74, (.op (.bin .quo (.t 73) (.k (.int .i64 8)))), none⟩, ⟨75, (.op (.fa (.t 3) 1)), none⟩, ⟨76, (.op (.load (.t 75) 1 false)), none⟩, ⟨77, (.op (.len (.t 76))), none⟩, ⟨78, (.op (.bin .lss (.t 74) (.t 77))), none⟩, ⟨4, (.op (.mv (.t 78))), none⟩] [2, 3, 6, 70, 72, 73, 74, 75, 76, 77, 78])
              .ret)
              (.seq (.reg none [⟨80, (.op (.bin .eql (.t 6) (.k (.int .i64 35)))), none⟩, ⟨79, (.op (.mv (.t 80))), none⟩] [70, 80])
              (.cond (.t 79)
                (.seq (.reg none [⟨81, (.op (.fa (.t 3) 5)), none⟩, ⟨82, (.op (.load (.t 81) 1 false)), none⟩, ⟨4, (.op (.mv (.t 82))), none⟩] [2, 3, 6, 79, 81, 82])
                .ret)
                (.seq (.seq (.reg none [⟨84, (.op (.bin .eql (.t 6) (.k (.int .i64 36)))), none⟩, ⟨83, (.op (.mv (.t 84))), none⟩] [79, 84])
                (.cond (.t 83)
                  .skip
                  (.seq (.reg none [⟨85, (.op (.bin .eql (.t 6) (.k (.int .i64 37)))), none⟩, ⟨83, (.op (.mv (.t 85))), none⟩] [85])
                  (.cond (.t 83)
                    .skip
                    (.seq (.reg none [⟨86, (.op (.bin .eql (.t 6) (.k (.int .i64 38)))), none⟩, ⟨83, (.op (.mv (.t 86))), none⟩] [86])
                    (.cond (.t 83)
                      .skip
                      (.reg none [⟨87, (.op (.bin .eql (.t 6) (.k (.int .i64 39)))), none⟩, ⟨83, (.op (.mv (.t 87))), none⟩] [6, 87])))))))
                (.cond (.t 83)
                  (.seq (.reg none [⟨88, (.op (.fa (.t 3) 5)), none⟩, ⟨89, (.op (.load (.t 88) 1 false)), none⟩, ⟨90, (.op (.mv (.t 89))), none⟩, ⟨91, (.op (.fa (.t 2) 1)), some (90, true)⟩, ⟨92, (.op (.load (.t 91) 1 false)), some (90, true)⟩, ⟨93, (.op (.bin .geq (.t 92) (.k (.int .i64 0)))), some (90, true)⟩, ⟨94, (.op (.pick (.t 90) (.t 93) (.k (.bool false)))), none⟩, ⟨95, (.op (.mv (.t 94))), none⟩, ⟨96, (.op (.fa (.t 2) 1)), some (95, true)⟩, ⟨97, (.op (.load (.t 96) 1 false)), some (95, true)⟩, ⟨98, (.op (.fa (.t 3) 4)), some (95, true)⟩, ⟨99, (.op (.load (.t 98) 1 false)), some (95, true)⟩, ⟨100, (.op (.len (.t 99))), some (95, true)⟩, ⟨101, (.op (.bin .lss (.t 97) (.t 100))), some (95, true)⟩, ⟨102, (.op (.pick (.t 95) (.t 101) (.k (.bool false)))), none⟩, ⟨4, (.op (.mv (.t 102))), none⟩] [2, 3, 6, 83, 88, 89, 90, 91, 92, 93, 94, 95, 96, 97, 98, 99, 100, 101, 102])
                  .ret)
                  .skip))))))))))))))))
  (.seq (.reg none [⟨4, (.op (.mv (.k (.bool true)))), none⟩] [2, 3, 6, 83])
  .ret)))
theorem k_ref10_found : fnOk Tryz.prog Tryz.f190 c_ref10_found 103 2 [.t 4] = true := by kernel_rfl
theorem u_ref10_found : Tryz.prog.funcs[n_ref10_found]? = some Tryz.f190 := Tryz.func190
/-- guerdon/guerdonref10.leaf -/
def c_ref10_leaf : FC :=
  (.seq (.reg none [⟨2, (.op (.box (.t 0))), none⟩, ⟨3, (.op (.box (.t 1))), none⟩, ⟨4, (.op (.alloc [(.int .i64 0), (.int .i64 0)])), none⟩, ⟨5, (.op (.mv (.k (.bool false)))), none⟩] [0, 1, 5])
  (.seq (.reg none [⟨8, (.op (.build [(.int .i64 0), (.int .i64 0)] [] [])), none⟩, ⟨6, (.op (.alloc [(.int .i64 0), (.int .i64 0)])), none⟩, ⟨0, (.op (.store (.t 6) (.t 8) 2 true)), none⟩] [8])
  (.seq (.seq (.reg none [⟨9, (.op (.fa (.t 2) 0)), none⟩, ⟨10, (.op (.load (.t 9) 1 false)), none⟩] [9])
  (.block 0 (.seq (.reg none [⟨15, (.op (.bin .eql (.t 10) (.k (.int .i64 6)))), none⟩, ⟨14, (.op (.mv (.t 15))), none⟩] [15])
    (.cond (.t 14)
      (.reg none [⟨16, (.op (.fa (.t 2) 1)), none⟩, ⟨17, (.op (.load (.t 16) 1 false)), none⟩, ⟨18, (.op (.bin .quo (.t 17) (.k (.int .i64 16)))), none⟩, ⟨19, (.op (.build [(.int .i64 0), (.int .i64 0)] [(0, 1), (1, 1)] [.k (.int .i64 6), .t 18])), none⟩, ⟨0, (.op (.store (.t 6) (.t 19) 2 true)), none⟩] [10, 14, 16, 17, 18, 19])
      (.seq (.reg none [⟨21, (.op (.bin .eql (.t 10) (.k (.int .i64 7)))), none⟩, ⟨20, (.op (.mv (.t 21))), none⟩] [14, 21])
      (.cond (.t 20)
        (.reg none [⟨22, (.op (.fa (.t 3) 2)), none⟩, ⟨23, (.op (.load (.t 22) 1 false)), none⟩, ⟨24, (.op (.fa (.t 2) 1)), none⟩, ⟨25, (.op (.load (.t 24) 1 false)), none⟩, ⟨26, (.op (.ia (.t 23) (.t 25) 2)), none⟩, ⟨27, (.op (.load (.t 26) 2 true)), none⟩, ⟨0, (.op (.store (.t 6) (.t 27) 2 true)), none⟩] [10, 20, 22, 23, 24, 25, 26, 27])
        (.seq (.reg none [⟨29, (.op (.bin .eql (.t 10) (.k (.int .i64 8)))), none⟩, ⟨28, (.op (.mv (.t 29))), none⟩] [20, 29])
        (.cond (.t 28)
          (.reg none [⟨30, (.op (.fa (.t 3) 3)), none⟩, ⟨31, (.op (.load (.t 30) 1 false)), none⟩, ⟨32, (.op (.fa (.t 2) 1)), none⟩, ⟨33, (.op (.load (.t 32) 1 false)), none⟩, ⟨34, (.op (.ia (.t 31) (.t 33) 2)), none⟩, ⟨35, (.op (.load (.t 34) 2 true)), none⟩, ⟨0, (.op (.store (.t 6) (.t 35) 2 true)), none⟩] [10, 28, 30, 31, 32, 33, 34, 35])
          (.seq (.reg none [⟨37, (.op (.bin .eql (.t 10) (.k (.int .i64 9)))), none⟩, ⟨36, (.op (.mv (.t 37))), none⟩] [28, 37])
          (.cond (.t 36)
            (.reg none [⟨38, (.callL n_ref10_kind [.k (.int .i64 5)]), none⟩, ⟨0, (.op (.store (.t 6) (.t 38) 2 true)), none⟩] [10, 36, 38])
            (.seq (.reg none [⟨40, (.op (.bin .eql (.t 10) (.k (.int .i64 35)))), none⟩, ⟨39, (.op (.mv (.t 40))), none⟩] [36, 40])
            (.cond (.t 39)
              (.reg none [⟨41, (.callL n_ref10_kind [.k (.int .i64 2)]), none⟩, ⟨0, (.op (.store (.t 6) (.t 41) 2 true)), none⟩] [10, 39, 41])
              (.seq (.seq (.reg none [⟨43, (.op (.bin .eql (.t 10) (.k (.int .i64 36)))), none⟩, ⟨42, (.op (.mv (.t 43))), none⟩] [39, 43])
              (.cond (.t 42)
                .skip
                (.seq (.reg none [⟨44, (.op (.bin .eql (.t 10) (.k (.int .i64 37)))), none⟩, ⟨42, (.op (.mv (.t 44))), none⟩] [44])
                (.cond (.t 42)
                  .skip
                  (.seq (.reg none [⟨45, (.op (.bin .eql (.t 10) (.k (.int .i64 38)))), none⟩, ⟨42, (.op (.mv (.t 45))), none⟩] [45])
                  (.cond (.t 42)
                    .skip
                    (.reg none [⟨46, (.op (.bin .eql (.t 10) (.k (.int .i64 39)))), none⟩, ⟨42, (.op (.mv (.t 46))), none⟩] [10, 46])))))))
              (.cond (.t 42)
                (.reg none [⟨47, (.op (.fa (.t 3) 4)), none⟩, ⟨48, (.op (.load (.t 47) 1 false)), none⟩, ⟨49, (.op (.fa (.t 2) 1)), none⟩, ⟨50, (.op (.load (.t 49) 1 false)), none⟩, ⟨51, (.op (.ia (.t 48) (.t 50) 2)), none⟩, ⟨52, (.op (.load (.t 51) 2 true)), none⟩, ⟨0, (.op (.store (.t 6) (.t 52) 2 true)), none⟩] [10, 42, 47, 48, 49, 50, 51, 52])
                (.reg none [⟨11, (.op (.fa (.t 2) 0)), none⟩, ⟨12, (.op (.load (.t 11) 1 false)), none⟩, ⟨13, (.callL n_ref10_kind [.t 12]), none⟩, ⟨0, (.op (.store (.t 6) (.t 13) 2 true)), none⟩] [10, 11, 12, 13, 42])))))))))))))))
  (.seq (.reg none [⟨53, (.op (.load (.t 6) 2 true)), none⟩, ⟨54, (.op (.fa (.t 3) 0)), none⟩, ⟨55, (.op (.load (.t 54) 1 false)), none⟩, ⟨56, (.callL n_ref09_ValidType [.t 53, .t 55]), none⟩, ⟨7, (.op (.mvP true (.t 56))), none⟩] [3, 53, 54, 55, 56])
  (.seq (.seq (.reg none [⟨57, (.op (.fa (.t 2) 0)), none⟩, ⟨58, (.op (.load (.t 57) 1 false)), none⟩] [2, 57])
  (.block 1 (.seq (.reg none [⟨60, (.op (.bin .eql (.t 58) (.k (.int .i64 36)))), none⟩, ⟨59, (.op (.mv (.t 60))), none⟩] [60])
    (.cond (.t 59)
      (.reg none [⟨61, (.op (.mv (.t 7))), none⟩, ⟨62, (.op (.mv (.t 61))), none⟩, ⟨63, (.op (.fa (.t 6) 0)), some (62, true)⟩, ⟨64, (.op (.load (.t 63) 1 false)), some (62, true)⟩, ⟨65, (.op (.bin .eql (.t 64) (.k (.int .i64 2)))), some (62, true)⟩, ⟨66, (.op (.mv (.t 65))), some (62, true)⟩, ⟨67, (.op (.fa (.t 6) 0)), some (66, false)⟩, ⟨68, (.op (.load (.t 67) 1 false)), some (66, false)⟩, ⟨69, (.op (.bin .eql (.t 68) (.k (.int .i64 3)))), some (66, false)⟩, ⟨70, (.op (.pick (.t 66) (.k (.bool true)) (.t 69))), some (62, true)⟩, ⟨71, (.op (.pick (.t 62) (.t 70) (.k (.bool false)))), none⟩, ⟨7, (.op (.mv (.t 71))), none⟩] [58, 59, 61, 62, 63, 64, 65, 66, 67, 68, 69, 70, 71])
      (.seq (.seq (.reg none [⟨73, (.op (.bin .eql (.t 58) (.k (.int .i64 37)))), none⟩, ⟨72, (.op (.mv (.t 73))), none⟩] [59, 73])
      (.cond (.t 72)
        .skip
        (.reg none [⟨74, (.op (.bin .eql (.t 58) (.k (.int .i64 38)))), none⟩, ⟨72, (.op (.mv (.t 74))), none⟩] [74])))
      (.cond (.t 72)
        (.reg none [⟨75, (.op (.mv (.t 7))), none⟩, ⟨76, (.op (.mv (.t 75))), none⟩, ⟨77, (.op (.fa (.t 6) 0)), some (76, true)⟩, ⟨78, (.op (.load (.t 77) 1 false)), some (76, true)⟩, ⟨79, (.op (.bin .eql (.t 78) (.k (.int .i64 1)))), some (76, true)⟩, ⟨80, (.op (.pick (.t 76) (.t 79) (.k (.bool false)))), none⟩, ⟨7, (.op (.mv (.t 80))), none⟩] [58, 72, 75, 76, 77, 78, 79, 80])
        (.seq (.reg none [⟨82, (.op (.bin .eql (.t 58) (.k (.int .i64 39)))), none⟩, ⟨81, (.op (.mv (.t 82))), none⟩] [58, 72, 82])
        (.cond (.t 81)
          (.reg none [⟨83, (.op (.mv (.t 7))), none⟩, ⟨84, (.op (.mv (.t 83))), none⟩, ⟨85, (.op (.fa (.t 6) 0)), some (84, true)⟩, ⟨86, (.op (.load (.t 85) 1 false)), some (84, true)⟩, ⟨87, (.callL n_ref10_ordered [.t 86]), some (84, true)⟩, ⟨88, (.op (.pick (.t 84) (.t 87) (.k (.bool false)))), none⟩, ⟨7, (.op (.mv (.t 88))), none⟩] [81, 83, 84, 85, 86, 87, 88])
          .skip))))))))
  (.seq (.reg none [⟨89, (.op (.load (.t 6) 2 true)), none⟩, ⟨90, (.op (.mv (.t 7))), none⟩, ⟨0, (.op (.store (.t 4) (.t 89) 2 true)), none⟩, ⟨5, (.op (.mv (.t 90))), none⟩] [6, 7, 81, 89, 90])
  .ret))))))
theorem k_ref10_leaf : fnOk Tryz.prog Tryz.f191 c_ref10_leaf 91 2 [.c 4 2 true, .t 5] = true := by kernel_rfl
theorem u_ref10_leaf : Tryz.prog.funcs[n_ref10_leaf]? = some Tryz.f191 := Tryz.func191
/-- guerdon/guerdonref10.single -/
def c_ref10_single : FC :=
  (.seq (.reg none [⟨3, (.op (.box (.t 0))), none⟩, ⟨4, (.op (.box (.t 1))), none⟩, ⟨5, (.op (.box (.t 2))), none⟩, ⟨6, (.op (.alloc [(.int .i64 0), (.int .i64 0)])), none⟩, ⟨7, (.op (.mv (.k (.bool false)))), none⟩] [0, 1, 2, 7])
  (.seq (.seq (.reg none [⟨10, (.op (.fa (.t 3) 0)), none⟩, ⟨11, (.op (.load (.t 10) 1 false)), none⟩] [10])
  (.block 0 (.seq (.reg none [⟨13, (.op (.bin .eql (.t 11) (.k (.int .i64 10)))), none⟩, ⟨12, (.op (.mv (.t 13))), none⟩] [13])
    (.cond (.t 12)
      (.seq (.reg (some 6) [⟨14, (.op (.load (.t 4) 2 true)), none⟩, ⟨15, (.op (.fa (.t 4) 0)), none⟩, ⟨16, (.op (.load (.t 15) 1 false)), none⟩, ⟨17, (.callL n_ref10_number [.t 16]), none⟩, ⟨6, (.storeW (.t 14) 2), none⟩, ⟨7, (.op (.mv (.t 17))), none⟩] [3, 4, 5, 11, 12, 14, 15, 16, 17])
      .ret)
      (.seq (.reg none [⟨19, (.op (.bin .eql (.t 11) (.k (.int .i64 25)))), none⟩, ⟨18, (.op (.mv (.t 19))), none⟩] [12, 19])
      (.cond (.t 18)
        (.seq (.reg (some 6) [⟨20, (.op (.load (.t 4) 2 true)), none⟩, ⟨21, (.op (.fa (.t 4) 0)), none⟩, ⟨22, (.op (.load (.t 21) 1 false)), none⟩, ⟨23, (.op (.bin .eql (.t 22) (.k (.int .i64 1)))), none⟩, ⟨6, (.storeW (.t 20) 2), none⟩, ⟨7, (.op (.mv (.t 23))), none⟩] [3, 4, 5, 11, 18, 20, 21, 22, 23])
        .ret)
        (.seq (.seq (.reg none [⟨25, (.op (.bin .eql (.t 11) (.k (.int .i64 31)))), none⟩, ⟨24, (.op (.mv (.t 25))), none⟩] [18, 25])
        (.cond (.t 24)
          .skip
          (.reg none [⟨26, (.op (.bin .eql (.t 11) (.k (.int .i64 32)))), none⟩, ⟨24, (.op (.mv (.t 26))), none⟩] [26])))
        (.cond (.t 24)
          (.seq (.reg (some 6) [⟨27, (.callL n_ref10_kind [.k (.int .i64 2)]), none⟩, ⟨28, (.op (.fa (.t 4) 0)), none⟩, ⟨29, (.op (.load (.t 28) 1 false)), none⟩, ⟨30, (.op (.bin .eql (.t 29) (.k (.int .i64 5)))), none⟩, ⟨6, (.storeW (.t 27) 2), none⟩, ⟨7, (.op (.mv (.t 30))), none⟩] [3, 4, 5, 11, 24, 27, 28, 29, 30])
          .ret)
          (.seq (.reg none [⟨32, (.op (.bin .eql (.t 11) (.k (.int .i64 33)))), none⟩, ⟨31, (.op (.mv (.t 32))), none⟩] [11, 24, 32])
          (.cond (.t 31)
            (.seq (.reg none [⟨33, (.op (.fa (.t 5) 1)), none⟩, ⟨34, (.op (.load (.t 33) 1 false)), none⟩, ⟨35, (.op (.fa (.t 3) 1)), none⟩, ⟨36, (.op (.load (.t 35) 1 false)), none⟩, ⟨37, (.op (.ia (.t 34) (.t 36) 6)), none⟩, ⟨38, (.op (.load (.t 37) 6 true)), none⟩, ⟨8, (.op (.alloc [(.str []), (.int .i64 0), (.int .i64 0), (.int .i64 0), (.int .i64 0), (.sl true [])])), none⟩, ⟨0, (.op (.store (.t 8) (.t 38) 6 true)), none⟩] [3, 31, 33, 34, 35, 36, 37, 38])
            (.seq (.reg (some 22) [⟨39, (.op (.fa (.t 8) 3)), none⟩, ⟨40, (.op (.load (.t 39) 2 true)), none⟩, ⟨41, (.op (.fa (.t 8) 1)), none⟩, ⟨42, (.op (.load (.t 41) 2 true)), none⟩, ⟨43, (.op (.fa (.t 5) 0)), none⟩, ⟨44, (.op (.load (.t 43) 1 false)), none⟩, ⟨45, (.callL n_ref09_ValidType [.t 42, .t 44]), none⟩, ⟨46, (.op (.mv (.t 45))), none⟩, ⟨47, (.op (.fa (.t 8) 3)), some (46, true)⟩, ⟨48, (.op (.load (.t 47) 2 true)), some (46, true)⟩, ⟨49, (.op (.fa (.t 5) 0)), some (46, true)⟩, ⟨50, (.op (.load (.t 49) 1 false)), some (46, true)⟩, ⟨51, (.callL n_ref09_ValidType [.t 48, .t 50]), some (46, true)⟩, ⟨52, (.op (.pick (.t 46) (.t 51) (.k (.bool false)))), none⟩, ⟨53, (.op (.mv (.t 52))), none⟩, ⟨54, (.op (.load (.t 4) 2 true)), some (53, true)⟩, ⟨55, (.op (.fa (.t 8) 1)), some (53, true)⟩, ⟨56, (.op (.load (.t 55) 2 true)), some (53, true)⟩, ⟨57, (.op (.eqS false [0, 0] (.t 54) (.t 56))), some (53, true)⟩, ⟨58, (.op (.pick (.t 53) (.t 57) (.k (.bool false)))), none⟩, ⟨6, (.storeW (.t 40) 2), none⟩, ⟨7, (.op (.mv (.t 58))), none⟩] [4, 5, 8, 39, 40, 41, 42, 43, 44, 45, 46, 47, 48, 49, 50, 51, 52, 53, 54, 55, 56, 57, 58])
            .ret))
            .skip))))))))))
  (.seq (.reg none [⟨59, (.op (.fa (.t 5) 1)), none⟩, ⟨60, (.op (.load (.t 59) 1 false)), none⟩, ⟨61, (.op (.fa (.t 3) 1)), none⟩, ⟨62, (.op (.load (.t 61) 1 false)), none⟩, ⟨63, (.op (.bin .quo (.t 62) (.k (.int .i64 8)))), none⟩, ⟨64, (.op (.ia (.t 60) (.t 63) 6)), none⟩, ⟨65, (.op (.load (.t 64) 6 true)), none⟩, ⟨9, (.op (.alloc [(.str []), (.int .i64 0), (.int .i64 0), (.int .i64 0), (.int .i64 0), (.sl true [])])), none⟩, ⟨0, (.op (.store (.t 9) (.t 65) 6 true)), none⟩] [3, 5, 31, 59, 60, 61, 62, 63, 64, 65])
  (.seq (.reg (some 18) [⟨66, (.op (.load (.t 4) 2 true)), none⟩, ⟨67, (.op (.fa (.t 4) 0)), none⟩, ⟨68, (.op (.load (.t 67) 1 false)), none⟩, ⟨69, (.op (.bin .eql (.t 68) (.k (.int .i64 3)))), none⟩, ⟨70, (.op (.mv (.t 69))), none⟩, ⟨71, (.op (.fa (.t 9) 1)), some (70, true)⟩, ⟨72, (.op (.load (.t 71) 2 true)), some (70, true)⟩, ⟨73, (.callL n_ref10_kind [.k (.int .i64 3)]), some (70, true)⟩, ⟨74, (.op (.eqS false [0, 0] (.t 72) (.t 73))), some (70, true)⟩, ⟨75, (.op (.pick (.t 70) (.t 74) (.k (.bool false)))), none⟩, ⟨76, (.op (.mv (.t 75))), none⟩, ⟨77, (.op (.fa (.t 9) 3)), some (76, true)⟩, ⟨78, (.op (.load (.t 77) 2 true)), some (76, true)⟩, ⟨79, (.callL n_ref10_kind [.k (.int .i64 4)]), some (76, true)⟩, ⟨80, (.op (.eqS false [0, 0] (.t 78) (.t 79))), some (76, true)⟩, ⟨81, (.op (.pick (.t 76) (.t 80) (.k (.bool false)))), none⟩, ⟨6, (.storeW (.t 66) 2), none⟩, ⟨7, (.op (.mv (.t 81))), none⟩] [4, 9, 66, 67, 68, 69, 70, 71, 72, 73, 74, 75, 76, 77, 78, 79, 80, 81])
  .ret))))
theorem k_ref10_single : fnOk Tryz.prog Tryz.f192 c_ref10_single 82 3 [.c 6 2 true, .t 7] = true := by kernel_rfl
theorem u_ref10_single : Tryz.prog.funcs[n_ref10_single]? = some Tryz.f192 := Tryz.func192
/-- guerdon/guerdonref10.double -/
def c_ref10_double : FC :=
  (.seq (.reg none [⟨4, (.op (.box (.t 1))), none⟩, ⟨5, (.op (.box (.t 2))), none⟩, ⟨6, (.op (.alloc [(.int .i64 0), (.int .i64 0)])), none⟩, ⟨7, (.op (.mv (.k (.bool false)))), none⟩] [1, 2, 7])
  (.seq (.seq (.reg none [⟨8, (.op (.mv (.t 0))), none⟩] [])
  (.block 0 (.seq (.seq (.reg none [⟨10, (.op (.bin .eql (.t 8) (.k (.int .i64 11)))), none⟩, ⟨9, (.op (.mv (.t 10))), none⟩] [10])
    (.cond (.t 9)
      .skip
      (.reg none [⟨11, (.op (.bin .eql (.t 8) (.k (.int .i64 12)))), none⟩, ⟨9, (.op (.mv (.t 11))), none⟩] [11])))
    (.cond (.t 9)
      (.seq (.reg (some 11) [⟨12, (.op (.load (.t 4) 2 true)), none⟩, ⟨13, (.op (.load (.t 4) 2 true)), none⟩, ⟨14, (.op (.load (.t 5) 2 true)), none⟩, ⟨15, (.op (.eqS false [0, 0] (.t 13) (.t 14))), none⟩, ⟨16, (.op (.mv (.t 15))), none⟩, ⟨17, (.op (.fa (.t 4) 0)), some (16, true)⟩, ⟨18, (.op (.load (.t 17) 1 false)), some (16, true)⟩, ⟨19, (.callL n_ref10_number [.t 18]), some (16, true)⟩, ⟨20, (.op (.pick (.t 16) (.t 19) (.k (.bool false)))), none⟩, ⟨6, (.storeW (.t 12) 2), none⟩, ⟨7, (.op (.mv (.t 20))), none⟩] [0, 4, 5, 8, 9, 12, 13, 14, 15, 16, 17, 18, 19, 20])
      .ret)
      (.seq (.seq (.reg none [⟨22, (.op (.bin .eql (.t 8) (.k (.int .i64 13)))), none⟩, ⟨21, (.op (.mv (.t 22))), none⟩] [9, 22])
      (.cond (.t 21)
        .skip
        (.seq (.reg none [⟨23, (.op (.bin .eql (.t 8) (.k (.int .i64 14)))), none⟩, ⟨21, (.op (.mv (.t 23))), none⟩] [23])
        (.cond (.t 21)
          .skip
          (.reg none [⟨24, (.op (.bin .eql (.t 8) (.k (.int .i64 15)))), none⟩, ⟨21, (.op (.mv (.t 24))), none⟩] [24])))))
      (.cond (.t 21)
        (.seq (.reg none [⟨25, (.op (.mv (.t 0))), none⟩, ⟨26, (.op (.fa (.t 4) 0)), none⟩, ⟨27, (.op (.load (.t 26) 1 false)), none⟩, ⟨28, (.op (.fa (.t 5) 0)), none⟩, ⟨29, (.op (.load (.t 28) 1 false)), none⟩, ⟨30, (.callL n_ref10_scaled [.t 25, .t 27, .t 29]), none⟩, ⟨31, (.op (.extract 30 0)), none⟩, ⟨32, (.op (.extract 30 1)), none⟩, ⟨0, (.op (.store (.t 6) (.t 31) 2 true)), none⟩, ⟨7, (.op (.mvP true (.t 32))), none⟩] [0, 4, 5, 8, 21, 25, 26, 27, 28, 29, 30, 31, 32])
        .ret)
        (.seq (.reg none [⟨34, (.op (.bin .eql (.t 8) (.k (.int .i64 16)))), none⟩, ⟨33, (.op (.mv (.t 34))), none⟩] [0, 21, 34])
        (.cond (.t 33)
          (.seq (.reg (some 11) [⟨35, (.op (.load (.t 4) 2 true)), none⟩, ⟨36, (.op (.fa (.t 4) 0)), none⟩, ⟨37, (.op (.load (.t 36) 1 false)), none⟩, ⟨38, (.op (.bin .eql (.t 37) (.k (.int .i64 3)))), none⟩, ⟨39, (.op (.mv (.t 38))), none⟩, ⟨40, (.op (.fa (.t 5) 0)), some (39, true)⟩, ⟨41, (.op (.load (.t 40) 1 false)), some (39, true)⟩, ⟨42, (.op (.bin .eql (.t 41) (.k (.int .i64 3)))), some (39, true)⟩, ⟨43, (.op (.pick (.t 39) (.t 42) (.k (.bool false)))), none⟩, ⟨6, (.storeW (.t 35) 2), none⟩, ⟨7, (.op (.mv (.t 43))), none⟩] [4, 5, 8, 33, 35, 36, 37, 38, 39, 40, 41, 42, 43])
          .ret)
          (.seq (.seq (.reg none [⟨45, (.op (.bin .eql (.t 8) (.k (.int .i64 17)))), none⟩, ⟨44, (.op (.mv (.t 45))), none⟩] [33, 45])
          (.cond (.t 44)
            .skip
            (.reg none [⟨46, (.op (.bin .eql (.t 8) (.k (.int .i64 18)))), none⟩, ⟨44, (.op (.mv (.t 46))), none⟩] [46])))
          (.cond (.t 44)
            (.seq (.reg (some 11) [⟨47, (.op (.load (.t 4) 2 true)), none⟩, ⟨48, (.op (.load (.t 4) 2 true)), none⟩, ⟨49, (.op (.load (.t 5) 2 true)), none⟩, ⟨50, (.op (.eqS false [0, 0] (.t 48) (.t 49))), none⟩, ⟨51, (.op (.mv (.t 50))), none⟩, ⟨52, (.op (.fa (.t 4) 0)), some (51, true)⟩, ⟨53, (.op (.load (.t 52) 1 false)), some (51, true)⟩, ⟨54, (.callL n_ref10_ordered [.t 53]), some (51, true)⟩, ⟨55, (.op (.pick (.t 51) (.t 54) (.k (.bool false)))), none⟩, ⟨6, (.storeW (.t 47) 2), none⟩, ⟨7, (.op (.mv (.t 55))), none⟩] [4, 5, 8, 44, 47, 48, 49, 50, 51, 52, 53, 54, 55])
            .ret)
            (.seq (.seq (.reg none [⟨57, (.op (.bin .eql (.t 8) (.k (.int .i64 19)))), none⟩, ⟨56, (.op (.mv (.t 57))), none⟩] [44, 57])
            (.cond (.t 56)
              .skip
              (.reg none [⟨58, (.op (.bin .eql (.t 8) (.k (.int .i64 20)))), none⟩, ⟨56, (.op (.mv (.t 58))), none⟩] [58])))
            (.cond (.t 56)
              (.seq (.reg (some 6) [⟨59, (.callL n_ref10_kind [.k (.int .i64 1)]), none⟩, ⟨60, (.op (.load (.t 4) 2 true)), none⟩, ⟨61, (.op (.load (.t 5) 2 true)), none⟩, ⟨62, (.op (.eqS false [0, 0] (.t 60) (.t 61))), none⟩, ⟨6, (.storeW (.t 59) 2), none⟩, ⟨7, (.op (.mv (.t 62))), none⟩] [4, 5, 8, 56, 59, 60, 61, 62])
              .ret)
              (.seq (.seq (.reg none [⟨64, (.op (.bin .eql (.t 8) (.k (.int .i64 21)))), none⟩, ⟨63, (.op (.mv (.t 64))), none⟩] [56, 64])
              (.cond (.t 63)
                .skip
                (.reg none [⟨65, (.op (.bin .eql (.t 8) (.k (.int .i64 22)))), none⟩, ⟨63, (.op (.mv (.t 65))), none⟩] [65])))
              (.cond (.t 63)
                (.seq (.reg (some 11) [⟨66, (.callL n_ref10_kind [.k (.int .i64 1)]), none⟩, ⟨67, (.op (.load (.t 4) 2 true)), none⟩, ⟨68, (.op (.load (.t 5) 2 true)), none⟩, ⟨69, (.op (.eqS false [0, 0] (.t 67) (.t 68))), none⟩, ⟨70, (.op (.mv (.t 69))), none⟩, ⟨71, (.op (.fa (.t 4) 0)), some (70, true)⟩, ⟨72, (.op (.load (.t 71) 1 false)), some (70, true)⟩, ⟨73, (.callL n_ref10_ordered [.t 72]), some (70, true)⟩, ⟨74, (.op (.pick (.t 70) (.t 73) (.k (.bool false)))), none⟩, ⟨6, (.storeW (.t 66) 2), none⟩, ⟨7, (.op (.mv (.t 74))), none⟩] [4, 5, 8, 63, 66, 67, 68, 69, 70, 71, 72, 73, 74])
                .ret)
                (.seq (.seq (.reg none [⟨76, (.op (.bin .eql (.t 8) (.k (.int .i64 23)))), none⟩, ⟨75, (.op (.mv (.t 76))), none⟩] [63, 76])
                (.cond (.t 75)
                  .skip
                  (.reg none [⟨77, (.op (.bin .eql (.t 8) (.k (.int .i64 24)))), none⟩, ⟨75, (.op (.mv (.t 77))), none⟩] [77])))
                (.cond (.t 75)
                  (.seq (.reg (some 11) [⟨78, (.op (.load (.t 4) 2 true)), none⟩, ⟨79, (.op (.fa (.t 4) 0)), none⟩, ⟨80, (.op (.load (.t 79) 1 false)), none⟩, ⟨81, (.op (.bin .eql (.t 80) (.k (.int .i64 1)))), none⟩, ⟨82, (.op (.mv (.t 81))), none⟩, ⟨83, (.op (.fa (.t 5) 0)), some (82, true)⟩, ⟨84, (.op (.load (.t 83) 1 false)), some (82, true)⟩, ⟨85, (.op (.bin .eql (.t 84) (.k (.int .i64 1)))), some (82, true)⟩, ⟨86, (.op (.pick (.t 82) (.t 85) (.k (.bool false)))), none⟩, ⟨6, (.storeW (.t 78) 2), none⟩, ⟨7, (.op (.mv (.t 86))), none⟩] [4, 5, 8, 75, 78, 79, 80, 81, 82, 83, 84, 85, 86])
                  .ret)
                  (.seq (.seq (.reg none [⟨88, (.op (.bin .eql (.t 8) (.k (.int .i64 27)))), none⟩, ⟨87, (.op (.mv (.t 88))), none⟩] [75, 88])
                  (.cond (.t 87)
                    .skip
                    (.reg none [⟨89, (.op (.bin .eql (.t 8) (.k (.int .i64 28)))), none⟩, ⟨87, (.op (.mv (.t 89))), none⟩] [8, 89])))
                  (.cond (.t 87)
                    (.seq (.reg (some 11) [⟨90, (.op (.load (.t 4) 2 true)), none⟩, ⟨91, (.op (.fa (.t 4) 0)), none⟩, ⟨92, (.op (.load (.t 91) 1 false)), none⟩, ⟨93, (.op (.bin .eql (.t 92) (.k (.int .i64 5)))), none⟩, ⟨94, (.op (.mv (.t 93))), none⟩, ⟨95, (.op (.fa (.t 5) 0)), some (94, true)⟩, ⟨96, (.op (.load (.t 95) 1 false)), some (94, true)⟩, ⟨97, (.op (.bin .eql (.t 96) (.k (.int .i64 2)))), some (94, true)⟩, ⟨98, (.op (.pick (.t 94) (.t 97) (.k (.bool false)))), none⟩, ⟨6, (.storeW (.t 90) 2), none⟩, ⟨7, (.op (.mv (.t 98))), none⟩] [4, 5, 8, 87, 90, 91, 92, 93, 94, 95, 96, 97, 98])
                    .ret)
                    .skip))))))))))))))))))
  (.seq (.reg (some 11) [⟨99, (.callL n_ref10_kind [.k (.int .i64 2)]), none⟩, ⟨100, (.op (.fa (.t 4) 0)), none⟩, ⟨101, (.op (.load (.t 100) 1 false)), none⟩, ⟨102, (.op (.bin .eql (.t 101) (.k (.int .i64 5)))), none⟩, ⟨103, (.op (.mv (.t 102))), none⟩, ⟨104, (.op (.fa (.t 5) 0)), some (103, true)⟩, ⟨105, (.op (.load (.t 104) 1 false)), some (103, true)⟩, ⟨106, (.op (.bin .eql (.t 105) (.k (.int .i64 5)))), some (103, true)⟩, ⟨107, (.op (.pick (.t 103) (.t 106) (.k (.bool false)))), none⟩, ⟨6, (.storeW (.t 99) 2), none⟩, ⟨7, (.op (.mv (.t 107))), none⟩] [4, 5, 8, 87, 99, 100, 101, 102, 103, 104, 105, 106, 107])
  .ret)))
theorem k_ref10_double : fnOk Tryz.prog Tryz.f193 c_ref10_double 108 3 [.c 6 2 true, .t 7] = true := by kernel_rfl
theorem u_ref10_double : Tryz.prog.funcs[n_ref10_double]? = some Tryz.f193 := Tryz.func193
/-- guerdon/guerdonsame.Nodes -/
def c_same_Nodes : FC :=
  (.seq (.reg none [⟨4, (.op (.mv (.k (.bool false)))), none⟩] [4])
  (.seq (.seq (.reg none [⟨6, (.op (.mv (.t 0))), none⟩, ⟨7, (.op (.len (.t 6))), none⟩, ⟨8, (.op (.mv (.t 1))), none⟩, ⟨9, (.op (.len (.t 8))), none⟩, ⟨10, (.op (.bin .neq (.t 7) (.t 9))), none⟩] [6, 7, 8, 9])
  (.cond (.t 10)
    (.seq (.reg none [⟨4, (.op (.mv (.k (.bool false)))), none⟩] [0, 1, 10])
    .ret)
    .skip))
  (.seq (.seq (.reg none [⟨5, (.op (.mv (.k (.int .i64 0)))), none⟩] [10])
  (.block 0 (.loop (.seq (.seq (.reg none [⟨11, (.op (.mv (.t 5))), none⟩, ⟨12, (.op (.mv (.t 0))), none⟩, ⟨13, (.op (.len (.t 12))), none⟩, ⟨14, (.op (.bin .lss (.t 11) (.t 13))), none⟩, ⟨15, (.op (.mv (.t 14))), none⟩, ⟨16, (.op (.mv (.t 5))), some (15, true)⟩, ⟨17, (.op (.mv (.t 1))), some (15, true)⟩, ⟨18, (.op (.len (.t 17))), some (15, true)⟩, ⟨19, (.op (.bin .lss (.t 16) (.t 18))), some (15, true)⟩, ⟨20, (.op (.pick (.t 15) (.t 19) (.k (.bool false)))), none⟩] [11, 12, 13, 14, 15, 16, 17, 18, 19])
      (.cond (.t 20)
        .skip
        (.exit 0)))
      (.seq (.block 1 (.seq (.reg (some 9) [⟨23, (.op (.mv (.t 0))), none⟩, ⟨24, (.op (.mv (.t 5))), none⟩, ⟨25, (.op (.ia (.t 23) (.t 24) 2)), none⟩, ⟨26, (.op (.load (.t 25) 2 true)), none⟩, ⟨27, (.op (.mv (.t 1))), none⟩, ⟨28, (.op (.mv (.t 5))), none⟩, ⟨29, (.op (.ia (.t 27) (.t 28) 2)), none⟩, ⟨30, (.op (.load (.t 29) 2 true)), none⟩, ⟨31, (.op (.eqS true [0, 0] (.t 26) (.t 30))), none⟩] [20, 23, 24, 25, 26, 27, 28, 29, 30])
        (.cond (.t 31)
          (.seq (.reg none [⟨4, (.op (.mv (.k (.bool false)))), none⟩] [0, 1, 5, 31])
          .ret)
          .skip)))
      (.reg none [⟨21, (.op (.mv (.t 5))), none⟩, ⟨22, (.op (.bin .add (.t 21) (.k (.int .i64 1)))), none⟩, ⟨5, (.op (.mv (.t 22))), none⟩] [21, 22, 31]))))))
  (.seq (.reg none [⟨4, (.op (.mv (.k (.bool true)))), none⟩] [0, 1, 5, 20])
  .ret))))
theorem k_same_Nodes : fnOk Tryz.prog Tryz.f195 c_same_Nodes 32 2 [.t 4] = true := by kernel_rfl
theorem u_same_Nodes : Tryz.prog.funcs[n_same_Nodes]? = some Tryz.f195 := Tryz.func195
/-- guerdon/guerdonref10.kind -/
def c_ref10_kind : FC :=
  (.seq (.reg none [⟨2, (.op (.alloc [(.int .i64 0), (.int .i64 0)])), none⟩] [])
  (.seq (.reg none [⟨3, (.op (.mv (.t 0))), none⟩, ⟨4, (.op (.build [(.int .i64 0), (.int .i64 0)] [(0, 1)] [.t 3])), none⟩, ⟨0, (.op (.store (.t 2) (.t 4) 2 true)), none⟩] [0, 3, 4])
  .ret))
theorem k_ref10_kind : fnOk Tryz.prog Tryz.f198 c_ref10_kind 5 1 [.c 2 2 true] = true := by kernel_rfl
theorem u_ref10_kind : Tryz.prog.funcs[n_ref10_kind]? = some Tryz.f198 := Tryz.func198
/-- guerdon/guerdonref10.ordered -/
def c_ref10_ordered : FC :=
  (.seq (.reg none [⟨2, (.op (.mv (.k (.bool false)))), none⟩] [2])
  (.seq (.reg none [⟨3, (.op (.mv (.t 0))), none⟩, ⟨4, (.callL n_ref10_number [.t 3]), none⟩, ⟨5, (.op (.mv (.t 4))), none⟩, ⟨6, (.op (.mv (.t 0))), some (5, false)⟩, ⟨7, (.op (.bin .eql (.t 6) (.k (.int .i64 5)))), some (5, false)⟩, ⟨8, (.op (.pick (.t 5) (.k (.bool true)) (.t 7))), none⟩, ⟨2, (.op (.mv (.t 8))), none⟩] [0, 3, 4, 5, 6, 7, 8])
  .ret))
theorem k_ref10_ordered : fnOk Tryz.prog Tryz.f199 c_ref10_ordered 9 1 [.t 2] = true := by kernel_rfl
theorem u_ref10_ordered : Tryz.prog.funcs[n_ref10_ordered]? = some Tryz.f199 := Tryz.func199
/-- guerdon/guerdonref10.number -/
def c_ref10_number : FC :=
  (.seq (.reg none [⟨2, (.op (.mv (.k (.bool false)))), none⟩] [2])
  (.seq (.reg none [⟨3, (.op (.mv (.t 0))), none⟩, ⟨4, (.op (.bin .eql (.t 3) (.k (.int .i64 2)))), none⟩, ⟨5, (.op (.mv (.t 4))), none⟩, ⟨6, (.op (.mv (.t 0))), some (5, false)⟩, ⟨7, (.op (.bin .eql (.t 6) (.k (.int .i64 3)))), some (5, false)⟩, ⟨8, (.op (.pick (.t 5) (.k (.bool true)) (.t 7))), none⟩, ⟨9, (.op (.mv (.t 8))), none⟩, ⟨10, (.op (.mv (.t 0))), some (9, false)⟩, ⟨11, (.op (.bin .eql (.t 10) (.k (.int .i64 4)))), some (9, false)⟩, ⟨12, (.op (.pick (.t 9) (.k (.bool true)) (.t 11))), none⟩, ⟨2, (.op (.mv (.t 12))), none⟩] [0, 3, 4, 5, 6, 7, 8, 9, 10, 11, 12])
  .ret))
theorem k_ref10_number : fnOk Tryz.prog Tryz.f200 c_ref10_number 13 1 [.t 2] = true := by kernel_rfl
theorem u_ref10_number : Tryz.prog.funcs[n_ref10_number]? = some Tryz.f200 := Tryz.func200
/-- guerdon/guerdonref10.scaled -/
def c_ref10_scaled : FC :=
  (.seq (.reg none [⟨6, (.op (.alloc [(.int .i64 0), (.int .i64 0)])), none⟩, ⟨7, (.op (.mv (.k (.bool false)))), none⟩] [7])
  (.seq (.seq (.reg none [⟨8, (.op (.mv (.t 0))), none⟩] [0])
  (.block 0 (.seq (.reg none [⟨10, (.op (.bin .eql (.t 8) (.k (.int .i64 13)))), none⟩, ⟨9, (.op (.mv (.t 10))), none⟩] [10])
    (.cond (.t 9)
      (.seq (.reg none [⟨11, (.op (.mv (.t 1))), none⟩, ⟨12, (.callL n_ref10_kind [.t 11]), none⟩, ⟨13, (.op (.mv (.t 2))), none⟩, ⟨14, (.op (.bin .eql (.t 13) (.k (.int .i64 2)))), none⟩, ⟨15, (.op (.mv (.t 14))), none⟩, ⟨16, (.op (.mv (.t 1))), some (15, true)⟩, ⟨17, (.op (.bin .eql (.t 16) (.k (.int .i64 2)))), some (15, true)⟩, ⟨18, (.op (.mv (.t 17))), some (15, true)⟩, ⟨19, (.op (.mv (.t 1))), some (18, false)⟩, ⟨20, (.op (.bin .eql (.t 19) (.k (.int .i64 3)))), some (18, false)⟩, ⟨21, (.op (.pick (.t 18) (.k (.bool true)) (.t 20))), some (15, true)⟩, ⟨22, (.op (.pick (.t 15) (.t 21) (.k (.bool false)))), none⟩, ⟨0, (.op (.store (.t 6) (.t 12) 2 true)), none⟩, ⟨7, (.op (.mv (.t 22))), none⟩] [1, 2, 8, 9, 11, 12, 13, 14, 15, 16, 17, 18, 19, 20, 21, 22])
      .ret)
      (.seq (.reg none [⟨24, (.op (.bin .eql (.t 8) (.k (.int .i64 14)))), none⟩, ⟨23, (.op (.mv (.t 24))), none⟩] [8, 9, 24])
      (.cond (.t 23)
        (.seq (.reg none [⟨25, (.op (.mv (.t 1))), none⟩, ⟨26, (.callL n_ref10_kind [.t 25]), none⟩, ⟨27, (.op (.mv (.t 2))), none⟩, ⟨28, (.op (.bin .eql (.t 27) (.k (.int .i64 4)))), none⟩, ⟨29, (.op (.mv (.t 28))), none⟩, ⟨30, (.op (.mv (.t 1))), some (29, true)⟩, ⟨31, (.op (.bin .eql (.t 30) (.k (.int .i64 3)))), some (29, true)⟩, ⟨32, (.op (.mv (.t 31))), some (29, true)⟩, ⟨33, (.op (.mv (.t 1))), some (32, false)⟩, ⟨34, (.op (.bin .eql (.t 33) (.k (.int .i64 4)))), some (32, false)⟩, ⟨35, (.op (.pick (.t 32) (.k (.bool true)) (.t 34))), some (29, true)⟩, ⟨36, (.op (.pick (.t 29) (.t 35) (.k (.bool false)))), none⟩, ⟨0, (.op (.store (.t 6) (.t 26) 2 true)), none⟩, ⟨7, (.op (.mv (.t 36))), none⟩] [1, 2, 23, 25, 26, 27, 28, 29, 30, 31, 32, 33, 34, 35, 36])
        .ret)
        .skip))))))
  (.seq (.seq (.reg none [⟨37, (.op (.mv (.t 1))), none⟩, ⟨38, (.op (.bin .eql (.t 37) (.k (.int .i64 3)))), none⟩, ⟨39, (.op (.mv (.t 38))), none⟩, ⟨40, (.op (.mv (.t 2))), some (39, true)⟩, ⟨41, (.op (.bin .eql (.t 40) (.k (.int .i64 3)))), some (39, true)⟩, ⟨42, (.op (.pick (.t 39) (.t 41) (.k (.bool false)))), none⟩] [23, 37, 38, 39, 40, 41])
  (.cond (.t 42)
    (.seq (.reg none [⟨43, (.callL n_ref10_kind [.k (.int .i64 4)]), none⟩, ⟨0, (.op (.store (.t 6) (.t 43) 2 true)), none⟩, ⟨7, (.op (.mv (.k (.bool true)))), none⟩] [1, 2, 42, 43])
    .ret)
    .skip))
  (.seq (.reg none [⟨44, (.op (.mv (.t 1))), none⟩, ⟨45, (.callL n_ref10_kind [.t 44]), none⟩, ⟨46, (.op (.mv (.t 2))), none⟩, ⟨47, (.op (.bin .eql (.t 46) (.k (.int .i64 2)))), none⟩, ⟨48, (.op (.mv (.t 47))), none⟩, ⟨49, (.op (.mv (.t 1))), some (48, true)⟩, ⟨50, (.op (.bin .eql (.t 49) (.k (.int .i64 2)))), some (48, true)⟩, ⟨51, (.op (.mv (.t 50))), some (48, true)⟩, ⟨52, (.op (.mv (.t 1))), some (51, false)⟩, ⟨53, (.op (.bin .eql (.t 52) (.k (.int .i64 3)))), some (51, false)⟩, ⟨54, (.op (.pick (.t 51) (.k (.bool true)) (.t 53))), some (48, true)⟩, ⟨55, (.op (.pick (.t 48) (.t 54) (.k (.bool false)))), none⟩, ⟨0, (.op (.store (.t 6) (.t 45) 2 true)), none⟩, ⟨7, (.op (.mv (.t 55))), none⟩] [1, 2, 42, 44, 45, 46, 47, 48, 49, 50, 51, 52, 53, 54, 55])
  .ret))))
theorem k_ref10_scaled : fnOk Tryz.prog Tryz.f201 c_ref10_scaled 56 3 [.c 6 2 true, .t 7] = true := by kernel_rfl
theorem u_ref10_scaled : Tryz.prog.funcs[n_ref10_scaled]? = some Tryz.f201 := Tryz.func201
end Go.Fx.Tryz
