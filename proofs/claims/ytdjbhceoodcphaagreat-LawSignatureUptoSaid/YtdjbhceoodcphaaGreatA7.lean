/- Part of a proof: see the last text of the claim. -/
import Derived.Test.YtdjbhceoodcphaaGreatA4
import Derived.Test.YtdjbhceoodcphaaGreatA6
set_option linter.unusedVariables false
namespace Go.Fx.Tryz
open Go Go.Fm Go.Proofs
/-- guerdon/expr.starts -/
def c_expr_starts : FC :=
  (.seq (.reg none [⟨2, (.op (.mv (.k (.arr [])))), none⟩, ⟨3, (.op (.mv (.k (.int .i64 0)))), none⟩, ⟨4, (.op (.mv (.k (.int .i64 0)))), none⟩] [2, 3, 4])
  (.seq (.seq (.reg none [⟨11, (.op (.mv (.t 0))), none⟩, ⟨12, (.op (.len (.t 11))), none⟩, ⟨13, (.op (.bin .gtr (.t 12) (.k (.int .i64 48)))), none⟩] [11, 12])
  (.cond (.t 13)
    (.seq (.reg none [⟨2, (.op (.mv (.k (.arr [])))), none⟩, ⟨3, (.op (.mv (.k (.int .i64 0)))), none⟩, ⟨4, (.op (.mv (.k (.int .i64 4)))), none⟩] [0, 13])
    .ret)
    .skip))
  (.seq (.seq (.reg none [⟨14, (.op (.mv (.t 0))), none⟩, ⟨15, (.op (.len (.t 14))), none⟩, ⟨16, (.op (.bin .eql (.t 15) (.k (.int .i64 0)))), none⟩] [13, 14, 15])
  (.cond (.t 16)
    (.seq (.reg none [⟨2, (.op (.mv (.k (.arr [])))), none⟩, ⟨3, (.op (.mv (.k (.int .i64 0)))), none⟩, ⟨4, (.op (.mv (.k (.int .i64 5)))), none⟩] [0, 16])
    .ret)
    .skip))
  (.seq (.reg none [⟨5, (.op (.mv (.k (.arr [])))), none⟩, ⟨6, (.op (.mv (.k (.arr [])))), none⟩] [16])
  (.seq (.seq (.reg none [⟨17, (.op (.mv (.t 0))), none⟩, ⟨18, (.op (.len (.t 17))), none⟩, ⟨19, (.op (.mv (.k (.int .i64 0)))), none⟩] [])
  (.block 0 (.loop (.seq (.reg none [⟨20, (.op (.bin .lss (.t 19) (.t 18))), none⟩] [])
      (.seq (.cond (.t 20)
        .skip
        (.exit 0))
      (.seq (.block 1 (.seq (.reg none [⟨21, (.op (.mv (.t 19))), none⟩, ⟨22, (.op (.ia (.t 17) (.t 19) 2)), none⟩, ⟨23, (.op (.load (.t 22) 2 true)), none⟩, ⟨8, (.op (.alloc [(.int .i64 0), (.int .i64 0)])), none⟩, ⟨7, (.op (.mv (.t 21))), none⟩, ⟨0, (.op (.store (.t 8) (.t 23) 2 true)), none⟩] [20, 21, 22, 23])
        (.seq (.reg none [⟨24, (.op (.fa (.t 8) 0)), none⟩, ⟨25, (.op (.load (.t 24) 1 false)), none⟩, ⟨26, (.callL n_expr_Arity [.t 25]), none⟩, ⟨9, (.op (.mvP true (.t 26))), none⟩] [8, 24, 25, 26])
        (.seq (.seq (.reg none [⟨27, (.op (.mv (.t 9))), none⟩, ⟨28, (.op (.bin .lss (.t 27) (.k (.int .i64 0)))), none⟩] [27])
        (.cond (.t 28)
          (.seq (.reg none [⟨29, (.op (.mv (.t 7))), none⟩, ⟨2, (.op (.mv (.k (.arr [])))), none⟩, ⟨3, (.op (.mv (.t 29))), none⟩, ⟨4, (.op (.mv (.k (.int .i64 2)))), none⟩] [0, 6, 7, 9, 17, 18, 19, 28, 29])
          .ret)
          .skip))
        (.seq (.seq (.reg none [⟨30, (.op (.mv (.t 9))), none⟩, ⟨31, (.op (.mv (.t 6))), none⟩, ⟨32, (.op (.len (.t 31))), none⟩, ⟨33, (.op (.bin .gtr (.t 30) (.t 32))), none⟩] [28, 30, 31, 32])
        (.cond (.t 33)
          (.seq (.reg none [⟨34, (.op (.mv (.t 7))), none⟩, ⟨2, (.op (.mv (.k (.arr [])))), none⟩, ⟨3, (.op (.mv (.t 34))), none⟩, ⟨4, (.op (.mv (.k (.int .i64 5)))), none⟩] [0, 6, 7, 9, 17, 18, 19, 33, 34])
          .ret)
          .skip))
        (.seq (.reg none [⟨35, (.op (.mv (.t 7))), none⟩, ⟨10, (.op (.mv (.t 35))), none⟩] [33, 35])
        (.seq (.seq (.reg none [⟨36, (.op (.mv (.t 9))), none⟩, ⟨37, (.op (.bin .gtr (.t 36) (.k (.int .i64 0)))), none⟩] [36])
        (.cond (.t 37)
          (.reg none [⟨38, (.op (.mv (.t 6))), none⟩, ⟨39, (.op (.mv (.t 6))), none⟩, ⟨40, (.op (.len (.t 39))), none⟩, ⟨41, (.op (.mv (.t 9))), none⟩, ⟨42, (.op (.bin .sub (.t 40) (.t 41))), none⟩, ⟨43, (.op (.ia (.t 38) (.t 42) 1)), none⟩, ⟨44, (.op (.load (.t 43) 1 false)), none⟩, ⟨10, (.op (.mv (.t 44))), none⟩] [37, 38, 39, 40, 41, 42, 43, 44])
          .skip))
        (.seq (.reg none [⟨45, (.op (.mv (.t 6))), none⟩, ⟨46, (.op (.mv (.t 6))), none⟩, ⟨47, (.op (.len (.t 46))), none⟩, ⟨48, (.op (.mv (.t 9))), none⟩, ⟨49, (.op (.bin .sub (.t 47) (.t 48))), none⟩, ⟨50, (.op (.subSl (.t 45) none (some (.t 49)) 1)), none⟩, ⟨51, (.op (.mv (.t 10))), none⟩, ⟨52, (.op (.buildSl [(.int .i64 0)] 1 [0] [.t 51])), none⟩, ⟨53, (.op (.app (.t 50) (.t 52) 1 8)), none⟩, ⟨6, (.op (.mvP true (.t 53))), none⟩] [9, 37, 45, 46, 47, 48, 49, 50, 51, 52, 53])
        (.seq (.seq (.reg none [⟨54, (.op (.mv (.t 6))), none⟩, ⟨55, (.op (.len (.t 54))), none⟩, ⟨56, (.op (.bin .gtr (.t 55) (.k (.int .i64 12)))), none⟩] [54, 55])
        (.cond (.t 56)
          (.seq (.reg none [⟨57, (.op (.mv (.t 7))), none⟩, ⟨2, (.op (.mv (.k (.arr [])))), none⟩, ⟨3, (.op (.mv (.t 57))), none⟩, ⟨4, (.op (.mv (.k (.int .i64 16)))), none⟩] [0, 6, 7, 10, 17, 18, 19, 56, 57])
          .ret)
          .skip))
        (.reg none [⟨58, (.op (.mv (.t 5))), none⟩, ⟨59, (.op (.mv (.t 10))), none⟩, ⟨60, (.op (.buildSl [(.int .i64 0)] 1 [0] [.t 59])), none⟩, ⟨61, (.op (.app (.t 58) (.t 60) 1 8)), none⟩, ⟨5, (.op (.mvP true (.t 61))), none⟩] [7, 10, 56, 58, 59, 60, 61]))))))))))
      (.reg none [⟨62, (.op (.bin .add (.t 19) (.k (.int .i64 1)))), none⟩, ⟨19, (.op (.mv (.t 62))), none⟩] [62])))))))
  (.seq (.seq (.reg none [⟨63, (.op (.mv (.t 6))), none⟩, ⟨64, (.op (.len (.t 63))), none⟩, ⟨65, (.op (.bin .gtr (.t 64) (.k (.int .i64 1)))), none⟩] [6, 17, 18, 19, 20, 63, 64])
  (.cond (.t 65)
    (.seq (.reg none [⟨66, (.op (.mv (.t 0))), none⟩, ⟨67, (.op (.len (.t 66))), none⟩, ⟨2, (.op (.mv (.k (.arr [])))), none⟩, ⟨3, (.op (.mvP true (.t 67))), none⟩, ⟨4, (.op (.mv (.k (.int .i64 4)))), none⟩] [0, 65, 66, 67])
    .ret)
    .skip))
  (.seq (.reg none [⟨68, (.op (.mv (.t 5))), none⟩, ⟨2, (.op (.mv (.t 68))), none⟩, ⟨3, (.op (.mv (.k (.int .i64 0)))), none⟩, ⟨4, (.op (.mv (.k (.int .i64 0)))), none⟩] [0, 65])
  .ret)))))))
theorem k_expr_starts : fnOk Tryz.prog Tryz.f85 c_expr_starts 69 1 [.t 2, .t 3, .t 4] = true := by kernel_rfl
theorem u_expr_starts : Tryz.prog.funcs[n_expr_starts]? = some Tryz.f85 := Tryz.func85
/-- guerdon/expr.operands -/
def c_expr_operands : FC :=
  (.seq (.reg none [⟨6, (.op (.mv (.k (.arr [])))), none⟩] [6])
  (.seq (.reg none [⟨11, (.op (.mv (.t 0))), none⟩, ⟨12, (.op (.mv (.t 2))), none⟩, ⟨13, (.op (.ia (.t 11) (.t 12) 2)), none⟩, ⟨14, (.op (.fa (.t 13) 0)), none⟩, ⟨15, (.op (.load (.t 14) 1 false)), none⟩, ⟨16, (.callL n_expr_Arity [.t 15]), none⟩, ⟨7, (.op (.mvP true (.t 16))), none⟩] [0, 11, 12, 13, 14, 15, 16])
  (.seq (.reg none [⟨17, (.op (.mv (.t 7))), none⟩, ⟨18, (.op (.makeSl [(.int .i64 0)] 8 (.t 17) (.t 17))), none⟩, ⟨8, (.op (.mvP true (.t 18))), none⟩] [17, 18])
  (.seq (.reg none [⟨19, (.op (.mv (.t 2))), none⟩, ⟨20, (.op (.bin .sub (.t 19) (.k (.int .i64 1)))), none⟩, ⟨9, (.op (.mv (.t 20))), none⟩] [2, 19, 20])
  (.seq (.seq (.reg none [⟨21, (.op (.mv (.t 7))), none⟩, ⟨22, (.op (.bin .sub (.t 21) (.k (.int .i64 1)))), none⟩, ⟨10, (.op (.mv (.t 22))), none⟩] [7, 21, 22])
  (.block 0 (.loop (.seq (.seq (.reg none [⟨23, (.op (.mv (.t 10))), none⟩, ⟨24, (.op (.bin .geq (.t 23) (.k (.int .i64 0)))), none⟩] [23])
      (.cond (.t 24)
        .skip
        (.exit 0)))
      (.seq (.block 1 (.seq (.reg none [⟨27, (.op (.mv (.t 8))), none⟩, ⟨28, (.op (.mv (.t 10))), none⟩, ⟨29, (.op (.mv (.t 9))), none⟩, ⟨30, (.op (.ia (.t 27) (.t 28) 1)), none⟩, ⟨0, (.op (.store (.t 30) (.t 29) 1 true)), none⟩] [24, 27, 28, 29, 30])
        (.reg none [⟨31, (.op (.mv (.t 1))), none⟩, ⟨32, (.op (.mv (.t 9))), none⟩, ⟨33, (.op (.ia (.t 31) (.t 32) 1)), none⟩, ⟨34, (.op (.load (.t 33) 1 false)), none⟩, ⟨35, (.op (.bin .sub (.t 34) (.k (.int .i64 1)))), none⟩, ⟨9, (.op (.mv (.t 35))), none⟩] [31, 32, 33, 34, 35])))
      (.reg none [⟨25, (.op (.mv (.t 10))), none⟩, ⟨26, (.op (.bin .sub (.t 25) (.k (.int .i64 1)))), none⟩, ⟨10, (.op (.mv (.t 26))), none⟩] [25, 26]))))))
  (.seq (.reg none [⟨36, (.op (.mv (.t 8))), none⟩, ⟨6, (.op (.mv (.t 36))), none⟩] [1, 9, 10, 24])
  .ret))))))
theorem k_expr_operands : fnOk Tryz.prog Tryz.f86 c_expr_operands 37 3 [.t 6] = true := by kernel_rfl
theorem u_expr_operands : Tryz.prog.funcs[n_expr_operands]? = some Tryz.f86 := Tryz.func86
/-- guerdon/expr.typeOf -/
def c_expr_typeOf : FC :=
  (.seq (.reg none [⟨3, (.op (.box (.t 0))), none⟩, ⟨5, (.op (.box (.t 2))), none⟩, ⟨6, (.op (.alloc [(.int .i64 0), (.int .i64 0)])), none⟩, ⟨7, (.op (.mv (.k (.int .i64 0)))), none⟩] [0, 2, 7])
  (.seq (.seq (.reg none [⟨12, (.op (.load (.t 3) 2 true)), none⟩, ⟨13, (.callL n_expr_number [.t 12]), none⟩, ⟨8, (.op (.mvP true (.t 13))), none⟩] [12, 13])
  (.seq (.reg none [⟨14, (.op (.mv (.t 8))), none⟩, ⟨15, (.op (.bin .neq (.t 14) (.k (.int .i64 0)))), none⟩] [14])
  (.cond (.t 15)
    (.seq (.reg none [⟨16, (.op (.build [(.int .i64 0), (.int .i64 0)] [] [])), none⟩, ⟨17, (.op (.mv (.t 8))), none⟩, ⟨0, (.op (.store (.t 6) (.t 16) 2 true)), none⟩, ⟨7, (.op (.mv (.t 17))), none⟩] [1, 3, 5, 8, 15, 16, 17])
    .ret)
    .skip)))
  (.seq (.seq (.reg none [⟨18, (.op (.mv (.t 1))), none⟩, ⟨19, (.op (.len (.t 18))), none⟩, ⟨20, (.op (.bin .eql (.t 19) (.k (.int .i64 0)))), none⟩] [8, 15, 18, 19])
  (.cond (.t 20)
    (.seq (.reg none [⟨21, (.op (.load (.t 3) 2 true)), none⟩, ⟨22, (.op (.loadM true (.t 5) 6 true)), none⟩, ⟨23, (.callL n_expr_leaf [.t 21, .t 22]), none⟩, ⟨24, (.op (.extract 23 0)), none⟩, ⟨25, (.op (.extract 23 1)), none⟩, ⟨0, (.op (.store (.t 6) (.t 24) 2 true)), none⟩, ⟨7, (.op (.mvP true (.t 25))), none⟩] [1, 3, 5, 20, 21, 22, 23, 24, 25])
    .ret)
    .skip))
  (.seq (.reg none [⟨9, (.op (.alloc [(.int .i64 0), (.int .i64 0)])), none⟩] [20])
  (.seq (.seq (.reg none [⟨26, (.op (.fa (.t 3) 0)), none⟩, ⟨27, (.op (.load (.t 26) 1 false)), none⟩, ⟨28, (.op (.bin .eql (.t 27) (.k (.int .i64 33)))), none⟩, ⟨29, (.op (.mv (.t 28))), none⟩, ⟨30, (.op (.fa (.t 3) 0)), some (29, false)⟩, ⟨31, (.op (.load (.t 30) 1 false)), some (29, false)⟩, ⟨32, (.op (.bin .eql (.t 31) (.k (.int .i64 34)))), some (29, false)⟩, ⟨33, (.op (.pick (.t 29) (.k (.bool true)) (.t 32))), none⟩] [26, 27, 28, 29, 30, 31, 32])
  (.cond (.t 33)
    (.seq (.reg none [⟨35, (.op (.load (.t 3) 2 true)), none⟩, ⟨36, (.op (.load (.t 5) 6 true)), none⟩, ⟨37, (.callL n_expr_table [.t 35, .t 36]), none⟩, ⟨34, (.op (.mvP true (.t 37))), none⟩, ⟨38, (.op (.extract 34 0)), none⟩, ⟨39, (.op (.extract 34 1)), none⟩, ⟨10, (.op (.alloc [(.str []), (.int .i64 0), (.int .i64 0), (.int .i64 0), (.int .i64 0), (.sl true [])])), none⟩, ⟨0, (.op (.store (.t 10) (.t 38) 6 true)), none⟩, ⟨11, (.op (.mvP true (.t 39))), none⟩] [33, 34, 35, 36, 37, 38, 39])
    (.seq (.seq (.reg none [⟨40, (.op (.mv (.t 11))), none⟩, ⟨41, (.op (.bin .neq (.t 40) (.k (.int .i64 0)))), none⟩] [40])
    (.cond (.t 41)
      (.seq (.reg none [⟨42, (.op (.load (.t 9) 2 true)), none⟩, ⟨43, (.op (.mv (.t 11))), none⟩, ⟨0, (.op (.store (.t 6) (.t 42) 2 true)), none⟩, ⟨7, (.op (.mv (.t 43))), none⟩] [1, 3, 5, 9, 10, 11, 41, 42, 43])
      .ret)
      .skip))
    (.seq (.seq (.reg (some 22) [⟨44, (.op (.fa (.t 10) 1)), none⟩, ⟨45, (.op (.load (.t 44) 2 true)), none⟩, ⟨46, (.op (.fa (.t 5) 0)), none⟩, ⟨47, (.op (.load (.t 46) 1 false)), none⟩, ⟨48, (.callL n_value_ValidType [.t 45, .t 47]), none⟩, ⟨49, (.op (.un .not (.t 48))), none⟩, ⟨50, (.op (.mv (.t 49))), none⟩, ⟨51, (.op (.fa (.t 10) 3)), some (50, false)⟩, ⟨52, (.op (.load (.t 51) 2 true)), some (50, false)⟩, ⟨53, (.op (.fa (.t 5) 0)), some (50, false)⟩, ⟨54, (.op (.load (.t 53) 1 false)), some (50, false)⟩, ⟨55, (.callL n_value_ValidType [.t 52, .t 54]), some (50, false)⟩, ⟨56, (.op (.un .not (.t 55))), some (50, false)⟩, ⟨57, (.op (.pick (.t 50) (.k (.bool true)) (.t 56))), none⟩, ⟨58, (.op (.mv (.t 57))), none⟩, ⟨59, (.op (.mv (.t 1))), some (58, false)⟩, ⟨60, (.op (.ia (.t 59) (.k (.int .i64 0)) 2)), some (58, false)⟩, ⟨61, (.op (.load (.t 60) 2 true)), some (58, false)⟩, ⟨62, (.op (.fa (.t 10) 1)), some (58, false)⟩, ⟨63, (.op (.load (.t 62) 2 true)), some (58, false)⟩, ⟨64, (.op (.eqS true [0, 0] (.t 61) (.t 63))), some (58, false)⟩, ⟨65, (.op (.pick (.t 58) (.k (.bool true)) (.t 64))), none⟩] [1, 5, 11, 41, 44, 45, 46, 47, 48, 49, 50, 51, 52, 53, 54, 55, 56, 57, 58, 59, 60, 61, 62, 63, 64])
    (.cond (.t 65)
      (.seq (.reg none [⟨66, (.op (.load (.t 9) 2 true)), none⟩, ⟨0, (.op (.store (.t 6) (.t 66) 2 true)), none⟩, ⟨7, (.op (.mv (.k (.int .i64 8)))), none⟩] [3, 9, 10, 65, 66])
      .ret)
      .skip))
    (.seq (.seq (.reg none [⟨67, (.op (.fa (.t 3) 0)), none⟩, ⟨68, (.op (.load (.t 67) 1 false)), none⟩, ⟨69, (.op (.bin .eql (.t 68) (.k (.int .i64 33)))), none⟩] [3, 65, 67, 68])
    (.cond (.t 69)
      (.seq (.reg none [⟨70, (.op (.fa (.t 10) 3)), none⟩, ⟨71, (.op (.load (.t 70) 2 true)), none⟩, ⟨0, (.op (.store (.t 6) (.t 71) 2 true)), none⟩, ⟨7, (.op (.mv (.k (.int .i64 0)))), none⟩] [9, 10, 69, 70, 71])
      .ret)
      .skip))
    (.seq (.seq (.reg none [⟨72, (.op (.fa (.t 10) 1)), none⟩, ⟨73, (.op (.fa (.t 72) 0)), none⟩, ⟨74, (.op (.load (.t 73) 1 false)), none⟩, ⟨75, (.op (.bin .neq (.t 74) (.k (.int .i64 3)))), none⟩, ⟨76, (.op (.mv (.t 75))), none⟩, ⟨77, (.op (.fa (.t 10) 3)), some (76, false)⟩, ⟨78, (.op (.fa (.t 77) 0)), some (76, false)⟩, ⟨79, (.op (.load (.t 78) 1 false)), some (76, false)⟩, ⟨80, (.op (.bin .neq (.t 79) (.k (.int .i64 4)))), some (76, false)⟩, ⟨81, (.op (.pick (.t 76) (.k (.bool true)) (.t 80))), none⟩] [10, 69, 72, 73, 74, 75, 76, 77, 78, 79, 80])
    (.cond (.t 81)
      (.seq (.reg none [⟨82, (.op (.load (.t 9) 2 true)), none⟩, ⟨0, (.op (.store (.t 6) (.t 82) 2 true)), none⟩, ⟨7, (.op (.mv (.k (.int .i64 8)))), none⟩] [9, 81, 82])
      .ret)
      .skip))
    (.seq (.reg none [⟨83, (.op (.build [(.int .i64 0), (.int .i64 0)] [(0, 1)] [.k (.int .i64 3)])), none⟩, ⟨0, (.op (.store (.t 6) (.t 83) 2 true)), none⟩, ⟨7, (.op (.mv (.k (.int .i64 0)))), none⟩] [9, 81, 83])
    .ret))))))
    .skip))
  (.seq (.seq (.reg none [⟨84, (.op (.fa (.t 3) 0)), none⟩, ⟨85, (.op (.load (.t 84) 1 false)), none⟩, ⟨86, (.op (.mv (.t 1))), none⟩, ⟨87, (.callL n_expr_result [.t 85, .t 86]), none⟩, ⟨0, (.op (.store (.t 9) (.t 87) 2 true)), none⟩] [1, 3, 5, 33, 84, 85, 86, 87])
  (.seq (.reg none [⟨88, (.op (.fa (.t 9) 0)), none⟩, ⟨89, (.op (.load (.t 88) 1 false)), none⟩, ⟨90, (.op (.bin .eql (.t 89) (.k (.int .i64 0)))), none⟩] [88, 89])
  (.cond (.t 90)
    (.seq (.reg none [⟨91, (.op (.load (.t 9) 2 true)), none⟩, ⟨0, (.op (.store (.t 6) (.t 91) 2 true)), none⟩, ⟨7, (.op (.mv (.k (.int .i64 8)))), none⟩] [9, 90, 91])
    .ret)
    .skip)))
  (.seq (.reg none [⟨92, (.op (.load (.t 9) 2 true)), none⟩, ⟨0, (.op (.store (.t 6) (.t 92) 2 true)), none⟩, ⟨7, (.op (.mv (.k (.int .i64 0)))), none⟩] [9, 90, 92])
  .ret)))))))
theorem k_expr_typeOf : fnOk Tryz.prog Tryz.f87 c_expr_typeOf 93 3 [.c 6 2 true, .t 7] = true := by kernel_rfl
theorem u_expr_typeOf : Tryz.prog.funcs[n_expr_typeOf]? = some Tryz.f87 := Tryz.func87
/-- guerdon/deps.valid -/
def c_deps_valid : FC :=
  (.seq (.reg none [⟨2, (.op (.box (.t 0))), none⟩, ⟨4, (.op (.mv (.k (.bool false)))), none⟩] [0, 4])
  (.seq (.reg none [⟨5, (.op (.mv (.t 1))), none⟩, ⟨6, (.op (.bin .geq (.t 5) (.k (.int .i64 0)))), none⟩, ⟨7, (.op (.mv (.t 6))), none⟩, ⟨8, (.op (.mv (.t 1))), some (7, true)⟩, ⟨9, (.op (.fa (.t 2) 3)), some (7, true)⟩, ⟨10, (.op (.load (.t 9) 1 false)), some (7, true)⟩, ⟨11, (.op (.len (.t 10))), some (7, true)⟩, ⟨12, (.op (.bin .lss (.t 8) (.t 11))), some (7, true)⟩, ⟨13, (.op (.pick (.t 7) (.t 12) (.k (.bool false)))), none⟩, ⟨4, (.op (.mv (.t 13))), none⟩] [1, 2, 5, 6, 7, 8, 9, 10, 11, 12, 13])
  .ret))
theorem k_deps_valid : fnOk Tryz.prog Tryz.f88 c_deps_valid 14 2 [.t 4] = true := by kernel_rfl
theorem u_deps_valid : Tryz.prog.funcs[n_deps_valid]? = some Tryz.f88 := Tryz.func88
/-- guerdon/expr.References -/
def c_expr_References : FC :=
  (.seq (.reg none [⟨2, (.op (.mv (.k (.arr [])))), none⟩, ⟨3, (.op (.mv (.k (.arr [])))), none⟩, ⟨4, (.op (.mv (.k (.arr [])))), none⟩] [2, 3, 4])
  (.seq (.reg none [⟨5, (.op (.mv (.k (.arr [])))), none⟩, ⟨6, (.op (.mv (.k (.arr [])))), none⟩, ⟨7, (.op (.mv (.k (.arr [])))), none⟩] [])
  (.seq (.seq (.reg none [⟨11, (.op (.mv (.t 0))), none⟩, ⟨12, (.op (.len (.t 11))), none⟩, ⟨13, (.op (.mv (.k (.int .i64 0)))), none⟩] [])
  (.block 0 (.loop (.seq (.reg none [⟨14, (.op (.bin .lss (.t 13) (.t 12))), none⟩] [])
      (.seq (.cond (.t 14)
        .skip
        (.exit 0))
      (.seq (.block 1 (.seq (.reg none [⟨15, (.op (.ia (.t 11) (.t 13) 2)), none⟩, ⟨16, (.op (.load (.t 15) 2 true)), none⟩, ⟨9, (.op (.alloc [(.int .i64 0), (.int .i64 0)])), none⟩, ⟨0, (.op (.store (.t 9) (.t 16) 2 true)), none⟩] [14, 15, 16])
        (.seq (.reg none [⟨17, (.op (.fa (.t 9) 0)), none⟩, ⟨18, (.op (.load (.t 17) 1 false)), none⟩] [17])
        (.block 2 (.seq (.reg none [⟨20, (.op (.bin .eql (.t 18) (.k (.int .i64 7)))), none⟩, ⟨19, (.op (.mv (.t 20))), none⟩] [20])
          (.cond (.t 19)
            (.reg none [⟨21, (.op (.mv (.t 5))), none⟩, ⟨22, (.op (.fa (.t 9) 1)), none⟩, ⟨23, (.op (.load (.t 22) 1 false)), none⟩, ⟨24, (.op (.buildSl [(.int .i64 0)] 1 [0] [.t 23])), none⟩, ⟨25, (.op (.app (.t 21) (.t 24) 1 8)), none⟩, ⟨5, (.op (.mvP true (.t 25))), none⟩] [9, 18, 19, 21, 22, 23, 24, 25])
            (.seq (.reg none [⟨27, (.op (.bin .eql (.t 18) (.k (.int .i64 8)))), none⟩, ⟨26, (.op (.mv (.t 27))), none⟩] [19, 27])
            (.cond (.t 26)
              (.reg none [⟨28, (.op (.mv (.t 6))), none⟩, ⟨29, (.op (.fa (.t 9) 1)), none⟩, ⟨30, (.op (.load (.t 29) 1 false)), none⟩, ⟨31, (.op (.buildSl [(.int .i64 0)] 1 [0] [.t 30])), none⟩, ⟨32, (.op (.app (.t 28) (.t 31) 1 8)), none⟩, ⟨6, (.op (.mvP true (.t 32))), none⟩] [9, 18, 26, 28, 29, 30, 31, 32])
              (.seq (.seq (.reg none [⟨34, (.op (.bin .eql (.t 18) (.k (.int .i64 36)))), none⟩, ⟨33, (.op (.mv (.t 34))), none⟩] [26, 34])
              (.cond (.t 33)
                .skip
                (.seq (.reg none [⟨35, (.op (.bin .eql (.t 18) (.k (.int .i64 37)))), none⟩, ⟨33, (.op (.mv (.t 35))), none⟩] [35])
                (.cond (.t 33)
                  .skip
                  (.seq (.reg none [⟨36, (.op (.bin .eql (.t 18) (.k (.int .i64 38)))), none⟩, ⟨33, (.op (.mv (.t 36))), none⟩] [36])
                  (.cond (.t 33)
                    .skip
                    (.reg none [⟨37, (.op (.bin .eql (.t 18) (.k (.int .i64 39)))), none⟩, ⟨33, (.op (.mv (.t 37))), none⟩] [18, 37])))))))
              (.cond (.t 33)
                (.reg none [⟨38, (.op (.mv (.t 7))), none⟩, ⟨39, (.op (.fa (.t 9) 1)), none⟩, ⟨40, (.op (.load (.t 39) 1 false)), none⟩, ⟨41, (.op (.buildSl [(.int .i64 0)] 1 [0] [.t 40])), none⟩, ⟨42, (.op (.app (.t 38) (.t 41) 1 8)), none⟩, ⟨7, (.op (.mvP true (.t 42))), none⟩] [9, 18, 33, 38, 39, 40, 41, 42])
                .skip))))))))))
      (.reg none [⟨43, (.op (.bin .add (.t 13) (.k (.int .i64 1)))), none⟩, ⟨13, (.op (.mv (.t 43))), none⟩] [9, 18, 33, 43])))))))
  (.seq (.reg none [⟨10, (.op (.mv (.k (.fn n_expr_References_1 [])))), none⟩] [0, 11, 12, 13, 14])
  (.seq (.reg none [⟨44, (.op (.mv (.t 10))), none⟩, ⟨45, (.op (.mv (.t 5))), none⟩, ⟨46, (.callF (.t 44) [(true, .t 45)]), none⟩, ⟨47, (.op (.mv (.t 10))), none⟩, ⟨48, (.op (.mv (.t 6))), none⟩, ⟨49, (.callF (.t 47) [(true, .t 48)]), none⟩, ⟨50, (.op (.mv (.t 10))), none⟩, ⟨51, (.op (.mv (.t 7))), none⟩, ⟨52, (.callF (.t 50) [(true, .t 51)]), none⟩, ⟨2, (.op (.mvP true (.t 46))), none⟩, ⟨3, (.op (.mvP true (.t 49))), none⟩, ⟨4, (.op (.mvP true (.t 52))), none⟩] [5, 6, 7, 10, 44, 45, 46, 47, 48, 49, 50, 51, 52])
  .ret)))))
theorem k_expr_References : fnOk Tryz.prog Tryz.f89 c_expr_References 53 1 [.t 2, .t 3, .t 4] = true := by kernel_rfl
theorem u_expr_References : Tryz.prog.funcs[n_expr_References]? = some Tryz.f89 := Tryz.func89
/-- slices.IndexFunc[[]int,int] -/
def c_slices_IndexFunc_int_int : FC :=
  (.seq (.reg none [⟨4, (.op (.mv (.k (.int .i64 0)))), none⟩] [4])
  (.seq (.seq (.reg none [⟨6, (.op (.mv (.t 0))), none⟩, ⟨7, (.op (.len (.t 6))), none⟩, ⟨8, (.op (.mv (.k (.int .i64 0)))), none⟩] [6])
  (.block 0 (.loop (.seq (.reg none [⟨9, (.op (.bin .lss (.t 8) (.t 7))), none⟩] [])
      (.seq (.cond (.t 9)
        .skip
        (.exit 0))
      (.seq (.block 1 (.seq (.reg none [⟨10, (.op (.mv (.t 8))), none⟩, ⟨5, (.op (.mv (.t 10))), none⟩] [9, 10])
        (.seq (.reg none [⟨11, (.op (.mv (.t 1))), none⟩, ⟨12, (.op (.mv (.t 0))), none⟩, ⟨13, (.op (.mv (.t 5))), none⟩, ⟨14, (.op (.ia (.t 12) (.t 13) 1)), none⟩, ⟨15, (.op (.load (.t 14) 1 false)), none⟩, ⟨16, (.callV (.t 11) [.t 15]), none⟩] [11, 12, 13, 14, 15])
        (.cond (.t 16)
          (.seq (.reg none [⟨17, (.op (.mv (.t 5))), none⟩, ⟨4, (.op (.mv (.t 17))), none⟩] [0, 1, 5, 7, 8, 16, 17])
          .ret)
          .skip))))
      (.reg none [⟨18, (.op (.bin .add (.t 8) (.k (.int .i64 1)))), none⟩, ⟨8, (.op (.mv (.t 18))), none⟩] [5, 16, 18])))))))
  (.seq (.reg none [⟨4, (.op (.mv (.k (.int .i64 (-1))))), none⟩] [0, 1, 7, 8, 9])
  .ret)))
theorem k_slices_IndexFunc_int_int : fnOk Tryz.prog Tryz.f92 c_slices_IndexFunc_int_int 19 2 [.t 4] = true := by kernel_rfl
theorem u_slices_IndexFunc_int_int : Tryz.prog.funcs[n_slices_IndexFunc_int_int]? = some Tryz.f92 := Tryz.func92
/-- slices.Equal[[]string,string] -/
def c_slices_Equal_string_string : FC :=
  (.seq (.reg none [⟨4, (.op (.mv (.k (.bool false)))), none⟩] [4])
  (.seq (.seq (.reg none [⟨6, (.op (.mv (.t 0))), none⟩, ⟨7, (.op (.len (.t 6))), none⟩, ⟨8, (.op (.mv (.t 1))), none⟩, ⟨9, (.op (.len (.t 8))), none⟩, ⟨10, (.op (.bin .neq (.t 7) (.t 9))), none⟩] [6, 7, 8, 9])
  (.cond (.t 10)
    (.seq (.reg none [⟨4, (.op (.mv (.k (.bool false)))), none⟩] [0, 1, 10])
    .ret)
    .skip))
  (.seq (.seq (.reg none [⟨11, (.op (.mv (.t 0))), none⟩, ⟨12, (.op (.len (.t 11))), none⟩, ⟨13, (.op (.mv (.k (.int .i64 0)))), none⟩] [10, 11])
  (.block 0 (.loop (.seq (.reg none [⟨14, (.op (.bin .lss (.t 13) (.t 12))), none⟩] [])
      (.seq (.cond (.t 14)
        .skip
        (.exit 0))
      (.seq (.block 1 (.seq (.reg none [⟨15, (.op (.mv (.t 13))), none⟩, ⟨5, (.op (.mv (.t 15))), none⟩] [14, 15])
        (.seq (.reg (some 9) [⟨16, (.op (.mv (.t 0))), none⟩, ⟨17, (.op (.mv (.t 5))), none⟩, ⟨18, (.op (.ia (.t 16) (.t 17) 1)), none⟩, ⟨19, (.op (.load (.t 18) 1 false)), none⟩, ⟨20, (.op (.mv (.t 1))), none⟩, ⟨21, (.op (.mv (.t 5))), none⟩, ⟨22, (.op (.ia (.t 20) (.t 21) 1)), none⟩, ⟨23, (.op (.load (.t 22) 1 false)), none⟩, ⟨24, (.op (.bin .neq (.t 19) (.t 23))), none⟩] [5, 16, 17, 18, 19, 20, 21, 22, 23])
        (.cond (.t 24)
          (.seq (.reg none [⟨4, (.op (.mv (.k (.bool false)))), none⟩] [0, 1, 12, 13, 24])
          .ret)
          .skip))))
      (.reg none [⟨25, (.op (.bin .add (.t 13) (.k (.int .i64 1)))), none⟩, ⟨13, (.op (.mv (.t 25))), none⟩] [24, 25])))))))
  (.seq (.reg none [⟨4, (.op (.mv (.k (.bool true)))), none⟩] [0, 1, 12, 13, 14])
  .ret))))
theorem k_slices_Equal_string_string : fnOk Tryz.prog Tryz.f93 c_slices_Equal_string_string 26 2 [.t 4] = true := by kernel_rfl
theorem u_slices_Equal_string_string : Tryz.prog.funcs[n_slices_Equal_string_string]? = some Tryz.f93 := Tryz.func93
/-- slices.Equal[[]guerdon/api.Row,guerdon/api.Row] -/
def c_slices_Equal_api_Row_api_Row : FC :=
  (.seq (.reg none [⟨4, (.op (.mv (.k (.bool false)))), none⟩] [4])
  (.seq (.seq (.reg none [⟨6, (.op (.mv (.t 0))), none⟩, ⟨7, (.op (.len (.t 6))), none⟩, ⟨8, (.op (.mv (.t 1))), none⟩, ⟨9, (.op (.len (.t 8))), none⟩, ⟨10, (.op (.bin .neq (.t 7) (.t 9))), none⟩] [6, 7, 8, 9])
  (.cond (.t 10)
    (.seq (.reg none [⟨4, (.op (.mv (.k (.bool false)))), none⟩] [0, 1, 10])
    .ret)
    .skip))
  (.seq (.seq (.reg none [⟨11, (.op (.mv (.t 0))), none⟩, ⟨12, (.op (.len (.t 11))), none⟩, ⟨13, (.op (.mv (.k (.int .i64 0)))), none⟩] [10, 11])
  (.block 0 (.loop (.seq (.reg none [⟨14, (.op (.bin .lss (.t 13) (.t 12))), none⟩] [])
      (.seq (.cond (.t 14)
        .skip
        (.exit 0))
      (.seq (.block 1 (.seq (.reg none [⟨15, (.op (.mv (.t 13))), none⟩, ⟨5, (.op (.mv (.t 15))), none⟩] [14, 15])
        (.seq (.reg (some 9) [⟨16, (.op (.mv (.t 0))), none⟩, ⟨17, (.op (.mv (.t 5))), none⟩, ⟨18, (.op (.ia (.t 16) (.t 17) 5)), none⟩, ⟨19, (.op (.load (.t 18) 5 true)), none⟩, ⟨20, (.op (.mv (.t 1))), none⟩, ⟨21, (.op (.mv (.t 5))), none⟩, ⟨22, (.op (.ia (.t 20) (.t 21) 5)), none⟩, ⟨23, (.op (.load (.t 22) 5 true)), none⟩, ⟨24, (.op (.eqS true [0, 0, 0, 0, 0] (.t 19) (.t 23))), none⟩] [5, 16, 17, 18, 19, 20, 21, 22, 23])
        (.cond (.t 24)
          (.seq (.reg none [⟨4, (.op (.mv (.k (.bool false)))), none⟩] [0, 1, 12, 13, 24])
          .ret)
          .skip))))
      (.reg none [⟨25, (.op (.bin .add (.t 13) (.k (.int .i64 1)))), none⟩, ⟨13, (.op (.mv (.t 25))), none⟩] [24, 25])))))))
  (.seq (.reg none [⟨4, (.op (.mv (.k (.bool true)))), none⟩] [0, 1, 12, 13, 14])
  .ret))))
theorem k_slices_Equal_api_Row_api_Row : fnOk Tryz.prog Tryz.f94 c_slices_Equal_api_Row_api_Row 26 2 [.t 4] = true := by kernel_rfl
theorem u_slices_Equal_api_Row_api_Row : Tryz.prog.funcs[n_slices_Equal_api_Row_api_Row]? = some Tryz.f94 := Tryz.func94
/-- slices.Equal[[]guerdon/api.Field,guerdon/api.Field] -/
def c_slices_Equal_api_Field_api_Field : FC :=
  (.seq (.reg none [⟨4, (.op (.mv (.k (.bool false)))), none⟩] [4])
  (.seq (.seq (.reg none [⟨6, (.op (.mv (.t 0))), none⟩, ⟨7, (.op (.len (.t 6))), none⟩, ⟨8, (.op (.mv (.t 1))), none⟩, ⟨9, (.op (.len (.t 8))), none⟩, ⟨10, (.op (.bin .neq (.t 7) (.t 9))), none⟩] [6, 7, 8, 9])
  (.cond (.t 10)
    (.seq (.reg none [⟨4, (.op (.mv (.k (.bool false)))), none⟩] [0, 1, 10])
    .ret)
    .skip))
  (.seq (.seq (.reg none [⟨11, (.op (.mv (.t 0))), none⟩, ⟨12, (.op (.len (.t 11))), none⟩, ⟨13, (.op (.mv (.k (.int .i64 0)))), none⟩] [10, 11])
  (.block 0 (.loop (.seq (.reg none [⟨14, (.op (.bin .lss (.t 13) (.t 12))), none⟩] [])
      (.seq (.cond (.t 14)
        .skip
        (.exit 0))
      (.seq (.block 1 (.seq (.reg none [⟨15, (.op (.mv (.t 13))), none⟩, ⟨5, (.op (.mv (.t 15))), none⟩] [14, 15])
        (.seq (.reg (some 9) [⟨16, (.op (.mv (.t 0))), none⟩, ⟨17, (.op (.mv (.t 5))), none⟩, ⟨18, (.op (.ia (.t 16) (.t 17) 3)), none⟩, ⟨19, (.op (.load (.t 18) 3 true)), none⟩, ⟨20, (.op (.mv (.t 1))), none⟩, ⟨21, (.op (.mv (.t 5))), none⟩, ⟨22, (.op (.ia (.t 20) (.t 21) 3)), none⟩, ⟨23, (.op (.load (.t 22) 3 true)), none⟩, ⟨24, (.op (.eqS true [2, 0, 0] (.t 19) (.t 23))), none⟩] [5, 16, 17, 18, 19, 20, 21, 22, 23])
        (.cond (.t 24)
          (.seq (.reg none [⟨4, (.op (.mv (.k (.bool false)))), none⟩] [0, 1, 12, 13, 24])
          .ret)
          .skip))))
      (.reg none [⟨25, (.op (.bin .add (.t 13) (.k (.int .i64 1)))), none⟩, ⟨13, (.op (.mv (.t 25))), none⟩] [24, 25])))))))
  (.seq (.reg none [⟨4, (.op (.mv (.k (.bool true)))), none⟩] [0, 1, 12, 13, 14])
  .ret))))
theorem k_slices_Equal_api_Field_api_Field : fnOk Tryz.prog Tryz.f95 c_slices_Equal_api_Field_api_Field 26 2 [.t 4] = true := by kernel_rfl
theorem u_slices_Equal_api_Field_api_Field : Tryz.prog.funcs[n_slices_Equal_api_Field_api_Field]? = some Tryz.f95 := Tryz.func95
/-- slices.EqualFunc[[]guerdon/api.Rule,[]guerdon/api.Rule,guerdon/api.Rule,guerdon/api.Rule] -/
def c_slices_EqualFunc_api_Rule_api_Rule_api_Rule_api_Rule : FC :=
  (.seq (.reg none [⟨6, (.op (.mv (.k (.bool false)))), none⟩] [6])
  (.seq (.seq (.reg none [⟨10, (.op (.mv (.t 0))), none⟩, ⟨11, (.op (.len (.t 10))), none⟩, ⟨12, (.op (.mv (.t 1))), none⟩, ⟨13, (.op (.len (.t 12))), none⟩, ⟨14, (.op (.bin .neq (.t 11) (.t 13))), none⟩] [10, 11, 12, 13])
  (.cond (.t 14)
    (.seq (.reg none [⟨6, (.op (.mv (.k (.bool false)))), none⟩] [0, 1, 2, 14])
    .ret)
    .skip))
  (.seq (.seq (.reg none [⟨15, (.op (.mv (.t 0))), none⟩, ⟨16, (.op (.len (.t 15))), none⟩, ⟨17, (.op (.mv (.k (.int .i64 0)))), none⟩] [14])
  (.block 0 (.loop (.seq (.reg none [⟨18, (.op (.bin .lss (.t 17) (.t 16))), none⟩] [])
      (.seq (.cond (.t 18)
        .skip
        (.exit 0))
      (.seq (.block 1 (.seq (.reg none [⟨19, (.op (.mv (.t 17))), none⟩, ⟨20, (.op (.ia (.t 15) (.t 17) 9)), none⟩, ⟨21, (.op (.load (.t 20) 9 true)), none⟩, ⟨8, (.op (.alloc [(.str []), (.int .i64 0), (.int .i64 0), (.int .i64 0), (.int .i64 0), (.int .i64 0), (.sl true []), (.sl true []), (.str [])])), none⟩, ⟨7, (.op (.mv (.t 19))), none⟩, ⟨0, (.op (.store (.t 8) (.t 21) 9 true)), none⟩] [18, 19, 20, 21])
        (.seq (.reg none [⟨22, (.op (.mv (.t 1))), none⟩, ⟨23, (.op (.mv (.t 7))), none⟩, ⟨24, (.op (.ia (.t 22) (.t 23) 9)), none⟩, ⟨25, (.op (.load (.t 24) 9 true)), none⟩, ⟨9, (.op (.alloc [(.str []), (.int .i64 0), (.int .i64 0), (.int .i64 0), (.int .i64 0), (.int .i64 0), (.sl true []), (.sl true []), (.str [])])), none⟩, ⟨0, (.op (.store (.t 9) (.t 25) 9 true)), none⟩] [7, 22, 23, 24, 25])
        (.seq (.reg none [⟨26, (.op (.mv (.t 2))), none⟩, ⟨27, (.op (.loadM true (.t 8) 9 true)), none⟩, ⟨28, (.op (.loadM true (.t 9) 9 true)), none⟩, ⟨29, (.callV (.t 26) [.t 27, .t 28]), none⟩, ⟨30, (.op (.un .not (.t 29))), none⟩] [8, 9, 26, 27, 28, 29])
        (.cond (.t 30)
          (.seq (.reg none [⟨6, (.op (.mv (.k (.bool false)))), none⟩] [0, 1, 2, 15, 16, 17, 30])
          .ret)
          .skip)))))
      (.reg none [⟨31, (.op (.bin .add (.t 17) (.k (.int .i64 1)))), none⟩, ⟨17, (.op (.mv (.t 31))), none⟩] [30, 31])))))))
  (.seq (.reg none [⟨6, (.op (.mv (.k (.bool true)))), none⟩] [0, 1, 2, 15, 16, 17, 18])
  .ret))))
theorem k_slices_EqualFunc_api_Rule_api_Rule_api_Rule_api_Rule : fnOk Tryz.prog Tryz.f96 c_slices_EqualFunc_api_Rule_api_Rule_api_Rule_api_Rule 32 3 [.t 6] = true := by kernel_rfl
theorem u_slices_EqualFunc_api_Rule_api_Rule_api_Rule_api_Rule : Tryz.prog.funcs[n_slices_EqualFunc_api_Rule_api_Rule_api_Rule_api_Rule]? = some Tryz.f96 := Tryz.func96
/-- guerdon/law.sameRule -/
def c_law_sameRule : FC :=
  (.seq (.reg none [⟨2, (.op (.box (.t 0))), none⟩, ⟨3, (.op (.box (.t 1))), none⟩, ⟨4, (.op (.mv (.k (.bool false)))), none⟩] [0, 1, 4])
  (.seq (.reg none [⟨5, (.op (.fa (.t 2) 0)), none⟩, ⟨6, (.op (.load (.t 5) 1 false)), none⟩, ⟨7, (.op (.fa (.t 3) 0)), none⟩, ⟨8, (.op (.load (.t 7) 1 false)), none⟩, ⟨9, (.op (.bin .eql (.t 6) (.t 8))), none⟩, ⟨10, (.op (.mv (.t 9))), none⟩, ⟨11, (.op (.fa (.t 2) 1)), some (10, true)⟩, ⟨12, (.op (.load (.t 11) 1 false)), some (10, true)⟩, ⟨13, (.op (.fa (.t 3) 1)), some (10, true)⟩, ⟨14, (.op (.load (.t 13) 1 false)), some (10, true)⟩, ⟨15, (.op (.bin .eql (.t 12) (.t 14))), some (10, true)⟩, ⟨16, (.op (.pick (.t 10) (.t 15) (.k (.bool false)))), none⟩, ⟨17, (.op (.mv (.t 16))), none⟩, ⟨18, (.op (.fa (.t 2) 2)), some (17, true)⟩, ⟨19, (.op (.load (.t 18) 1 false)), some (17, true)⟩, ⟨20, (.op (.fa (.t 3) 2)), some (17, true)⟩, ⟨21, (.op (.load (.t 20) 1 false)), some (17, true)⟩, ⟨22, (.op (.bin .eql (.t 19) (.t 21))), some (17, true)⟩, ⟨23, (.op (.pick (.t 17) (.t 22) (.k (.bool false)))), none⟩, ⟨24, (.op (.mv (.t 23))), none⟩, ⟨25, (.op (.fa (.t 2) 3)), some (24, true)⟩, ⟨26, (.op (.load (.t 25) 1 false)), some (24, true)⟩, ⟨27, (.op (.fa (.t 3) 3)), some (24, true)⟩, ⟨28, (.op (.load (.t 27) 1 false)), some (24, true)⟩, ⟨29, (.op (.bin .eql (.t 26) (.t 28))), some (24, true)⟩, ⟨30, (.op (.pick (.t 24) (.t 29) (.k (.bool false)))), none⟩, ⟨31, (.op (.mv (.t 30))), none⟩, ⟨32, (.op (.fa (.t 2) 4)), some (31, true)⟩, ⟨33, (.op (.load (.t 32) 2 true)), some (31, true)⟩, ⟨34, (.op (.fa (.t 3) 4)), some (31, true)⟩, ⟨35, (.op (.load (.t 34) 2 true)), some (31, true)⟩, ⟨36, (.op (.eqS false [0, 0] (.t 33) (.t 35))), some (31, true)⟩, ⟨37, (.op (.pick (.t 31) (.t 36) (.k (.bool false)))), none⟩, ⟨38, (.op (.mv (.t 37))), none⟩, ⟨39, (.op (.fa (.t 2) 6)), some (38, true)⟩, ⟨40, (.op (.load (.t 39) 1 false)), some (38, true)⟩, ⟨41, (.op (.fa (.t 3) 6)), some (38, true)⟩, ⟨42, (.op (.load (.t 41) 1 false)), some (38, true)⟩, ⟨43, (.callL n_slices_Equal_api_Node_api_Node [.t 40, .t 42]), some (38, true)⟩, ⟨44, (.op (.pick (.t 38) (.t 43) (.k (.bool false)))), none⟩, ⟨45, (.op (.mv (.t 44))), none⟩, ⟨46, (.op (.fa (.t 2) 7)), some (45, true)⟩, ⟨47, (.op (.load (.t 46) 1 false)), some (45, true)⟩, ⟨48, (.op (.fa (.t 3) 7)), some (45, true)⟩, ⟨49, (.op (.load (.t 48) 1 false)), some (45, true)⟩, ⟨50, (.callL n_slices_Equal_api_Node_api_Node [.t 47, .t 49]), some (45, true)⟩, ⟨51, (.op (.pick (.t 45) (.t 50) (.k (.bool false)))), none⟩, ⟨52, (.op (.mv (.t 51))), none⟩, ⟨53, (.op (.fa (.t 2) 8)), some (52, true)⟩, ⟨54, (.op (.load (.t 53) 1 false)), some (52, true)⟩, ⟨55, (.op (.fa (.t 3) 8)), some (52, true)⟩, ⟨56, (.op (.load (.t 55) 1 false)), some (52, true)⟩, ⟨57, (.op (.bin .eql (.t 54) (.t 56))), some (52, true)⟩, ⟨58, (.op (.pick (.t 52) (.t 57) (.k (.bool false)))), none⟩, ⟨4, (.op (.mv (.t 58))), none⟩] [2, 3, 5, 6, 7, 8, 9, 10, 11, 12, 13, 14, 15, 16, 17, 18, 19, 20, 21, 22, 23, 24, 25, 26, 27, 28, 29, 30, 31, 32, 33, 34, 35, 36, 37, 38, 39, 40, 41, 42, 43, 44, 45, 46, 47, 48, 49, 50, 51, 52, 53, 54, 55, 56, 57, 58])
  .ret))
theorem k_law_sameRule : fnOk Tryz.prog Tryz.f97 c_law_sameRule 59 2 [.t 4] = true := by kernel_rfl
theorem u_law_sameRule : Tryz.prog.funcs[n_law_sameRule]? = some Tryz.f97 := Tryz.func97
/-- guerdon/guerdonsame.Scopes -/
def c_same_Scopes : FC :=
  (.seq (.reg none [⟨4, (.op (.mv (.k (.bool false)))), none⟩] [4])
  (.seq (.seq (.reg none [⟨6, (.op (.mv (.t 0))), none⟩, ⟨7, (.op (.len (.t 6))), none⟩, ⟨8, (.op (.mv (.t 1))), none⟩, ⟨9, (.op (.len (.t 8))), none⟩, ⟨10, (.op (.bin .neq (.t 7) (.t 9))), none⟩] [6, 7, 8, 9])
  (.cond (.t 10)
    (.seq (.reg none [⟨4, (.op (.mv (.k (.bool false)))), none⟩] [0, 1, 10])
    .ret)
    .skip))
  (.seq (.seq (.reg none [⟨5, (.op (.mv (.k (.int .i64 0)))), none⟩] [10])
  (.block 0 (.loop (.seq (.seq (.reg none [⟨11, (.op (.mv (.t 5))), none⟩, ⟨12, (.op (.mv (.t 0))), none⟩, ⟨13, (.op (.len (.t 12))), none⟩, ⟨14, (.op (.bin .lss (.t 11) (.t 13))), none⟩, ⟨15, (.op (.mv (.t 14))), none⟩, ⟨16, (.op (.mv (.t 5))), some (15, true)⟩, ⟨17, (.op (.mv (.t 1))), some (15, true)⟩, ⟨18, (.op (.len (.t 17))), some (15, true)⟩, ⟨19, (.op (.bin .lss (.t 16) (.t 18))), some (15, true)⟩, ⟨20, (.op (.pick (.t 15) (.t 19) (.k (.bool false)))), none⟩] [11, 12, 13, 14, 15, 16, 17, 18, 19])
      (.cond (.t 20)
        .skip
        (.exit 0)))
      (.seq (.block 1 (.seq (.reg (some 10) [⟨23, (.op (.mv (.t 0))), none⟩, ⟨24, (.op (.mv (.t 5))), none⟩, ⟨25, (.op (.ia (.t 23) (.t 24) 5)), none⟩, ⟨26, (.op (.load (.t 25) 5 true)), none⟩, ⟨27, (.op (.mv (.t 1))), none⟩, ⟨28, (.op (.mv (.t 5))), none⟩, ⟨29, (.op (.ia (.t 27) (.t 28) 5)), none⟩, ⟨30, (.op (.load (.t 29) 5 true)), none⟩, ⟨31, (.callL n_same_Scope [.t 26, .t 30]), none⟩, ⟨32, (.op (.un .not (.t 31))), none⟩] [20, 23, 24, 25, 26, 27, 28, 29, 30, 31])
        (.cond (.t 32)
          (.seq (.reg none [⟨4, (.op (.mv (.k (.bool false)))), none⟩] [0, 1, 5, 32])
          .ret)
          .skip)))
      (.reg none [⟨21, (.op (.mv (.t 5))), none⟩, ⟨22, (.op (.bin .add (.t 21) (.k (.int .i64 1)))), none⟩, ⟨5, (.op (.mv (.t 22))), none⟩] [21, 22, 32]))))))
  (.seq (.reg none [⟨4, (.op (.mv (.k (.bool true)))), none⟩] [0, 1, 5, 20])
  .ret))))
theorem k_same_Scopes : fnOk Tryz.prog Tryz.f98 c_same_Scopes 33 2 [.t 4] = true := by kernel_rfl
theorem u_same_Scopes : Tryz.prog.funcs[n_same_Scopes]? = some Tryz.f98 := Tryz.func98
/-- guerdon/daterange.Valid -/
def c_daterange_Valid : FC :=
  (.seq (.reg none [⟨1, (.op (.box (.t 0))), none⟩, ⟨2, (.op (.mv (.k (.bool false)))), none⟩] [0, 2])
  (.seq (.reg none [⟨3, (.op (.fa (.t 1) 0)), none⟩, ⟨4, (.op (.load (.t 3) 1 false)), none⟩, ⟨5, (.op (.bin .leq (.k (.int .i64 0)) (.t 4))), none⟩, ⟨6, (.op (.mv (.t 5))), none⟩, ⟨7, (.op (.fa (.t 1) 0)), some (6, true)⟩, ⟨8, (.op (.load (.t 7) 1 false)), some (6, true)⟩, ⟨9, (.op (.fa (.t 1) 1)), some (6, true)⟩, ⟨10, (.op (.load (.t 9) 1 false)), some (6, true)⟩, ⟨11, (.op (.bin .leq (.t 8) (.t 10))), some (6, true)⟩, ⟨12, (.op (.pick (.t 6) (.t 11) (.k (.bool false)))), none⟩, ⟨13, (.op (.mv (.t 12))), none⟩, ⟨14, (.op (.fa (.t 1) 1)), some (13, true)⟩, ⟨15, (.op (.load (.t 14) 1 false)), some (13, true)⟩, ⟨16, (.op (.bin .leq (.t 15) (.k (.int .i64 109573)))), some (13, true)⟩, ⟨17, (.op (.pick (.t 13) (.t 16) (.k (.bool false)))), none⟩, ⟨2, (.op (.mv (.t 17))), none⟩] [1, 3, 4, 5, 6, 7, 8, 9, 10, 11, 12, 13, 14, 15, 16, 17])
  .ret))
theorem k_daterange_Valid : fnOk Tryz.prog Tryz.f99 c_daterange_Valid 18 1 [.t 2] = true := by kernel_rfl
theorem u_daterange_Valid : Tryz.prog.funcs[n_daterange_Valid]? = some Tryz.f99 := Tryz.func99
/-- guerdon/effective.ancestor -/
def c_effective_ancestor : FC :=
  (.seq (.reg none [⟨3, (.op (.box (.t 0))), none⟩, ⟨6, (.op (.mv (.k (.int .i64 0)))), none⟩] [0, 6])
  (.block 0 (.loop (.block 1 (.seq (.reg none [⟨9, (.op (.fa (.t 3) 4)), none⟩, ⟨10, (.op (.load (.t 9) 1 false)), none⟩, ⟨11, (.op (.mv (.t 1))), none⟩, ⟨12, (.op (.ia (.t 10) (.t 11) 9)), none⟩, ⟨13, (.op (.fa (.t 12) 2)), none⟩, ⟨14, (.op (.load (.t 13) 1 false)), none⟩, ⟨7, (.op (.mv (.t 14))), none⟩] [9, 10, 11, 12, 13, 14])
        (.seq (.seq (.reg none [⟨15, (.op (.mv (.t 7))), none⟩, ⟨16, (.op (.bin .lss (.t 15) (.k (.int .i64 0)))), none⟩, ⟨17, (.op (.mv (.t 16))), none⟩, ⟨18, (.op (.mv (.t 7))), some (17, false)⟩, ⟨19, (.op (.mv (.t 1))), some (17, false)⟩, ⟨20, (.op (.bin .geq (.t 18) (.t 19))), some (17, false)⟩, ⟨21, (.op (.pick (.t 17) (.k (.bool true)) (.t 20))), none⟩] [1, 15, 16, 17, 18, 19, 20])
        (.cond (.t 21)
          (.seq (.reg none [⟨6, (.op (.mv (.k (.int .i64 (-1))))), none⟩] [2, 3, 7, 21])
          .ret)
          .skip))
        (.seq (.seq (.reg none [⟨22, (.op (.mv (.t 2))), none⟩, ⟨23, (.op (.mv (.t 7))), none⟩, ⟨24, (.callL n_slices_Index_int_int [.t 22, .t 23]), none⟩, ⟨8, (.op (.mvP true (.t 24))), none⟩] [21, 22, 23, 24])
        (.seq (.reg none [⟨25, (.op (.mv (.t 8))), none⟩, ⟨26, (.op (.bin .geq (.t 25) (.k (.int .i64 0)))), none⟩] [25])
        (.cond (.t 26)
          (.seq (.reg none [⟨27, (.op (.mv (.t 8))), none⟩, ⟨6, (.op (.mv (.t 27))), none⟩] [2, 3, 7, 8, 26, 27])
          .ret)
          .skip)))
        (.reg none [⟨28, (.op (.mv (.t 7))), none⟩, ⟨1, (.op (.mv (.t 28))), none⟩] [7, 8, 26, 28]))))))))
theorem k_effective_ancestor : fnOk Tryz.prog Tryz.f100 c_effective_ancestor 29 3 [.t 6] = true := by kernel_rfl
theorem u_effective_ancestor : Tryz.prog.funcs[n_effective_ancestor]? = some Tryz.f100 := Tryz.func100
/-- guerdon/lexer.lower -/
def c_lexer_lower : FC :=
  (.seq (.reg none [⟨2, (.op (.mv (.k (.bool false)))), none⟩] [2])
  (.seq (.reg none [⟨3, (.op (.mv (.t 0))), none⟩, ⟨4, (.op (.bin .geq (.t 3) (.k (.int .u8 97)))), none⟩, ⟨5, (.op (.mv (.t 4))), none⟩, ⟨6, (.op (.mv (.t 0))), some (5, true)⟩, ⟨7, (.op (.bin .leq (.t 6) (.k (.int .u8 122)))), some (5, true)⟩, ⟨8, (.op (.pick (.t 5) (.t 7) (.k (.bool false)))), none⟩, ⟨2, (.op (.mv (.t 8))), none⟩] [0, 3, 4, 5, 6, 7, 8])
  .ret))
theorem k_lexer_lower : fnOk Tryz.prog Tryz.f101 c_lexer_lower 9 1 [.t 2] = true := by kernel_rfl
theorem u_lexer_lower : Tryz.prog.funcs[n_lexer_lower]? = some Tryz.f101 := Tryz.func101
/-- guerdon/lexer.run -/
def c_lexer_run : FC :=
  (.seq (.reg none [⟨4, (.op (.mv (.k (.int .i64 0)))), none⟩] [4])
  (.seq (.reg none [⟨5, (.op (.mv (.k (.int .i64 0)))), none⟩] [])
  (.seq (.block 0 (.loop (.seq (.seq (.reg none [⟨6, (.op (.mv (.t 5))), none⟩, ⟨7, (.op (.mv (.t 0))), none⟩, ⟨8, (.op (.lenS (.t 7))), none⟩, ⟨9, (.op (.bin .lss (.t 6) (.t 8))), none⟩, ⟨10, (.op (.mv (.t 9))), none⟩, ⟨11, (.op (.mv (.t 1))), some (10, true)⟩, ⟨12, (.op (.mv (.t 0))), some (10, true)⟩, ⟨13, (.op (.mv (.t 5))), some (10, true)⟩, ⟨14, (.op (.index (.t 12) (.t 13))), some (10, true)⟩, ⟨15, (.callV (.t 11) [.t 14]), some (10, true)⟩, ⟨16, (.op (.pick (.t 10) (.t 15) (.k (.bool false)))), none⟩] [6, 7, 8, 9, 10, 11, 12, 13, 14, 15])
      (.cond (.t 16)
        .skip
        (.exit 0)))
      (.block 1 (.reg none [⟨17, (.op (.mv (.t 5))), none⟩, ⟨18, (.op (.bin .add (.t 17) (.k (.int .i64 1)))), none⟩, ⟨5, (.op (.mv (.t 18))), none⟩] [16, 17, 18])))))
  (.seq (.reg none [⟨19, (.op (.mv (.t 5))), none⟩, ⟨4, (.op (.mv (.t 19))), none⟩] [0, 1, 5, 16, 19])
  .ret))))
theorem k_lexer_run : fnOk Tryz.prog Tryz.f102 c_lexer_run 20 2 [.t 4] = true := by kernel_rfl
theorem u_lexer_run : Tryz.prog.funcs[n_lexer_run]? = some Tryz.f102 := Tryz.func102
/-- guerdon/lexer.part -/
def c_lexer_part : FC :=
  (.seq (.reg none [⟨2, (.op (.mv (.k (.bool false)))), none⟩] [2])
  (.seq (.reg none [⟨3, (.op (.mv (.t 0))), none⟩, ⟨4, (.callL n_lexer_lower [.t 3]), none⟩, ⟨5, (.op (.mv (.t 4))), none⟩, ⟨6, (.op (.mv (.t 0))), some (5, false)⟩, ⟨7, (.callL n_lexer_digit [.t 6]), some (5, false)⟩, ⟨8, (.op (.pick (.t 5) (.k (.bool true)) (.t 7))), none⟩, ⟨9, (.op (.mv (.t 8))), none⟩, ⟨10, (.op (.mv (.t 0))), some (9, false)⟩, ⟨11, (.op (.bin .eql (.t 10) (.k (.int .u8 95)))), some (9, false)⟩, ⟨12, (.op (.pick (.t 9) (.k (.bool true)) (.t 11))), none⟩, ⟨2, (.op (.mv (.t 12))), none⟩] [0, 3, 4, 5, 6, 7, 8, 9, 10, 11, 12])
  .ret))
theorem k_lexer_part : fnOk Tryz.prog Tryz.f103 c_lexer_part 13 1 [.t 2] = true := by kernel_rfl
theorem u_lexer_part : Tryz.prog.funcs[n_lexer_part]? = some Tryz.f103 := Tryz.func103
/-- slices.Index[[]string,string] -/
def c_slices_Index_string_string : FC :=
  (.seq (.reg none [⟨4, (.op (.mv (.k (.int .i64 0)))), none⟩] [4])
  (.seq (.seq (.reg none [⟨6, (.op (.mv (.t 0))), none⟩, ⟨7, (.op (.len (.t 6))), none⟩, ⟨8, (.op (.mv (.k (.int .i64 0)))), none⟩] [6])
  (.block 0 (.loop (.seq (.reg none [⟨9, (.op (.bin .lss (.t 8) (.t 7))), none⟩] [])
      (.seq (.cond (.t 9)
        .skip
        (.exit 0))
      (.seq (.block 1 (.seq (.reg none [⟨10, (.op (.mv (.t 8))), none⟩, ⟨5, (.op (.mv (.t 10))), none⟩] [9, 10])
        (.seq (.reg none [⟨11, (.op (.mv (.t 1))), none⟩, ⟨12, (.op (.mv (.t 0))), none⟩, ⟨13, (.op (.mv (.t 5))), none⟩, ⟨14, (.op (.ia (.t 12) (.t 13) 1)), none⟩, ⟨15, (.op (.load (.t 14) 1 false)), none⟩, ⟨16, (.op (.bin .eql (.t 11) (.t 15))), none⟩] [11, 12, 13, 14, 15])
        (.cond (.t 16)
          (.seq (.reg none [⟨17, (.op (.mv (.t 5))), none⟩, ⟨4, (.op (.mv (.t 17))), none⟩] [0, 1, 5, 7, 8, 16, 17])
          .ret)
          .skip))))
      (.reg none [⟨18, (.op (.bin .add (.t 8) (.k (.int .i64 1)))), none⟩, ⟨8, (.op (.mv (.t 18))), none⟩] [5, 16, 18])))))))
  (.seq (.reg none [⟨4, (.op (.mv (.k (.int .i64 (-1))))), none⟩] [0, 1, 7, 8, 9])
  .ret)))
theorem k_slices_Index_string_string : fnOk Tryz.prog Tryz.f105 c_slices_Index_string_string 19 2 [.t 4] = true := by kernel_rfl
theorem u_slices_Index_string_string : Tryz.prog.funcs[n_slices_Index_string_string]? = some Tryz.f105 := Tryz.func105
/-- guerdon/value.ValidType -/
def c_value_ValidType : FC :=
  (.seq (.reg none [⟨2, (.op (.box (.t 0))), none⟩, ⟨4, (.op (.mv (.k (.bool false)))), none⟩] [0, 4])
  (.seq (.seq (.reg none [⟨5, (.op (.fa (.t 2) 0)), none⟩, ⟨6, (.op (.load (.t 5) 1 false)), none⟩] [5])
  (.block 0 (.seq (.seq (.reg none [⟨8, (.op (.bin .eql (.t 6) (.k (.int .i64 1)))), none⟩, ⟨7, (.op (.mv (.t 8))), none⟩] [8])
    (.cond (.t 7)
      .skip
      (.seq (.reg none [⟨9, (.op (.bin .eql (.t 6) (.k (.int .i64 2)))), none⟩, ⟨7, (.op (.mv (.t 9))), none⟩] [9])
      (.cond (.t 7)
        .skip
        (.seq (.reg none [⟨10, (.op (.bin .eql (.t 6) (.k (.int .i64 3)))), none⟩, ⟨7, (.op (.mv (.t 10))), none⟩] [10])
        (.cond (.t 7)
          .skip
          (.seq (.reg none [⟨11, (.op (.bin .eql (.t 6) (.k (.int .i64 4)))), none⟩, ⟨7, (.op (.mv (.t 11))), none⟩] [11])
          (.cond (.t 7)
            .skip
            (.reg none [⟨12, (.op (.bin .eql (.t 6) (.k (.int .i64 5)))), none⟩, ⟨7, (.op (.mv (.t 12))), none⟩] [12])))))))))
    (.cond (.t 7)
      (.seq (.reg none [⟨13, (.op (.fa (.t 2) 1)), none⟩, ⟨14, (.op (.load (.t 13) 1 false)), none⟩, ⟨15, (.op (.bin .eql (.t 14) (.k (.int .i64 0)))), none⟩, ⟨4, (.op (.mv (.t 15))), none⟩] [1, 2, 6, 7, 13, 14, 15])
      .ret)
      (.seq (.reg none [⟨17, (.op (.bin .eql (.t 6) (.k (.int .i64 6)))), none⟩, ⟨16, (.op (.mv (.t 17))), none⟩] [6, 7, 17])
      (.cond (.t 16)
        (.seq (.reg none [⟨18, (.op (.fa (.t 2) 1)), none⟩, ⟨19, (.op (.load (.t 18) 1 false)), none⟩, ⟨20, (.op (.bin .geq (.t 19) (.k (.int .i64 0)))), none⟩, ⟨21, (.op (.mv (.t 20))), none⟩, ⟨22, (.op (.fa (.t 2) 1)), some (21, true)⟩, ⟨23, (.op (.load (.t 22) 1 false)), some (21, true)⟩, ⟨24, (.op (.mv (.t 1))), some (21, true)⟩, ⟨25, (.op (.len (.t 24))), some (21, true)⟩, ⟨26, (.op (.bin .lss (.t 23) (.t 25))), some (21, true)⟩, ⟨27, (.op (.pick (.t 21) (.t 26) (.k (.bool false)))), none⟩, ⟨4, (.op (.mv (.t 27))), none⟩] [1, 2, 16, 18, 19, 20, 21, 22, 23, 24, 25, 26, 27])
        .ret)
        .skip))))))
  (.seq (.reg none [⟨4, (.op (.mv (.k (.bool false)))), none⟩] [1, 2, 16])
  .ret)))
theorem k_value_ValidType : fnOk Tryz.prog Tryz.f106 c_value_ValidType 28 2 [.t 4] = true := by kernel_rfl
theorem u_value_ValidType : Tryz.prog.funcs[n_value_ValidType]? = some Tryz.f106 := Tryz.func106
/-- guerdon/table.check -/
def c_table_check : FC :=
  (.seq (.reg none [⟨3, (.op (.box (.t 0))), none⟩, ⟨4, (.op (.box (.t 1))), none⟩, ⟨6, (.op (.mv (.k (.int .i64 0)))), none⟩] [0, 1, 6])
  (.seq (.reg none [⟨12, (.op (.fa (.t 4) 1)), none⟩, ⟨13, (.op (.load (.t 12) 2 true)), none⟩, ⟨14, (.op (.mv (.t 2))), none⟩, ⟨15, (.callL n_value_Bounds [.t 13, .t 14]), none⟩, ⟨11, (.op (.mvP true (.t 15))), none⟩, ⟨16, (.op (.extract 11 0)), none⟩, ⟨17, (.op (.extract 11 1)), none⟩, ⟨7, (.op (.mvP true (.t 16))), none⟩, ⟨8, (.op (.mvP true (.t 17))), none⟩] [11, 12, 13, 14, 15, 16, 17])
  (.seq (.reg none [⟨19, (.op (.fa (.t 4) 3)), none⟩, ⟨20, (.op (.load (.t 19) 2 true)), none⟩, ⟨21, (.op (.mv (.t 2))), none⟩, ⟨22, (.callL n_value_Bounds [.t 20, .t 21]), none⟩, ⟨18, (.op (.mvP true (.t 22))), none⟩, ⟨23, (.op (.extract 18 0)), none⟩, ⟨24, (.op (.extract 18 1)), none⟩, ⟨9, (.op (.mvP true (.t 23))), none⟩, ⟨10, (.op (.mvP true (.t 24))), none⟩] [2, 4, 18, 19, 20, 21, 22, 23, 24])
  (.seq (.block 0 (.seq (.reg none [⟨26, (.op (.fa (.t 3) 0)), none⟩, ⟨27, (.op (.load (.t 26) 2 true)), none⟩, ⟨28, (.callL n_daterange_Valid [.t 27]), none⟩, ⟨29, (.op (.un .not (.t 28))), none⟩, ⟨30, (.op (.mv (.t 29))), none⟩, ⟨31, (.op (.fa (.t 3) 0)), some (30, false)⟩, ⟨32, (.op (.fa (.t 31) 0)), some (30, false)⟩, ⟨33, (.op (.load (.t 32) 1 false)), some (30, false)⟩, ⟨34, (.op (.fa (.t 3) 0)), some (30, false)⟩, ⟨35, (.op (.fa (.t 34) 1)), some (30, false)⟩, ⟨36, (.op (.load (.t 35) 1 false)), some (30, false)⟩, ⟨37, (.op (.bin .eql (.t 33) (.t 36))), some (30, false)⟩, ⟨38, (.op (.pick (.t 30) (.k (.bool true)) (.t 37))), none⟩, ⟨25, (.op (.mv (.t 38))), none⟩] [26, 27, 28, 29, 30, 31, 32, 33, 34, 35, 36, 37, 38])
    (.cond (.t 25)
      (.seq (.reg none [⟨6, (.op (.mv (.k (.int .i64 3)))), none⟩] [3, 7, 8, 9, 10, 25])
      .ret)
      (.seq (.reg none [⟨40, (.op (.fa (.t 3) 2)), none⟩, ⟨41, (.op (.load (.t 40) 1 false)), none⟩, ⟨42, (.op (.fa (.t 3) 3)), none⟩, ⟨43, (.op (.load (.t 42) 1 false)), none⟩, ⟨44, (.op (.bin .geq (.t 41) (.t 43))), none⟩, ⟨45, (.op (.mv (.t 44))), none⟩, ⟨46, (.op (.fa (.t 3) 2)), some (45, false)⟩, ⟨47, (.op (.load (.t 46) 1 false)), some (45, false)⟩, ⟨48, (.op (.mv (.t 7))), some (45, false)⟩, ⟨49, (.op (.bin .lss (.t 47) (.t 48))), some (45, false)⟩, ⟨50, (.op (.pick (.t 45) (.k (.bool true)) (.t 49))), none⟩, ⟨51, (.op (.mv (.t 50))), none⟩, ⟨52, (.op (.fa (.t 3) 2)), some (51, false)⟩, ⟨53, (.op (.load (.t 52) 1 false)), some (51, false)⟩, ⟨54, (.op (.mv (.t 8))), some (51, false)⟩, ⟨55, (.op (.bin .gtr (.t 53) (.t 54))), some (51, false)⟩, ⟨56, (.op (.pick (.t 51) (.k (.bool true)) (.t 55))), none⟩, ⟨57, (.op (.mv (.t 56))), none⟩, ⟨58, (.op (.fa (.t 3) 3)), some (57, false)⟩, ⟨59, (.op (.load (.t 58) 1 false)), some (57, false)⟩, ⟨60, (.op (.bin .sub (.t 59) (.k (.int .i64 1)))), some (57, false)⟩, ⟨61, (.op (.mv (.t 7))), some (57, false)⟩, ⟨62, (.op (.bin .lss (.t 60) (.t 61))), some (57, false)⟩, ⟨63, (.op (.pick (.t 57) (.k (.bool true)) (.t 62))), none⟩, ⟨64, (.op (.mv (.t 63))), none⟩, ⟨65, (.op (.fa (.t 3) 3)), some (64, false)⟩, ⟨66, (.op (.load (.t 65) 1 false)), some (64, false)⟩, ⟨67, (.op (.bin .sub (.t 66) (.k (.int .i64 1)))), some (64, false)⟩, ⟨68, (.op (.mv (.t 8))), some (64, false)⟩, ⟨69, (.op (.bin .gtr (.t 67) (.t 68))), some (64, false)⟩, ⟨70, (.op (.pick (.t 64) (.k (.bool true)) (.t 69))), none⟩, ⟨39, (.op (.mv (.t 70))), none⟩] [7, 8, 25, 40, 41, 42, 43, 44, 45, 46, 47, 48, 49, 50, 51, 52, 53, 54, 55, 56, 57, 58, 59, 60, 61, 62, 63, 64, 65, 66, 67, 68, 69, 70])
      (.cond (.t 39)
        (.seq (.reg none [⟨6, (.op (.mv (.k (.int .i64 3)))), none⟩] [3, 9, 10, 39])
        .ret)
        (.seq (.reg none [⟨72, (.op (.fa (.t 3) 4)), none⟩, ⟨73, (.op (.load (.t 72) 1 false)), none⟩, ⟨74, (.op (.mv (.t 9))), none⟩, ⟨75, (.op (.bin .lss (.t 73) (.t 74))), none⟩, ⟨76, (.op (.mv (.t 75))), none⟩, ⟨77, (.op (.fa (.t 3) 4)), some (76, false)⟩, ⟨78, (.op (.load (.t 77) 1 false)), some (76, false)⟩, ⟨79, (.op (.mv (.t 10))), some (76, false)⟩, ⟨80, (.op (.bin .gtr (.t 78) (.t 79))), some (76, false)⟩, ⟨81, (.op (.pick (.t 76) (.k (.bool true)) (.t 80))), none⟩, ⟨71, (.op (.mv (.t 81))), none⟩] [3, 9, 10, 39, 72, 73, 74, 75, 76, 77, 78, 79, 80, 81])
        (.cond (.t 71)
          (.seq (.reg none [⟨6, (.op (.mv (.k (.int .i64 3)))), none⟩] [71])
          .ret)
          .skip)))))))
  (.seq (.reg none [⟨6, (.op (.mv (.k (.int .i64 0)))), none⟩] [71])
  .ret)))))
theorem k_table_check : fnOk Tryz.prog Tryz.f107 c_table_check 82 3 [.t 6] = true := by kernel_rfl
theorem u_table_check : Tryz.prog.funcs[n_table_check]? = some Tryz.f107 := Tryz.func107
/-- guerdon/table.conflict -/
def c_table_conflict : FC :=
  (.seq (.reg none [⟨2, (.op (.box (.t 0))), none⟩, ⟨3, (.op (.box (.t 1))), none⟩, ⟨4, (.op (.mv (.k (.bool false)))), none⟩] [0, 1, 4])
  (.seq (.reg none [⟨8, (.op (.fa (.t 2) 0)), none⟩, ⟨9, (.op (.load (.t 8) 2 true)), none⟩, ⟨10, (.op (.fa (.t 3) 0)), none⟩, ⟨11, (.op (.load (.t 10) 2 true)), none⟩, ⟨12, (.callL n_daterange_Intersect [.t 9, .t 11]), none⟩, ⟨7, (.op (.mvP true (.t 12))), none⟩, ⟨13, (.op (.extract 7 0)), none⟩, ⟨14, (.op (.extract 7 1)), none⟩, ⟨5, (.op (.alloc [(.int .i64 0), (.int .i64 0)])), none⟩, ⟨0, (.op (.store (.t 5) (.t 13) 2 true)), none⟩, ⟨6, (.op (.mvP true (.t 14))), none⟩] [5, 7, 8, 9, 10, 11, 12, 13, 14])
  (.seq (.reg none [⟨15, (.op (.mv (.t 6))), none⟩, ⟨16, (.op (.mv (.t 15))), none⟩, ⟨17, (.op (.fa (.t 2) 2)), some (16, true)⟩, ⟨18, (.op (.load (.t 17) 1 false)), some (16, true)⟩, ⟨19, (.op (.fa (.t 3) 2)), some (16, true)⟩, ⟨20, (.op (.load (.t 19) 1 false)), some (16, true)⟩, ⟨21, (.op (.mm true (.t 18) (.t 20))), some (16, true)⟩, ⟨22, (.op (.fa (.t 2) 3)), some (16, true)⟩, ⟨23, (.op (.load (.t 22) 1 false)), some (16, true)⟩, ⟨24, (.op (.fa (.t 3) 3)), some (16, true)⟩, ⟨25, (.op (.load (.t 24) 1 false)), some (16, true)⟩, ⟨26, (.op (.mm false (.t 23) (.t 25))), some (16, true)⟩, ⟨27, (.op (.bin .lss (.t 21) (.t 26))), some (16, true)⟩, ⟨28, (.op (.pick (.t 16) (.t 27) (.k (.bool false)))), none⟩, ⟨4, (.op (.mv (.t 28))), none⟩] [2, 3, 6, 15, 16, 17, 18, 19, 20, 21, 22, 23, 24, 25, 26, 27, 28])
  .ret)))
theorem k_table_conflict : fnOk Tryz.prog Tryz.f108 c_table_conflict 29 2 [.t 4] = true := by kernel_rfl
theorem u_table_conflict : Tryz.prog.funcs[n_table_conflict]? = some Tryz.f108 := Tryz.func108
/-- guerdon/law.named -/
def c_law_named : FC :=
  (.seq (.reg none [⟨2, (.op (.box (.t 0))), none⟩, ⟨4, (.op (.mv (.k (.int .i64 0)))), none⟩] [0, 4])
  (.seq (.reg none [⟨8, (.op (.fa (.t 2) 4)), none⟩, ⟨9, (.op (.load (.t 8) 1 false)), none⟩, ⟨10, (.op (.mv (.t 1))), none⟩, ⟨11, (.op (.ia (.t 9) (.t 10) 9)), none⟩, ⟨12, (.op (.load (.t 11) 9 true)), none⟩, ⟨5, (.op (.alloc [(.str []), (.int .i64 0), (.int .i64 0), (.int .i64 0), (.int .i64 0), (.int .i64 0), (.sl true []), (.sl true []), (.str [])])), none⟩, ⟨0, (.op (.store (.t 5) (.t 12) 9 true)), none⟩] [8, 9, 10, 11, 12])
  (.seq (.seq (.reg none [⟨13, (.op (.fa (.t 5) 0)), none⟩, ⟨14, (.op (.load (.t 13) 1 false)), none⟩, ⟨15, (.callL n_lexer_IsIdentifier [.t 14]), none⟩, ⟨16, (.op (.un .not (.t 15))), none⟩] [13, 14, 15])
  (.cond (.t 16)
    (.seq (.reg none [⟨4, (.op (.mv (.k (.int .i64 2)))), none⟩] [1, 2, 5, 16])
    .ret)
    .skip))
  (.seq (.seq (.reg none [⟨17, (.op (.fa (.t 2) 4)), none⟩, ⟨18, (.op (.load (.t 17) 1 false)), none⟩, ⟨19, (.op (.mv (.t 1))), none⟩, ⟨20, (.op (.subSl (.t 18) none (some (.t 19)) 9)), none⟩, ⟨21, (.op (.len (.t 20))), none⟩, ⟨22, (.op (.mv (.k (.int .i64 0)))), none⟩] [16])
  (.block 0 (.loop (.seq (.reg none [⟨23, (.op (.bin .lss (.t 22) (.t 21))), none⟩] [])
      (.seq (.cond (.t 23)
        .skip
        (.exit 0))
      (.seq (.block 1 (.seq (.reg none [⟨24, (.op (.ia (.t 20) (.t 22) 9)), none⟩, ⟨25, (.op (.load (.t 24) 9 true)), none⟩, ⟨7, (.op (.alloc [(.str []), (.int .i64 0), (.int .i64 0), (.int .i64 0), (.int .i64 0), (.int .i64 0), (.sl true []), (.sl true []), (.str [])])), none⟩, ⟨0, (.op (.store (.t 7) (.t 25) 9 true)), none⟩] [23, 24, 25])
        (.seq (.reg none [⟨26, (.op (.fa (.t 7) 0)), none⟩, ⟨27, (.op (.load (.t 26) 1 false)), none⟩, ⟨28, (.op (.fa (.t 5) 0)), none⟩, ⟨29, (.op (.load (.t 28) 1 false)), none⟩, ⟨30, (.op (.bin .eql (.t 27) (.t 29))), none⟩] [7, 26, 27, 28, 29])
        (.cond (.t 30)
          (.seq (.reg none [⟨4, (.op (.mv (.k (.int .i64 7)))), none⟩] [1, 2, 5, 17, 18, 19, 20, 21, 22, 30])
          .ret)
          .skip))))
      (.reg none [⟨31, (.op (.bin .add (.t 22) (.k (.int .i64 1)))), none⟩, ⟨22, (.op (.mv (.t 31))), none⟩] [30, 31])))))))
  (.seq (.seq (.reg none [⟨32, (.op (.fa (.t 5) 1)), none⟩, ⟨33, (.op (.load (.t 32) 1 false)), none⟩, ⟨34, (.op (.bin .lss (.t 33) (.k (.int .i64 0)))), none⟩, ⟨35, (.op (.mv (.t 34))), none⟩, ⟨36, (.op (.fa (.t 5) 1)), some (35, false)⟩, ⟨37, (.op (.load (.t 36) 1 false)), some (35, false)⟩, ⟨38, (.op (.fa (.t 2) 3)), some (35, false)⟩, ⟨39, (.op (.load (.t 38) 1 false)), some (35, false)⟩, ⟨40, (.op (.len (.t 39))), some (35, false)⟩, ⟨41, (.op (.bin .geq (.t 37) (.t 40))), some (35, false)⟩, ⟨42, (.op (.pick (.t 35) (.k (.bool true)) (.t 41))), none⟩] [17, 18, 19, 20, 21, 22, 23, 32, 33, 34, 35, 36, 37, 38, 39, 40, 41])
  (.cond (.t 42)
    (.seq (.reg none [⟨4, (.op (.mv (.k (.int .i64 6)))), none⟩] [1, 2, 5, 42])
    .ret)
    .skip))
  (.seq (.seq (.reg (some 26) [⟨43, (.op (.fa (.t 5) 2)), none⟩, ⟨44, (.op (.load (.t 43) 1 false)), none⟩, ⟨45, (.op (.bin .lss (.t 44) (.k (.int .i64 (-1))))), none⟩, ⟨46, (.op (.mv (.t 45))), none⟩, ⟨47, (.op (.fa (.t 5) 2)), some (46, false)⟩, ⟨48, (.op (.load (.t 47) 1 false)), some (46, false)⟩, ⟨49, (.op (.mv (.t 1))), some (46, false)⟩, ⟨50, (.op (.bin .geq (.t 48) (.t 49))), some (46, false)⟩, ⟨51, (.op (.pick (.t 46) (.k (.bool true)) (.t 50))), none⟩, ⟨52, (.op (.mv (.t 51))), none⟩, ⟨53, (.op (.fa (.t 5) 2)), some (52, false)⟩, ⟨54, (.op (.load (.t 53) 1 false)), some (52, false)⟩, ⟨55, (.op (.bin .geq (.t 54) (.k (.int .i64 0)))), some (52, false)⟩, ⟨56, (.op (.mv (.t 55))), some (52, false)⟩, ⟨57, (.op (.fa (.t 2) 4)), some (56, true)⟩, ⟨58, (.op (.load (.t 57) 1 false)), some (56, true)⟩, ⟨59, (.op (.fa (.t 5) 2)), some (56, true)⟩, ⟨60, (.op (.load (.t 59) 1 false)), some (56, true)⟩, ⟨61, (.op (.ia (.t 58) (.t 60) 9)), some (56, true)⟩, ⟨62, (.op (.fa (.t 61) 1)), some (56, true)⟩, ⟨63, (.op (.load (.t 62) 1 false)), some (56, true)⟩, ⟨64, (.op (.fa (.t 5) 1)), some (56, true)⟩, ⟨65, (.op (.load (.t 64) 1 false)), some (56, true)⟩, ⟨66, (.op (.bin .neq (.t 63) (.t 65))), some (56, true)⟩, ⟨67, (.op (.pick (.t 56) (.t 66) (.k (.bool false)))), some (52, false)⟩, ⟨68, (.op (.pick (.t 52) (.k (.bool true)) (.t 67))), none⟩] [1, 2, 5, 42, 43, 44, 45, 46, 47, 48, 49, 50, 51, 52, 53, 54, 55, 56, 57, 58, 59, 60, 61, 62, 63, 64, 65, 66, 67])
  (.cond (.t 68)
    (.seq (.reg none [⟨4, (.op (.mv (.k (.int .i64 9)))), none⟩] [68])
    .ret)
    .skip))
  (.seq (.reg none [⟨4, (.op (.mv (.k (.int .i64 0)))), none⟩] [68])
  .ret)))))))
theorem k_law_named : fnOk Tryz.prog Tryz.f109 c_law_named 69 2 [.t 4] = true := by kernel_rfl
theorem u_law_named : Tryz.prog.funcs[n_law_named]? = some Tryz.f109 := Tryz.func109
/-- guerdon/law.source -/
def c_law_source : FC :=
  (.seq (.reg none [⟨2, (.op (.mv (.k (.bool false)))), none⟩] [2])
  (.seq (.seq (.reg none [⟨4, (.op (.mv (.t 0))), none⟩, ⟨5, (.op (.lenS (.t 4))), none⟩, ⟨6, (.op (.mv (.k (.int .i64 0)))), none⟩] [4])
  (.block 0 (.loop (.seq (.reg none [⟨7, (.op (.bin .lss (.t 6) (.t 5))), none⟩] [])
      (.seq (.cond (.t 7)
        .skip
        (.exit 0))
      (.seq (.block 1 (.seq (.reg none [⟨8, (.op (.mv (.t 6))), none⟩, ⟨3, (.op (.mv (.t 8))), none⟩] [7, 8])
        (.seq (.reg none [⟨9, (.op (.mv (.t 0))), none⟩, ⟨10, (.op (.mv (.t 3))), none⟩, ⟨11, (.op (.index (.t 9) (.t 10))), none⟩, ⟨12, (.op (.bin .lss (.t 11) (.k (.int .u8 32)))), none⟩, ⟨13, (.op (.mv (.t 12))), none⟩, ⟨14, (.op (.mv (.t 0))), some (13, false)⟩, ⟨15, (.op (.mv (.t 3))), some (13, false)⟩, ⟨16, (.op (.index (.t 14) (.t 15))), some (13, false)⟩, ⟨17, (.op (.bin .gtr (.t 16) (.k (.int .u8 126)))), some (13, false)⟩, ⟨18, (.op (.pick (.t 13) (.k (.bool true)) (.t 17))), none⟩, ⟨19, (.op (.mv (.t 18))), none⟩, ⟨20, (.op (.mv (.t 0))), some (19, false)⟩, ⟨21, (.op (.mv (.t 3))), some (19, false)⟩, ⟨22, (.op (.index (.t 20) (.t 21))), some (19, false)⟩, ⟨23, (.op (.bin .eql (.t 22) (.k (.int .u8 34)))), some (19, false)⟩, ⟨24, (.op (.pick (.t 19) (.k (.bool true)) (.t 23))), none⟩] [3, 9, 10, 11, 12, 13, 14, 15, 16, 17, 18, 19, 20, 21, 22, 23])
        (.cond (.t 24)
          (.seq (.reg none [⟨2, (.op (.mv (.k (.bool false)))), none⟩] [0, 5, 6, 24])
          .ret)
          .skip))))
      (.reg none [⟨25, (.op (.bin .add (.t 6) (.k (.int .i64 1)))), none⟩, ⟨6, (.op (.mv (.t 25))), none⟩] [24, 25])))))))
  (.seq (.reg none [⟨26, (.op (.mv (.t 0))), none⟩, ⟨27, (.op (.lenS (.t 26))), none⟩, ⟨28, (.op (.bin .leq (.t 27) (.k (.int .i64 64)))), none⟩, ⟨2, (.op (.mv (.t 28))), none⟩] [0, 5, 6, 7, 26, 27, 28])
  .ret)))
theorem k_law_source : fnOk Tryz.prog Tryz.f110 c_law_source 29 1 [.t 2] = true := by kernel_rfl
theorem u_law_source : Tryz.prog.funcs[n_law_source]? = some Tryz.f110 := Tryz.func110
/-- guerdon/law.expression -/
def c_law_expression : FC :=
  (.seq (.reg none [⟨4, (.op (.box (.t 1))), none⟩, ⟨5, (.op (.box (.t 2))), none⟩, ⟨6, (.op (.mv (.k (.int .i64 0)))), none⟩] [1, 2, 6])
  (.seq (.reg none [⟨11, (.op (.mv (.t 0))), none⟩, ⟨12, (.op (.loadM true (.t 4) 6 true)), none⟩, ⟨13, (.callL n_expr_TypeOf [.t 11, .t 12]), none⟩, ⟨10, (.op (.mvP true (.t 13))), none⟩, ⟨14, (.op (.extract 10 0)), none⟩, ⟨15, (.op (.extract 10 1)), none⟩, ⟨16, (.op (.extract 10 2)), none⟩, ⟨7, (.op (.alloc [(.int .i64 0), (.int .i64 0)])), none⟩, ⟨0, (.op (.store (.t 7) (.t 14) 2 true)), none⟩, ⟨8, (.op (.mvP true (.t 15))), none⟩, ⟨9, (.op (.mvP true (.t 16))), none⟩] [0, 4, 8, 10, 11, 12, 13, 14, 15, 16])
  (.seq (.seq (.reg none [⟨17, (.op (.mv (.t 9))), none⟩, ⟨18, (.op (.bin .eql (.t 17) (.k (.int .i64 0)))), none⟩, ⟨19, (.op (.mv (.t 18))), none⟩, ⟨20, (.op (.load (.t 7) 2 true)), some (19, true)⟩, ⟨21, (.op (.load (.t 5) 2 true)), some (19, true)⟩, ⟨22, (.op (.eqS true [0, 0] (.t 20) (.t 21))), some (19, true)⟩, ⟨23, (.op (.pick (.t 19) (.t 22) (.k (.bool false)))), none⟩] [5, 7, 17, 18, 19, 20, 21, 22])
  (.cond (.t 23)
    (.seq (.reg none [⟨6, (.op (.mv (.k (.int .i64 8)))), none⟩] [9, 23])
    .ret)
    .skip))
  (.seq (.reg none [⟨24, (.op (.mv (.t 9))), none⟩, ⟨6, (.op (.mv (.t 24))), none⟩] [9, 23, 24])
  .ret))))
theorem k_law_expression : fnOk Tryz.prog Tryz.f111 c_law_expression 25 3 [.t 6] = true := by kernel_rfl
theorem u_law_expression : Tryz.prog.funcs[n_law_expression]? = some Tryz.f111 := Tryz.func111
/-- slices.Index[[]int,int] -/
def c_slices_Index_int_int : FC :=
  (.seq (.reg none [⟨4, (.op (.mv (.k (.int .i64 0)))), none⟩] [4])
  (.seq (.seq (.reg none [⟨6, (.op (.mv (.t 0))), none⟩, ⟨7, (.op (.len (.t 6))), none⟩, ⟨8, (.op (.mv (.k (.int .i64 0)))), none⟩] [6])
  (.block 0 (.loop (.seq (.reg none [⟨9, (.op (.bin .lss (.t 8) (.t 7))), none⟩] [])
      (.seq (.cond (.t 9)
        .skip
        (.exit 0))
      (.seq (.block 1 (.seq (.reg none [⟨10, (.op (.mv (.t 8))), none⟩, ⟨5, (.op (.mv (.t 10))), none⟩] [9, 10])
        (.seq (.reg none [⟨11, (.op (.mv (.t 1))), none⟩, ⟨12, (.op (.mv (.t 0))), none⟩, ⟨13, (.op (.mv (.t 5))), none⟩, ⟨14, (.op (.ia (.t 12) (.t 13) 1)), none⟩, ⟨15, (.op (.load (.t 14) 1 false)), none⟩, ⟨16, (.op (.bin .eql (.t 11) (.t 15))), none⟩] [11, 12, 13, 14, 15])
        (.cond (.t 16)
          (.seq (.reg none [⟨17, (.op (.mv (.t 5))), none⟩, ⟨4, (.op (.mv (.t 17))), none⟩] [0, 1, 5, 7, 8, 16, 17])
          .ret)
          .skip))))
      (.reg none [⟨18, (.op (.bin .add (.t 8) (.k (.int .i64 1)))), none⟩, ⟨8, (.op (.mv (.t 18))), none⟩] [5, 16, 18])))))))
  (.seq (.reg none [⟨4, (.op (.mv (.k (.int .i64 (-1))))), none⟩] [0, 1, 7, 8, 9])
  .ret)))
theorem k_slices_Index_int_int : fnOk Tryz.prog Tryz.f112 c_slices_Index_int_int 19 2 [.t 4] = true := by kernel_rfl
theorem u_slices_Index_int_int : Tryz.prog.funcs[n_slices_Index_int_int]? = some Tryz.f112 := Tryz.func112
/-- guerdon/guerdonref08.lower -/
def c_ref08_lower : FC :=
  (.seq (.reg none [⟨2, (.op (.mv (.k (.bool false)))), none⟩] [2])
  (.seq (.reg none [⟨3, (.op (.mv (.t 0))), none⟩, ⟨4, (.op (.bin .geq (.t 3) (.k (.int .u8 97)))), none⟩, ⟨5, (.op (.mv (.t 4))), none⟩, ⟨6, (.op (.mv (.t 0))), some (5, true)⟩, ⟨7, (.op (.bin .leq (.t 6) (.k (.int .u8 122)))), some (5, true)⟩, ⟨8, (.op (.pick (.t 5) (.t 7) (.k (.bool false)))), none⟩, ⟨2, (.op (.mv (.t 8))), none⟩] [0, 3, 4, 5, 6, 7, 8])
  .ret))
theorem k_ref08_lower : fnOk Tryz.prog Tryz.f113 c_ref08_lower 9 1 [.t 2] = true := by kernel_rfl
theorem u_ref08_lower : Tryz.prog.funcs[n_ref08_lower]? = some Tryz.f113 := Tryz.func113
/-- guerdon/guerdonref08.word -/
def c_ref08_word : FC :=
  (.seq (.reg none [⟨2, (.op (.mv (.k (.bool false)))), none⟩] [2])
  (.seq (.reg none [⟨3, (.op (.mv (.t 0))), none⟩, ⟨4, (.callL n_ref08_lower [.t 3]), none⟩, ⟨5, (.op (.mv (.t 4))), none⟩, ⟨6, (.op (.mv (.t 0))), some (5, false)⟩, ⟨7, (.callL n_ref08_digit [.t 6]), some (5, false)⟩, ⟨8, (.op (.pick (.t 5) (.k (.bool true)) (.t 7))), none⟩, ⟨9, (.op (.mv (.t 8))), none⟩, ⟨10, (.op (.mv (.t 0))), some (9, false)⟩, ⟨11, (.op (.bin .eql (.t 10) (.k (.int .u8 95)))), some (9, false)⟩, ⟨12, (.op (.pick (.t 9) (.k (.bool true)) (.t 11))), none⟩, ⟨2, (.op (.mv (.t 12))), none⟩] [0, 3, 4, 5, 6, 7, 8, 9, 10, 11, 12])
  .ret))
theorem k_ref08_word : fnOk Tryz.prog Tryz.f114 c_ref08_word 13 1 [.t 2] = true := by kernel_rfl
theorem u_ref08_word : Tryz.prog.funcs[n_ref08_word]? = some Tryz.f114 := Tryz.func114
/-- guerdon/guerdonref08.Reserved -/
def c_ref08_Reserved : FC :=
  (.seq (.reg none [⟨0, (.op (.mv (.k (.arr [])))), none⟩] [0])
  (.seq (.reg none [⟨1, (.op (.buildSl [(.str [])] 55 [0, 1, 2, 3, 4, 5, 6, 7, 8, 9, 10, 11, 12, 13, 14, 15, 16, 17, 18, 19, 20, 21, 22, 23, 24, 25, 26, 27, 28, 29, 30, 31, 32, 33, 34, 35, 36, 37, 38, 39, 40, 41, 42, 43, 44, 45, 46, 47, 48, 49, 50, 51, 52, 53, 54] [.k (.str [105, 102]), .k (.str [116, 104, 101, 110]), .k (.str [101, 108, 115, 101]), .k (.str [111, 114]), .k (.str [97, 110, 100]), .k (.str [110, 111, 116]), .k (.str [116, 114, 117, 101]), .k (.str [102, 97, 108, 115, 101]), .k (.str [116, 111, 100, 97, 121]), .k (.str [115, 104, 97, 114, 101]), .k (.str [100, 105, 118]), .k (.str [114, 111, 117, 110, 100]), .k (.str [109, 105, 110]), .k (.str [109, 97, 120]), .k (.str [112, 108, 117, 115]), .k (.str [109, 111, 110, 116, 104, 115]), .k (.str [100, 97, 121, 115]), .k (.str [121, 101, 97, 114, 115]), .k (.str [121, 101, 97, 114]), .k (.str [109, 111, 110, 116, 104]), .k (.str [116, 97, 98]), .k (.str [98, 97, 110, 100]), .k (.str [99, 111, 117, 110, 116]), .k (.str [115, 117, 109]), .k (.str [97, 108, 108]), .k (.str [97, 110, 121]), .k (.str [109, 111, 115, 116]), .k (.str [101, 110, 117, 109]), .k (.str [116, 97, 98, 108, 101]), .k (.str [114, 111, 119]), .k (.str [115, 99, 111, 112, 101]), .k (.str [109, 101, 109, 98, 101, 114, 115]), .k (.str [105, 110, 112, 117, 116]), .k (.str [100, 101, 102]), .k (.str [114, 117, 108, 101]), .k (.str [111, 102]), .k (.str [111, 118, 101, 114]), .k (.str [112, 114, 105, 111]), .k (.str [102, 114, 111, 109]), .k (.str [116, 111]), .k (.str [101, 110, 100]), .k (.str [119, 104, 101, 110]), .k (.str [105, 115]), .k (.str [115, 114, 99]), .k (.str [98, 111, 111, 108]), .k (.str [105, 110, 116]), .k (.str [109, 111, 110, 101, 121]), .k (.str [114, 97, 116, 101]), .k (.str [100, 97, 116, 101]), .k (.str [100, 111, 119, 110]), .k (.str [117, 112]), .k (.str [122, 101, 114, 111]), .k (.str [97, 119, 97, 121]), .k (.str [104, 97, 108, 102]), .k (.str [101, 118, 101, 110])])), none⟩, ⟨0, (.op (.mvP true (.t 1))), none⟩] [1])
  .ret))
theorem k_ref08_Reserved : fnOk Tryz.prog Tryz.f115 c_ref08_Reserved 2 0 [.t 0] = true := by kernel_rfl
theorem u_ref08_Reserved : Tryz.prog.funcs[n_ref08_Reserved]? = some Tryz.f115 := Tryz.func115
/-- guerdon/guerdonref09.ValidType -/
def c_ref09_ValidType : FC :=
  (.seq (.reg none [⟨2, (.op (.box (.t 0))), none⟩, ⟨4, (.op (.mv (.k (.bool false)))), none⟩] [0, 4])
  (.seq (.seq (.reg none [⟨5, (.op (.fa (.t 2) 0)), none⟩, ⟨6, (.op (.load (.t 5) 1 false)), none⟩, ⟨7, (.op (.bin .eql (.t 6) (.k (.int .i64 6)))), none⟩] [5, 6])
  (.cond (.t 7)
    (.seq (.reg none [⟨8, (.op (.fa (.t 2) 1)), none⟩, ⟨9, (.op (.load (.t 8) 1 false)), none⟩, ⟨10, (.op (.bin .geq (.t 9) (.k (.int .i64 0)))), none⟩, ⟨11, (.op (.mv (.t 10))), none⟩, ⟨12, (.op (.fa (.t 2) 1)), some (11, true)⟩, ⟨13, (.op (.load (.t 12) 1 false)), some (11, true)⟩, ⟨14, (.op (.mv (.t 1))), some (11, true)⟩, ⟨15, (.op (.len (.t 14))), some (11, true)⟩, ⟨16, (.op (.bin .lss (.t 13) (.t 15))), some (11, true)⟩, ⟨17, (.op (.pick (.t 11) (.t 16) (.k (.bool false)))), none⟩, ⟨4, (.op (.mv (.t 17))), none⟩] [1, 2, 7, 8, 9, 10, 11, 12, 13, 14, 15, 16, 17])
    .ret)
    .skip))
  (.seq (.reg none [⟨18, (.op (.fa (.t 2) 0)), none⟩, ⟨19, (.op (.load (.t 18) 1 false)), none⟩, ⟨20, (.op (.bin .geq (.t 19) (.k (.int .i64 1)))), none⟩, ⟨21, (.op (.mv (.t 20))), none⟩, ⟨22, (.op (.fa (.t 2) 0)), some (21, true)⟩, ⟨23, (.op (.load (.t 22) 1 false)), some (21, true)⟩, ⟨24, (.op (.bin .leq (.t 23) (.k (.int .i64 5)))), some (21, true)⟩, ⟨25, (.op (.pick (.t 21) (.t 24) (.k (.bool false)))), none⟩, ⟨26, (.op (.mv (.t 25))), none⟩, ⟨27, (.op (.fa (.t 2) 1)), some (26, true)⟩, ⟨28, (.op (.load (.t 27) 1 false)), some (26, true)⟩, ⟨29, (.op (.bin .eql (.t 28) (.k (.int .i64 0)))), some (26, true)⟩, ⟨30, (.op (.pick (.t 26) (.t 29) (.k (.bool false)))), none⟩, ⟨4, (.op (.mv (.t 30))), none⟩] [1, 2, 7, 18, 19, 20, 21, 22, 23, 24, 25, 26, 27, 28, 29, 30])
  .ret)))
theorem k_ref09_ValidType : fnOk Tryz.prog Tryz.f116 c_ref09_ValidType 31 2 [.t 4] = true := by kernel_rfl
theorem u_ref09_ValidType : Tryz.prog.funcs[n_ref09_ValidType]? = some Tryz.f116 := Tryz.func116
/-- guerdon/guerdonref12.wrong -/
def c_ref12_wrong : FC :=
  (.seq (.reg none [⟨3, (.op (.box (.t 0))), none⟩, ⟨4, (.op (.box (.t 1))), none⟩, ⟨6, (.op (.mv (.k (.bool false)))), none⟩] [0, 1, 6])
  (.seq (.seq (.reg none [⟨7, (.op (.fa (.t 3) 0)), none⟩, ⟨8, (.op (.load (.t 7) 2 true)), none⟩, ⟨9, (.callL n_ref05_Valid [.t 8]), none⟩, ⟨10, (.op (.un .not (.t 9))), none⟩, ⟨11, (.op (.mv (.t 10))), none⟩, ⟨12, (.op (.fa (.t 3) 0)), some (11, false)⟩, ⟨13, (.op (.fa (.t 12) 0)), some (11, false)⟩, ⟨14, (.op (.load (.t 13) 1 false)), some (11, false)⟩, ⟨15, (.op (.fa (.t 3) 0)), some (11, false)⟩, ⟨16, (.op (.fa (.t 15) 1)), some (11, false)⟩, ⟨17, (.op (.load (.t 16) 1 false)), some (11, false)⟩, ⟨18, (.op (.bin .eql (.t 14) (.t 17))), some (11, false)⟩, ⟨19, (.op (.pick (.t 11) (.k (.bool true)) (.t 18))), none⟩, ⟨20, (.op (.mv (.t 19))), none⟩, ⟨21, (.op (.fa (.t 3) 2)), some (20, false)⟩, ⟨22, (.op (.load (.t 21) 1 false)), some (20, false)⟩, ⟨23, (.op (.fa (.t 3) 3)), some (20, false)⟩, ⟨24, (.op (.load (.t 23) 1 false)), some (20, false)⟩, ⟨25, (.op (.bin .geq (.t 22) (.t 24))), some (20, false)⟩, ⟨26, (.op (.pick (.t 20) (.k (.bool true)) (.t 25))), none⟩] [7, 8, 9, 10, 11, 12, 13, 14, 15, 16, 17, 18, 19, 20, 21, 22, 23, 24, 25])
  (.cond (.t 26)
    (.seq (.reg none [⟨6, (.op (.mv (.k (.bool true)))), none⟩] [2, 3, 4, 26])
    .ret)
    .skip))
  (.seq (.reg none [⟨27, (.op (.fa (.t 3) 2)), none⟩, ⟨28, (.op (.load (.t 27) 1 false)), none⟩, ⟨29, (.op (.fa (.t 4) 1)), none⟩, ⟨30, (.op (.load (.t 29) 2 true)), none⟩, ⟨31, (.op (.mv (.t 2))), none⟩, ⟨32, (.callL n_ref09_In [.t 28, .t 30, .t 31]), none⟩, ⟨33, (.op (.un .not (.t 32))), none⟩, ⟨34, (.op (.mv (.t 33))), none⟩, ⟨35, (.op (.fa (.t 3) 3)), some (34, false)⟩, ⟨36, (.op (.load (.t 35) 1 false)), some (34, false)⟩, ⟨37, (.op (.bin .sub (.t 36) (.k (.int .i64 1)))), some (34, false)⟩, ⟨38, (.op (.fa (.t 4) 1)), some (34, false)⟩, ⟨39, (.op (.load (.t 38) 2 true)), some (34, false)⟩, ⟨40, (.op (.mv (.t 2))), some (34, false)⟩, ⟨41, (.callL n_ref09_In [.t 37, .t 39, .t 40]), some (34, false)⟩, ⟨42, (.op (.un .not (.t 41))), some (34, false)⟩, ⟨43, (.op (.pick (.t 34) (.k (.bool true)) (.t 42))), none⟩, ⟨44, (.op (.mv (.t 43))), none⟩, ⟨45, (.op (.fa (.t 3) 4)), some (44, false)⟩, ⟨46, (.op (.load (.t 45) 1 false)), some (44, false)⟩, ⟨47, (.op (.fa (.t 4) 3)), some (44, false)⟩, ⟨48, (.op (.load (.t 47) 2 true)), some (44, false)⟩, ⟨49, (.op (.mv (.t 2))), some (44, false)⟩, ⟨50, (.callL n_ref09_In [.t 46, .t 48, .t 49]), some (44, false)⟩, ⟨51, (.op (.un .not (.t 50))), some (44, false)⟩, ⟨52, (.op (.pick (.t 44) (.k (.bool true)) (.t 51))), none⟩, ⟨6, (.op (.mv (.t 52))), none⟩] [2, 3, 4, 26, 27, 28, 29, 30, 31, 32, 33, 34, 35, 36, 37, 38, 39, 40, 41, 42, 43, 44, 45, 46, 47, 48, 49, 50, 51, 52])
  .ret)))
theorem k_ref12_wrong : fnOk Tryz.prog Tryz.f117 c_ref12_wrong 53 3 [.t 6] = true := by kernel_rfl
theorem u_ref12_wrong : Tryz.prog.funcs[n_ref12_wrong]? = some Tryz.f117 := Tryz.func117
/-- guerdon/guerdonref12.conflict -/
def c_ref12_conflict : FC :=
  (.seq (.reg none [⟨2, (.op (.box (.t 0))), none⟩, ⟨3, (.op (.box (.t 1))), none⟩, ⟨4, (.op (.mv (.k (.bool false)))), none⟩] [0, 1, 4])
  (.seq (.reg none [⟨8, (.op (.fa (.t 2) 0)), none⟩, ⟨9, (.op (.load (.t 8) 2 true)), none⟩, ⟨10, (.op (.fa (.t 3) 0)), none⟩, ⟨11, (.op (.load (.t 10) 2 true)), none⟩, ⟨12, (.callL n_ref05_Intersect [.t 9, .t 11]), none⟩, ⟨7, (.op (.mvP true (.t 12))), none⟩, ⟨13, (.op (.extract 7 0)), none⟩, ⟨14, (.op (.extract 7 1)), none⟩, ⟨5, (.op (.alloc [(.int .i64 0), (.int .i64 0)])), none⟩, ⟨0, (.op (.store (.t 5) (.t 13) 2 true)), none⟩, ⟨6, (.op (.mvP true (.t 14))), none⟩] [5, 7, 8, 9, 10, 11, 12, 13, 14])
  (.seq (.reg none [⟨15, (.op (.mv (.t 6))), none⟩, ⟨16, (.op (.mv (.t 15))), none⟩, ⟨17, (.op (.fa (.t 2) 2)), some (16, true)⟩, ⟨18, (.op (.load (.t 17) 1 false)), some (16, true)⟩, ⟨19, (.op (.fa (.t 3) 2)), some (16, true)⟩, ⟨20, (.op (.load (.t 19) 1 false)), some (16, true)⟩, ⟨21, (.op (.mm true (.t 18) (.t 20))), some (16, true)⟩, ⟨22, (.op (.fa (.t 2) 3)), some (16, true)⟩, ⟨23, (.op (.load (.t 22) 1 false)), some (16, true)⟩, ⟨24, (.op (.fa (.t 3) 3)), some (16, true)⟩, ⟨25, (.op (.load (.t 24) 1 false)), some (16, true)⟩, ⟨26, (.op (.mm false (.t 23) (.t 25))), some (16, true)⟩, ⟨27, (.op (.bin .lss (.t 21) (.t 26))), some (16, true)⟩, ⟨28, (.op (.pick (.t 16) (.t 27) (.k (.bool false)))), none⟩, ⟨4, (.op (.mv (.t 28))), none⟩] [2, 3, 6, 15, 16, 17, 18, 19, 20, 21, 22, 23, 24, 25, 26, 27, 28])
  .ret)))
theorem k_ref12_conflict : fnOk Tryz.prog Tryz.f118 c_ref12_conflict 29 2 [.t 4] = true := by kernel_rfl
theorem u_ref12_conflict : Tryz.prog.funcs[n_ref12_conflict]? = some Tryz.f118 := Tryz.func118
/-- guerdon/guerdonref17.hasField -/
def c_ref17_hasField : FC :=
  (.seq (.reg none [⟨6, (.op (.mv (.k (.bool false)))), none⟩] [6])
  (.seq (.seq (.reg none [⟨7, (.op (.mv (.k (.int .i64 0)))), none⟩] [])
  (.block 0 (.loop (.seq (.seq (.reg none [⟨8, (.op (.mv (.t 7))), none⟩, ⟨9, (.op (.mv (.t 1))), none⟩, ⟨10, (.op (.bin .lss (.t 8) (.t 9))), none⟩, ⟨11, (.op (.mv (.t 10))), none⟩, ⟨12, (.op (.mv (.t 7))), some (11, true)⟩, ⟨13, (.op (.mv (.t 0))), some (11, true)⟩, ⟨14, (.op (.len (.t 13))), some (11, true)⟩, ⟨15, (.op (.bin .lss (.t 12) (.t 14))), some (11, true)⟩, ⟨16, (.op (.pick (.t 11) (.t 15) (.k (.bool false)))), none⟩] [8, 9, 10, 11, 12, 13, 14, 15])
      (.cond (.t 16)
        .skip
        (.exit 0)))
      (.seq (.block 1 (.seq (.reg none [⟨19, (.op (.mv (.t 0))), none⟩, ⟨20, (.op (.mv (.t 7))), none⟩, ⟨21, (.op (.ia (.t 19) (.t 20) 3)), none⟩, ⟨22, (.op (.fa (.t 21) 0)), none⟩, ⟨23, (.op (.load (.t 22) 1 false)), none⟩, ⟨24, (.op (.mv (.t 2))), none⟩, ⟨25, (.op (.bin .eql (.t 23) (.t 24))), none⟩] [16, 19, 20, 21, 22, 23, 24])
        (.cond (.t 25)
          (.seq (.reg none [⟨6, (.op (.mv (.k (.bool true)))), none⟩] [0, 1, 2, 7, 25])
          .ret)
          .skip)))
      (.reg none [⟨17, (.op (.mv (.t 7))), none⟩, ⟨18, (.op (.bin .add (.t 17) (.k (.int .i64 1)))), none⟩, ⟨7, (.op (.mv (.t 18))), none⟩] [17, 18, 25]))))))
  (.seq (.reg none [⟨6, (.op (.mv (.k (.bool false)))), none⟩] [0, 1, 2, 7, 16])
  .ret)))
theorem k_ref17_hasField : fnOk Tryz.prog Tryz.f119 c_ref17_hasField 26 3 [.t 6] = true := by kernel_rfl
theorem u_ref17_hasField : Tryz.prog.funcs[n_ref17_hasField]? = some Tryz.f119 := Tryz.func119
/-- guerdon/guerdonref05.Valid -/
def c_ref05_Valid : FC :=
  (.seq (.reg none [⟨1, (.op (.box (.t 0))), none⟩, ⟨2, (.op (.mv (.k (.bool false)))), none⟩] [0, 2])
  (.seq (.reg none [⟨3, (.op (.fa (.t 1) 0)), none⟩, ⟨4, (.op (.load (.t 3) 1 false)), none⟩, ⟨5, (.op (.bin .geq (.t 4) (.k (.int .i64 0)))), none⟩, ⟨6, (.op (.mv (.t 5))), none⟩, ⟨7, (.op (.fa (.t 1) 0)), some (6, true)⟩, ⟨8, (.op (.load (.t 7) 1 false)), some (6, true)⟩, ⟨9, (.op (.fa (.t 1) 1)), some (6, true)⟩, ⟨10, (.op (.load (.t 9) 1 false)), some (6, true)⟩, ⟨11, (.op (.bin .leq (.t 8) (.t 10))), some (6, true)⟩, ⟨12, (.op (.pick (.t 6) (.t 11) (.k (.bool false)))), none⟩, ⟨13, (.op (.mv (.t 12))), none⟩, ⟨14, (.op (.fa (.t 1) 1)), some (13, true)⟩, ⟨15, (.op (.load (.t 14) 1 false)), some (13, true)⟩, ⟨16, (.op (.bin .leq (.t 15) (.k (.int .i64 109573)))), some (13, true)⟩, ⟨17, (.op (.pick (.t 13) (.t 16) (.k (.bool false)))), none⟩, ⟨2, (.op (.mv (.t 17))), none⟩] [1, 3, 4, 5, 6, 7, 8, 9, 10, 11, 12, 13, 14, 15, 16, 17])
  .ret))
theorem k_ref05_Valid : fnOk Tryz.prog Tryz.f120 c_ref05_Valid 18 1 [.t 2] = true := by kernel_rfl
theorem u_ref05_Valid : Tryz.prog.funcs[n_ref05_Valid]? = some Tryz.f120 := Tryz.func120
/-- guerdon/guerdonref17.plainText -/
def c_ref17_plainText : FC :=
  (.seq (.reg none [⟨2, (.op (.mv (.k (.bool false)))), none⟩] [2])
  (.seq (.seq (.reg none [⟨3, (.op (.mv (.k (.int .i64 0)))), none⟩] [])
  (.block 0 (.loop (.seq (.seq (.reg none [⟨4, (.op (.mv (.t 3))), none⟩, ⟨5, (.op (.mv (.t 0))), none⟩, ⟨6, (.op (.lenS (.t 5))), none⟩, ⟨7, (.op (.bin .lss (.t 4) (.t 6))), none⟩] [4, 5, 6])
      (.cond (.t 7)
        .skip
        (.exit 0)))
      (.seq (.block 1 (.seq (.reg none [⟨10, (.op (.mv (.t 0))), none⟩, ⟨11, (.op (.mv (.t 3))), none⟩, ⟨12, (.op (.index (.t 10) (.t 11))), none⟩, ⟨13, (.op (.bin .lss (.t 12) (.k (.int .u8 32)))), none⟩, ⟨14, (.op (.mv (.t 13))), none⟩, ⟨15, (.op (.mv (.t 0))), some (14, false)⟩, ⟨16, (.op (.mv (.t 3))), some (14, false)⟩, ⟨17, (.op (.index (.t 15) (.t 16))), some (14, false)⟩, ⟨18, (.op (.bin .gtr (.t 17) (.k (.int .u8 126)))), some (14, false)⟩, ⟨19, (.op (.pick (.t 14) (.k (.bool true)) (.t 18))), none⟩, ⟨20, (.op (.mv (.t 19))), none⟩, ⟨21, (.op (.mv (.t 0))), some (20, false)⟩, ⟨22, (.op (.mv (.t 3))), some (20, false)⟩, ⟨23, (.op (.index (.t 21) (.t 22))), some (20, false)⟩, ⟨24, (.op (.bin .eql (.t 23) (.k (.int .u8 34)))), some (20, false)⟩, ⟨25, (.op (.pick (.t 20) (.k (.bool true)) (.t 24))), none⟩] [7, 10, 11, 12, 13, 14, 15, 16, 17, 18, 19, 20, 21, 22, 23, 24])
        (.cond (.t 25)
          (.seq (.reg none [⟨2, (.op (.mv (.k (.bool false)))), none⟩] [0, 3, 25])
          .ret)
          .skip)))
      (.reg none [⟨8, (.op (.mv (.t 3))), none⟩, ⟨9, (.op (.bin .add (.t 8) (.k (.int .i64 1)))), none⟩, ⟨3, (.op (.mv (.t 9))), none⟩] [8, 9, 25]))))))
  (.seq (.reg none [⟨26, (.op (.mv (.t 0))), none⟩, ⟨27, (.op (.lenS (.t 26))), none⟩, ⟨28, (.op (.bin .leq (.t 27) (.k (.int .i64 64)))), none⟩, ⟨2, (.op (.mv (.t 28))), none⟩] [0, 3, 7, 26, 27, 28])
  .ret)))
theorem k_ref17_plainText : fnOk Tryz.prog Tryz.f121 c_ref17_plainText 29 1 [.t 2] = true := by kernel_rfl
theorem u_ref17_plainText : Tryz.prog.funcs[n_ref17_plainText]? = some Tryz.f121 := Tryz.func121
/-- guerdon/guerdonref17.exprError -/
def c_ref17_exprError : FC :=
  (.seq (.reg none [⟨4, (.op (.box (.t 1))), none⟩, ⟨5, (.op (.box (.t 2))), none⟩, ⟨6, (.op (.mv (.k (.int .i64 0)))), none⟩] [1, 2, 6])
  (.seq (.reg none [⟨11, (.op (.mv (.t 0))), none⟩, ⟨12, (.op (.loadM true (.t 4) 6 true)), none⟩, ⟨13, (.callL n_ref10_TypeOf [.t 11, .t 12]), none⟩, ⟨10, (.op (.mvP true (.t 13))), none⟩, ⟨14, (.op (.extract 10 0)), none⟩, ⟨15, (.op (.extract 10 1)), none⟩, ⟨16, (.op (.extract 10 2)), none⟩, ⟨7, (.op (.alloc [(.int .i64 0), (.int .i64 0)])), none⟩, ⟨0, (.op (.store (.t 7) (.t 14) 2 true)), none⟩, ⟨8, (.op (.mvP true (.t 15))), none⟩, ⟨9, (.op (.mvP true (.t 16))), none⟩] [0, 4, 8, 10, 11, 12, 13, 14, 15, 16])
  (.seq (.seq (.reg none [⟨17, (.op (.mv (.t 9))), none⟩, ⟨18, (.op (.bin .neq (.t 17) (.k (.int .i64 0)))), none⟩] [17])
  (.cond (.t 18)
    (.seq (.reg none [⟨19, (.op (.mv (.t 9))), none⟩, ⟨6, (.op (.mv (.t 19))), none⟩] [5, 7, 9, 18, 19])
    .ret)
    .skip))
  (.seq (.seq (.reg none [⟨20, (.op (.load (.t 7) 2 true)), none⟩, ⟨21, (.op (.load (.t 5) 2 true)), none⟩, ⟨22, (.op (.eqS true [0, 0] (.t 20) (.t 21))), none⟩] [5, 7, 9, 18, 20, 21])
  (.cond (.t 22)
    (.seq (.reg none [⟨6, (.op (.mv (.k (.int .i64 8)))), none⟩] [22])
    .ret)
    .skip))
  (.seq (.reg none [⟨6, (.op (.mv (.k (.int .i64 0)))), none⟩] [22])
  .ret)))))
theorem k_ref17_exprError : fnOk Tryz.prog Tryz.f122 c_ref17_exprError 23 3 [.t 6] = true := by kernel_rfl
theorem u_ref17_exprError : Tryz.prog.funcs[n_ref17_exprError]? = some Tryz.f122 := Tryz.func122
/-- guerdon/guerdonref16.Direct -/
def c_ref16_Direct : FC :=
  (.seq (.reg none [⟨2, (.op (.box (.t 0))), none⟩, ⟨4, (.op (.mv (.k (.arr [])))), none⟩] [0, 4])
  (.seq (.reg none [⟨5, (.op (.mv (.k (.arr [])))), none⟩] [])
  (.seq (.seq (.reg none [⟨15, (.op (.load (.t 2) 5 true)), none⟩, ⟨16, (.op (.mv (.t 1))), none⟩, ⟨17, (.callL n_ref16_is [.t 15, .t 16]), none⟩, ⟨18, (.op (.un .not (.t 17))), none⟩] [15, 16, 17])
  (.cond (.t 18)
    (.seq (.reg none [⟨4, (.op (.mv (.k (.arr [])))), none⟩] [1, 2, 18])
    .ret)
    .skip))
  (.seq (.seq (.reg none [⟨6, (.op (.mv (.k (.int .i64 0)))), none⟩] [18])
  (.block 0 (.loop (.seq (.seq (.reg none [⟨19, (.op (.mv (.t 6))), none⟩, ⟨20, (.op (.fa (.t 2) 4)), none⟩, ⟨21, (.op (.load (.t 20) 1 false)), none⟩, ⟨22, (.op (.len (.t 21))), none⟩, ⟨23, (.op (.bin .lss (.t 19) (.t 22))), none⟩] [19, 20, 21, 22])
      (.cond (.t 23)
        .skip
        (.exit 0)))
      (.seq (.block 1 (.seq (.seq (.reg none [⟨26, (.op (.fa (.t 2) 4)), none⟩, ⟨27, (.op (.load (.t 26) 1 false)), none⟩, ⟨28, (.op (.mv (.t 6))), none⟩, ⟨29, (.op (.ia (.t 27) (.t 28) 9)), none⟩, ⟨30, (.op (.fa (.t 29) 1)), none⟩, ⟨31, (.op (.load (.t 30) 1 false)), none⟩, ⟨32, (.op (.mv (.t 1))), none⟩, ⟨33, (.op (.bin .neq (.t 31) (.t 32))), none⟩] [23, 26, 27, 28, 29, 30, 31, 32])
        (.cond (.t 33)
          (.exit 1)
          .skip))
        (.seq (.reg none [⟨35, (.op (.fa (.t 2) 4)), none⟩, ⟨36, (.op (.load (.t 35) 1 false)), none⟩, ⟨37, (.op (.mv (.t 6))), none⟩, ⟨38, (.op (.ia (.t 36) (.t 37) 9)), none⟩, ⟨39, (.op (.fa (.t 38) 6)), none⟩, ⟨40, (.op (.load (.t 39) 1 false)), none⟩, ⟨41, (.callL n_ref10_References [.t 40]), none⟩, ⟨34, (.op (.mvP true (.t 41))), none⟩, ⟨42, (.op (.extract 34 0)), none⟩, ⟨43, (.op (.extract 34 1)), none⟩, ⟨44, (.op (.extract 34 2)), none⟩, ⟨7, (.op (.mvP true (.t 42))), none⟩, ⟨8, (.op (.mvP true (.t 43))), none⟩, ⟨9, (.op (.mvP true (.t 44))), none⟩] [7, 9, 33, 34, 35, 36, 37, 38, 39, 40, 41, 42, 43, 44])
        (.seq (.reg none [⟨46, (.op (.fa (.t 2) 4)), none⟩, ⟨47, (.op (.load (.t 46) 1 false)), none⟩, ⟨48, (.op (.mv (.t 6))), none⟩, ⟨49, (.op (.ia (.t 47) (.t 48) 9)), none⟩, ⟨50, (.op (.fa (.t 49) 7)), none⟩, ⟨51, (.op (.load (.t 50) 1 false)), none⟩, ⟨52, (.callL n_ref10_References [.t 51]), none⟩, ⟨45, (.op (.mvP true (.t 52))), none⟩, ⟨53, (.op (.extract 45 0)), none⟩, ⟨54, (.op (.extract 45 1)), none⟩, ⟨55, (.op (.extract 45 2)), none⟩, ⟨10, (.op (.mvP true (.t 53))), none⟩, ⟨11, (.op (.mvP true (.t 54))), none⟩, ⟨12, (.op (.mvP true (.t 55))), none⟩] [10, 12, 45, 46, 47, 48, 49, 50, 51, 52, 53, 54, 55])
        (.seq (.seq (.reg none [⟨13, (.op (.mv (.k (.int .i64 0)))), none⟩] [])
        (.block 2 (.loop (.seq (.seq (.reg none [⟨56, (.op (.mv (.t 13))), none⟩, ⟨57, (.op (.mv (.t 8))), none⟩, ⟨58, (.op (.len (.t 57))), none⟩, ⟨59, (.op (.bin .lss (.t 56) (.t 58))), none⟩] [56, 57, 58])
            (.cond (.t 59)
              .skip
              (.exit 2)))
            (.seq (.block 3 (.seq (.reg (some 6) [⟨62, (.op (.load (.t 2) 5 true)), none⟩, ⟨63, (.op (.mv (.t 8))), none⟩, ⟨64, (.op (.mv (.t 13))), none⟩, ⟨65, (.op (.ia (.t 63) (.t 64) 1)), none⟩, ⟨66, (.op (.load (.t 65) 1 false)), none⟩, ⟨67, (.callL n_ref16_is [.t 62, .t 66]), none⟩] [59, 62, 63, 64, 65, 66])
              (.cond (.t 67)
                (.reg none [⟨68, (.op (.mv (.t 5))), none⟩, ⟨69, (.op (.mv (.t 8))), none⟩, ⟨70, (.op (.mv (.t 13))), none⟩, ⟨71, (.op (.ia (.t 69) (.t 70) 1)), none⟩, ⟨72, (.op (.load (.t 71) 1 false)), none⟩, ⟨73, (.callB n_ref16_insert [.t 68, .t 72]), none⟩, ⟨5, (.op (.mvP true (.t 73))), none⟩] [67, 68, 69, 70, 71, 72, 73])
                .skip)))
            (.reg none [⟨60, (.op (.mv (.t 13))), none⟩, ⟨61, (.op (.bin .add (.t 60) (.k (.int .i64 1)))), none⟩, ⟨13, (.op (.mv (.t 61))), none⟩] [60, 61, 67]))))))
        (.seq (.reg none [⟨14, (.op (.mv (.k (.int .i64 0)))), none⟩] [8, 13, 59])
        (.block 4 (.loop (.seq (.seq (.reg none [⟨74, (.op (.mv (.t 14))), none⟩, ⟨75, (.op (.mv (.t 11))), none⟩, ⟨76, (.op (.len (.t 75))), none⟩, ⟨77, (.op (.bin .lss (.t 74) (.t 76))), none⟩] [74, 75, 76])
            (.cond (.t 77)
              .skip
              (.exit 4)))
            (.seq (.block 5 (.seq (.reg (some 6) [⟨80, (.op (.load (.t 2) 5 true)), none⟩, ⟨81, (.op (.mv (.t 11))), none⟩, ⟨82, (.op (.mv (.t 14))), none⟩, ⟨83, (.op (.ia (.t 81) (.t 82) 1)), none⟩, ⟨84, (.op (.load (.t 83) 1 false)), none⟩, ⟨85, (.callL n_ref16_is [.t 80, .t 84]), none⟩] [77, 80, 81, 82, 83, 84])
              (.cond (.t 85)
                (.reg none [⟨86, (.op (.mv (.t 5))), none⟩, ⟨87, (.op (.mv (.t 11))), none⟩, ⟨88, (.op (.mv (.t 14))), none⟩, ⟨89, (.op (.ia (.t 87) (.t 88) 1)), none⟩, ⟨90, (.op (.load (.t 89) 1 false)), none⟩, ⟨91, (.callB n_ref16_insert [.t 86, .t 90]), none⟩, ⟨5, (.op (.mvP true (.t 91))), none⟩] [85, 86, 87, 88, 89, 90, 91])
                .skip)))
            (.reg none [⟨78, (.op (.mv (.t 14))), none⟩, ⟨79, (.op (.bin .add (.t 78) (.k (.int .i64 1)))), none⟩, ⟨14, (.op (.mv (.t 79))), none⟩] [78, 79, 85])))))))))))
      (.reg none [⟨24, (.op (.mv (.t 6))), none⟩, ⟨25, (.op (.bin .add (.t 24) (.k (.int .i64 1)))), none⟩, ⟨6, (.op (.mv (.t 25))), none⟩] [11, 14, 24, 25, 33, 77]))))))
  (.seq (.reg none [⟨92, (.op (.mv (.t 5))), none⟩, ⟨4, (.op (.mv (.t 92))), none⟩] [1, 2, 6, 23])
  .ret)))))
theorem k_ref16_Direct : fnOk Tryz.prog Tryz.f123 c_ref16_Direct 93 2 [.t 4] = true := by kernel_rfl
theorem u_ref16_Direct : Tryz.prog.funcs[n_ref16_Direct]? = some Tryz.f123 := Tryz.func123
/-- guerdon/guerdonref16.insert -/
def c_ref16_insert : FC :=
  (.seq (.reg none [⟨4, (.op (.mv (.k (.arr [])))), none⟩] [4])
  (.seq (.reg none [⟨5, (.op (.mv (.k (.arr [])))), none⟩] [])
  (.seq (.reg none [⟨6, (.op (.mv (.k (.bool false)))), none⟩] [])
  (.seq (.seq (.reg none [⟨7, (.op (.mv (.k (.int .i64 0)))), none⟩] [])
  (.block 0 (.loop (.seq (.seq (.reg none [⟨8, (.op (.mv (.t 7))), none⟩, ⟨9, (.op (.mv (.t 0))), none⟩, ⟨10, (.op (.len (.t 9))), none⟩, ⟨11, (.op (.bin .lss (.t 8) (.t 10))), none⟩] [8, 9, 10])
      (.cond (.t 11)
        .skip
        (.exit 0)))
      (.seq (.block 1 (.seq (.seq (.reg none [⟨14, (.op (.mv (.t 6))), none⟩, ⟨15, (.op (.un .not (.t 14))), none⟩, ⟨16, (.op (.mv (.t 15))), none⟩, ⟨17, (.op (.mv (.t 0))), some (16, true)⟩, ⟨18, (.op (.mv (.t 7))), some (16, true)⟩, ⟨19, (.op (.ia (.t 17) (.t 18) 1)), some (16, true)⟩, ⟨20, (.op (.load (.t 19) 1 false)), some (16, true)⟩, ⟨21, (.op (.mv (.t 1))), some (16, true)⟩, ⟨22, (.op (.bin .geq (.t 20) (.t 21))), some (16, true)⟩, ⟨23, (.op (.pick (.t 16) (.t 22) (.k (.bool false)))), none⟩] [11, 14, 15, 16, 17, 18, 19, 20, 21, 22])
        (.cond (.t 23)
          (.seq (.seq (.reg none [⟨24, (.op (.mv (.t 0))), none⟩, ⟨25, (.op (.mv (.t 7))), none⟩, ⟨26, (.op (.ia (.t 24) (.t 25) 1)), none⟩, ⟨27, (.op (.load (.t 26) 1 false)), none⟩, ⟨28, (.op (.mv (.t 1))), none⟩, ⟨29, (.op (.bin .gtr (.t 27) (.t 28))), none⟩] [6, 23, 24, 25, 26, 27, 28])
          (.cond (.t 29)
            (.reg none [⟨30, (.op (.mv (.t 5))), none⟩, ⟨31, (.op (.mv (.t 1))), none⟩, ⟨32, (.op (.buildSl [(.int .i64 0)] 1 [0] [.t 31])), none⟩, ⟨33, (.op (.app (.t 30) (.t 32) 1 8)), none⟩, ⟨5, (.op (.mvP true (.t 33))), none⟩] [29, 30, 31, 32, 33])
            .skip))
          (.reg none [⟨6, (.op (.mv (.k (.bool true)))), none⟩] [29]))
          .skip))
        (.reg none [⟨34, (.op (.mv (.t 5))), none⟩, ⟨35, (.op (.mv (.t 0))), none⟩, ⟨36, (.op (.mv (.t 7))), none⟩, ⟨37, (.op (.ia (.t 35) (.t 36) 1)), none⟩, ⟨38, (.op (.load (.t 37) 1 false)), none⟩, ⟨39, (.op (.buildSl [(.int .i64 0)] 1 [0] [.t 38])), none⟩, ⟨40, (.op (.app (.t 34) (.t 39) 1 8)), none⟩, ⟨5, (.op (.mvP true (.t 40))), none⟩] [23, 34, 35, 36, 37, 38, 39, 40])))
      (.reg none [⟨12, (.op (.mv (.t 7))), none⟩, ⟨13, (.op (.bin .add (.t 12) (.k (.int .i64 1)))), none⟩, ⟨7, (.op (.mv (.t 13))), none⟩] [12, 13]))))))
  (.seq (.seq (.reg none [⟨41, (.op (.mv (.t 6))), none⟩, ⟨42, (.op (.un .not (.t 41))), none⟩] [0, 6, 7, 11, 41])
  (.cond (.t 42)
    (.reg none [⟨43, (.op (.mv (.t 5))), none⟩, ⟨44, (.op (.mv (.t 1))), none⟩, ⟨45, (.op (.buildSl [(.int .i64 0)] 1 [0] [.t 44])), none⟩, ⟨46, (.op (.app (.t 43) (.t 45) 1 8)), none⟩, ⟨5, (.op (.mvP true (.t 46))), none⟩] [1, 42, 43, 44, 45, 46])
    .skip))
  (.seq (.reg none [⟨47, (.op (.mv (.t 5))), none⟩, ⟨4, (.op (.mv (.t 47))), none⟩] [1, 42])
  .ret))))))
theorem k_ref16_insert : fnOk Tryz.prog Tryz.f124 c_ref16_insert 48 2 [.t 4] = true := by kernel_rfl
theorem u_ref16_insert : Tryz.prog.funcs[n_ref16_insert]? = some Tryz.f124 := Tryz.func124
/-- guerdon/guerdonsame.Rows -/
def c_same_Rows : FC :=
  (.seq (.reg none [⟨4, (.op (.mv (.k (.bool false)))), none⟩] [4])
  (.seq (.seq (.reg none [⟨6, (.op (.mv (.t 0))), none⟩, ⟨7, (.op (.len (.t 6))), none⟩, ⟨8, (.op (.mv (.t 1))), none⟩, ⟨9, (.op (.len (.t 8))), none⟩, ⟨10, (.op (.bin .neq (.t 7) (.t 9))), none⟩] [6, 7, 8, 9])
  (.cond (.t 10)
    (.seq (.reg none [⟨4, (.op (.mv (.k (.bool false)))), none⟩] [0, 1, 10])
    .ret)
    .skip))
  (.seq (.seq (.reg none [⟨5, (.op (.mv (.k (.int .i64 0)))), none⟩] [10])
  (.block 0 (.loop (.seq (.seq (.reg none [⟨11, (.op (.mv (.t 5))), none⟩, ⟨12, (.op (.mv (.t 0))), none⟩, ⟨13, (.op (.len (.t 12))), none⟩, ⟨14, (.op (.bin .lss (.t 11) (.t 13))), none⟩, ⟨15, (.op (.mv (.t 14))), none⟩, ⟨16, (.op (.mv (.t 5))), some (15, true)⟩, ⟨17, (.op (.mv (.t 1))), some (15, true)⟩, ⟨18, (.op (.len (.t 17))), some (15, true)⟩, ⟨19, (.op (.bin .lss (.t 16) (.t 18))), some (15, true)⟩, ⟨20, (.op (.pick (.t 15) (.t 19) (.k (.bool false)))), none⟩] [11, 12, 13, 14, 15, 16, 17, 18, 19])
      (.cond (.t 20)
        .skip
        (.exit 0)))
      (.seq (.block 1 (.seq (.reg (some 9) [⟨23, (.op (.mv (.t 0))), none⟩, ⟨24, (.op (.mv (.t 5))), none⟩, ⟨25, (.op (.ia (.t 23) (.t 24) 5)), none⟩, ⟨26, (.op (.load (.t 25) 5 true)), none⟩, ⟨27, (.op (.mv (.t 1))), none⟩, ⟨28, (.op (.mv (.t 5))), none⟩, ⟨29, (.op (.ia (.t 27) (.t 28) 5)), none⟩, ⟨30, (.op (.load (.t 29) 5 true)), none⟩, ⟨31, (.op (.eqS true [0, 0, 0, 0, 0] (.t 26) (.t 30))), none⟩] [20, 23, 24, 25, 26, 27, 28, 29, 30])
        (.cond (.t 31)
          (.seq (.reg none [⟨4, (.op (.mv (.k (.bool false)))), none⟩] [0, 1, 5, 31])
          .ret)
          .skip)))
      (.reg none [⟨21, (.op (.mv (.t 5))), none⟩, ⟨22, (.op (.bin .add (.t 21) (.k (.int .i64 1)))), none⟩, ⟨5, (.op (.mv (.t 22))), none⟩] [21, 22, 31]))))))
  (.seq (.reg none [⟨4, (.op (.mv (.k (.bool true)))), none⟩] [0, 1, 5, 20])
  .ret))))
theorem k_same_Rows : fnOk Tryz.prog Tryz.f125 c_same_Rows 32 2 [.t 4] = true := by kernel_rfl
theorem u_same_Rows : Tryz.prog.funcs[n_same_Rows]? = some Tryz.f125 := Tryz.func125
/-- guerdon/expr.Arity -/
def c_expr_Arity : FC :=
  (.seq (.reg none [⟨2, (.op (.mv (.k (.int .i64 0)))), none⟩] [2])
  (.seq (.block 0 (.seq (.reg none [⟨4, (.op (.mv (.t 0))), none⟩, ⟨5, (.op (.bin .lss (.t 4) (.k (.int .i64 1)))), none⟩, ⟨6, (.op (.mv (.t 5))), none⟩, ⟨7, (.op (.mv (.t 0))), some (6, false)⟩, ⟨8, (.op (.bin .gtr (.t 7) (.k (.int .i64 39)))), some (6, false)⟩, ⟨9, (.op (.pick (.t 6) (.k (.bool true)) (.t 8))), none⟩, ⟨3, (.op (.mv (.t 9))), none⟩] [4, 5, 6, 7, 8, 9])
    (.cond (.t 3)
      (.seq (.reg none [⟨2, (.op (.mv (.k (.int .i64 (-1))))), none⟩] [0, 3])
      .ret)
      (.seq (.reg none [⟨11, (.op (.mv (.t 0))), none⟩, ⟨12, (.op (.bin .eql (.t 11) (.k (.int .i64 26)))), none⟩, ⟨10, (.op (.mv (.t 12))), none⟩] [3, 11, 12])
      (.cond (.t 10)
        (.seq (.reg none [⟨2, (.op (.mv (.k (.int .i64 3)))), none⟩] [0, 10])
        .ret)
        (.seq (.seq (.reg none [⟨14, (.op (.mv (.t 0))), none⟩, ⟨15, (.op (.bin .eql (.t 14) (.k (.int .i64 10)))), none⟩, ⟨13, (.op (.mv (.t 15))), none⟩] [10, 14, 15])
        (.cond (.t 13)
          .skip
          (.seq (.reg none [⟨16, (.op (.mv (.t 0))), none⟩, ⟨17, (.op (.bin .eql (.t 16) (.k (.int .i64 25)))), none⟩, ⟨13, (.op (.mv (.t 17))), none⟩] [16, 17])
          (.cond (.t 13)
            .skip
            (.seq (.reg none [⟨18, (.op (.mv (.t 0))), none⟩, ⟨19, (.op (.bin .eql (.t 18) (.k (.int .i64 31)))), none⟩, ⟨13, (.op (.mv (.t 19))), none⟩] [18, 19])
            (.cond (.t 13)
              .skip
              (.seq (.reg none [⟨20, (.op (.mv (.t 0))), none⟩, ⟨21, (.op (.bin .eql (.t 20) (.k (.int .i64 32)))), none⟩, ⟨13, (.op (.mv (.t 21))), none⟩] [20, 21])
              (.cond (.t 13)
                .skip
                (.seq (.reg none [⟨22, (.op (.mv (.t 0))), none⟩, ⟨23, (.op (.bin .eql (.t 22) (.k (.int .i64 33)))), none⟩, ⟨13, (.op (.mv (.t 23))), none⟩] [22, 23])
                (.cond (.t 13)
                  .skip
                  (.reg none [⟨24, (.op (.mv (.t 0))), none⟩, ⟨25, (.op (.bin .eql (.t 24) (.k (.int .i64 34)))), none⟩, ⟨13, (.op (.mv (.t 25))), none⟩] [24, 25])))))))))))
        (.cond (.t 13)
          (.seq (.reg none [⟨2, (.op (.mv (.k (.int .i64 1)))), none⟩] [0, 13])
          .ret)
          (.seq (.seq (.reg none [⟨27, (.op (.mv (.t 0))), none⟩, ⟨28, (.op (.bin .leq (.t 27) (.k (.int .i64 9)))), none⟩, ⟨26, (.op (.mv (.t 28))), none⟩] [13, 27, 28])
          (.cond (.t 26)
            .skip
            (.reg none [⟨29, (.op (.mv (.t 0))), none⟩, ⟨30, (.op (.bin .geq (.t 29) (.k (.int .i64 35)))), none⟩, ⟨26, (.op (.mv (.t 30))), none⟩] [0, 29, 30])))
          (.cond (.t 26)
            (.seq (.reg none [⟨2, (.op (.mv (.k (.int .i64 0)))), none⟩] [0, 26])
            .ret)
            .skip)))))))))
  (.seq (.reg none [⟨2, (.op (.mv (.k (.int .i64 2)))), none⟩] [0, 26])
  .ret)))
theorem k_expr_Arity : fnOk Tryz.prog Tryz.f126 c_expr_Arity 31 1 [.t 2] = true := by kernel_rfl
theorem u_expr_Arity : Tryz.prog.funcs[n_expr_Arity]? = some Tryz.f126 := Tryz.func126
/-- guerdon/expr.number -/
def c_expr_number : FC :=
  (.seq (.reg none [⟨1, (.op (.box (.t 0))), none⟩, ⟨2, (.op (.mv (.k (.int .i64 0)))), none⟩] [0, 2])
  (.seq (.seq (.reg none [⟨5, (.op (.fa (.t 1) 1)), none⟩, ⟨6, (.op (.load (.t 5) 1 false)), none⟩, ⟨7, (.op (.bin .neq (.t 6) (.k (.int .i64 0)))), none⟩, ⟨8, (.op (.mv (.t 7))), none⟩, ⟨9, (.op (.fa (.t 1) 0)), some (8, true)⟩, ⟨10, (.op (.load (.t 9) 1 false)), some (8, true)⟩, ⟨11, (.callL n_expr_meaning [.t 10]), some (8, true)⟩, ⟨12, (.op (.un .not (.t 11))), some (8, true)⟩, ⟨13, (.op (.pick (.t 8) (.t 12) (.k (.bool false)))), none⟩] [5, 6, 7, 8, 9, 10, 11, 12])
  (.cond (.t 13)
    (.seq (.reg none [⟨2, (.op (.mv (.k (.int .i64 2)))), none⟩] [1, 13])
    .ret)
    .skip))
  (.seq (.seq (.reg none [⟨14, (.op (.fa (.t 1) 0)), none⟩, ⟨15, (.op (.load (.t 14) 1 false)), none⟩] [13, 14])
  (.block 0 (.seq (.seq (.reg none [⟨17, (.op (.bin .eql (.t 15) (.k (.int .i64 1)))), none⟩, ⟨16, (.op (.mv (.t 17))), none⟩] [17])
    (.cond (.t 16)
      .skip
      (.seq (.reg none [⟨18, (.op (.bin .eql (.t 15) (.k (.int .i64 2)))), none⟩, ⟨16, (.op (.mv (.t 18))), none⟩] [18])
      (.cond (.t 16)
        .skip
        (.seq (.reg none [⟨19, (.op (.bin .eql (.t 15) (.k (.int .i64 3)))), none⟩, ⟨16, (.op (.mv (.t 19))), none⟩] [19])
        (.cond (.t 16)
          .skip
          (.seq (.reg none [⟨20, (.op (.bin .eql (.t 15) (.k (.int .i64 4)))), none⟩, ⟨16, (.op (.mv (.t 20))), none⟩] [20])
          (.cond (.t 16)
            .skip
            (.reg none [⟨21, (.op (.bin .eql (.t 15) (.k (.int .i64 5)))), none⟩, ⟨16, (.op (.mv (.t 21))), none⟩] [21])))))))))
    (.cond (.t 16)
      (.seq (.reg none [⟨23, (.op (.fa (.t 1) 0)), none⟩, ⟨24, (.op (.load (.t 23) 1 false)), none⟩, ⟨25, (.op (.build [(.int .i64 0), (.int .i64 0)] [(0, 1)] [.t 24])), none⟩, ⟨26, (.callL n_value_Bounds [.t 25, .k (.sl true [])]), none⟩, ⟨22, (.op (.mvP true (.t 26))), none⟩, ⟨27, (.op (.extract 22 0)), none⟩, ⟨28, (.op (.extract 22 1)), none⟩, ⟨3, (.op (.mvP true (.t 27))), none⟩, ⟨4, (.op (.mvP true (.t 28))), none⟩] [15, 16, 22, 23, 24, 25, 26, 27, 28])
      (.seq (.reg none [⟨29, (.op (.fa (.t 1) 1)), none⟩, ⟨30, (.op (.load (.t 29) 1 false)), none⟩, ⟨31, (.op (.mv (.t 3))), none⟩, ⟨32, (.op (.bin .lss (.t 30) (.t 31))), none⟩, ⟨33, (.op (.mv (.t 32))), none⟩, ⟨34, (.op (.fa (.t 1) 1)), some (33, false)⟩, ⟨35, (.op (.load (.t 34) 1 false)), some (33, false)⟩, ⟨36, (.op (.mv (.t 4))), some (33, false)⟩, ⟨37, (.op (.bin .gtr (.t 35) (.t 36))), some (33, false)⟩, ⟨38, (.op (.pick (.t 33) (.k (.bool true)) (.t 37))), none⟩] [1, 3, 4, 29, 30, 31, 32, 33, 34, 35, 36, 37])
      (.cond (.t 38)
        (.seq (.reg none [⟨2, (.op (.mv (.k (.int .i64 3)))), none⟩] [38])
        .ret)
        .skip)))
      (.seq (.seq (.reg none [⟨40, (.op (.bin .eql (.t 15) (.k (.int .i64 14)))), none⟩, ⟨39, (.op (.mv (.t 40))), none⟩] [16, 40])
      (.cond (.t 39)
        .skip
        (.seq (.reg none [⟨41, (.op (.bin .eql (.t 15) (.k (.int .i64 15)))), none⟩, ⟨39, (.op (.mv (.t 41))), none⟩] [41])
        (.cond (.t 39)
          .skip
          (.reg none [⟨42, (.op (.bin .eql (.t 15) (.k (.int .i64 16)))), none⟩, ⟨39, (.op (.mv (.t 42))), none⟩] [42])))))
      (.cond (.t 39)
        (.seq (.reg none [⟨43, (.op (.fa (.t 1) 1)), none⟩, ⟨44, (.op (.load (.t 43) 1 false)), none⟩, ⟨45, (.op (.bin .lss (.t 44) (.k (.int .i64 0)))), none⟩, ⟨46, (.op (.mv (.t 45))), none⟩, ⟨47, (.op (.fa (.t 1) 1)), some (46, false)⟩, ⟨48, (.op (.load (.t 47) 1 false)), some (46, false)⟩, ⟨49, (.op (.bin .gtr (.t 48) (.k (.int .i64 5)))), some (46, false)⟩, ⟨50, (.op (.pick (.t 46) (.k (.bool true)) (.t 49))), none⟩] [1, 15, 39, 43, 44, 45, 46, 47, 48, 49])
        (.cond (.t 50)
          (.seq (.reg none [⟨2, (.op (.mv (.k (.int .i64 3)))), none⟩] [50])
          .ret)
          .skip))
        (.seq (.reg none [⟨52, (.op (.bin .eql (.t 15) (.k (.int .i64 6)))), none⟩, ⟨51, (.op (.mv (.t 52))), none⟩] [39, 52])
        (.cond (.t 51)
          (.seq (.reg none [⟨53, (.op (.fa (.t 1) 1)), none⟩, ⟨54, (.op (.load (.t 53) 1 false)), none⟩, ⟨55, (.op (.bin .lss (.t 54) (.k (.int .i64 0)))), none⟩] [1, 15, 51, 53, 54])
          (.cond (.t 55)
            (.seq (.reg none [⟨2, (.op (.mv (.k (.int .i64 3)))), none⟩] [55])
            .ret)
            .skip))
          (.seq (.reg none [⟨57, (.op (.bin .eql (.t 15) (.k (.int .i64 34)))), none⟩, ⟨56, (.op (.mv (.t 57))), none⟩] [15, 51, 57])
          (.cond (.t 56)
            (.seq (.reg none [⟨58, (.op (.fa (.t 1) 1)), none⟩, ⟨59, (.op (.load (.t 58) 1 false)), none⟩, ⟨60, (.op (.bin .lss (.t 59) (.k (.int .i64 0)))), none⟩, ⟨61, (.op (.mv (.t 60))), none⟩, ⟨62, (.op (.fa (.t 1) 1)), some (61, false)⟩, ⟨63, (.op (.load (.t 62) 1 false)), some (61, false)⟩, ⟨64, (.op (.bin .rem (.t 63) (.k (.int .i64 8)))), some (61, false)⟩, ⟨65, (.op (.bin .gtr (.t 64) (.k (.int .i64 5)))), some (61, false)⟩, ⟨66, (.op (.pick (.t 61) (.k (.bool true)) (.t 65))), none⟩] [1, 56, 58, 59, 60, 61, 62, 63, 64, 65])
            (.cond (.t 66)
              (.seq (.reg none [⟨2, (.op (.mv (.k (.int .i64 3)))), none⟩] [66])
              .ret)
              .skip))
            .skip))))))))))
  (.seq (.reg none [⟨2, (.op (.mv (.k (.int .i64 0)))), none⟩] [1, 38, 50, 55, 56, 66])
  .ret))))
theorem k_expr_number : fnOk Tryz.prog Tryz.f127 c_expr_number 67 1 [.t 2] = true := by kernel_rfl
theorem u_expr_number : Tryz.prog.funcs[n_expr_number]? = some Tryz.f127 := Tryz.func127
/-- guerdon/expr.leaf -/
def c_expr_leaf : FC :=
  (.seq (.reg none [⟨2, (.op (.box (.t 0))), none⟩, ⟨3, (.op (.box (.t 1))), none⟩, ⟨4, (.op (.alloc [(.int .i64 0), (.int .i64 0)])), none⟩, ⟨5, (.op (.mv (.k (.int .i64 0)))), none⟩] [0, 1, 5])
  (.seq (.reg none [⟨6, (.op (.alloc [(.int .i64 0), (.int .i64 0)])), none⟩] [])
  (.seq (.reg none [⟨7, (.op (.mv (.k (.int .i64 0)))), none⟩] [7])
  (.seq (.seq (.reg none [⟨10, (.op (.fa (.t 2) 0)), none⟩, ⟨11, (.op (.load (.t 10) 1 false)), none⟩] [10])
  (.block 0 (.seq (.reg none [⟨16, (.op (.bin .eql (.t 11) (.k (.int .i64 6)))), none⟩, ⟨15, (.op (.mv (.t 16))), none⟩] [16])
    (.cond (.t 15)
      (.seq (.reg none [⟨18, (.op (.fa (.t 3) 0)), none⟩, ⟨19, (.op (.load (.t 18) 1 false)), none⟩, ⟨20, (.op (.fa (.t 2) 1)), none⟩, ⟨21, (.op (.load (.t 20) 1 false)), none⟩, ⟨22, (.op (.bin .quo (.t 21) (.k (.int .i64 16)))), none⟩, ⟨23, (.callL n_expr_at_api_Enum [.t 19, .t 22]), none⟩, ⟨17, (.op (.mvP true (.t 23))), none⟩, ⟨24, (.op (.extract 17 0)), none⟩, ⟨25, (.op (.extract 17 1)), none⟩, ⟨8, (.op (.alloc [(.str []), (.sl true [])])), none⟩, ⟨0, (.op (.store (.t 8) (.t 24) 2 true)), none⟩, ⟨9, (.op (.mvP true (.t 25))), none⟩] [3, 11, 15, 17, 18, 19, 20, 21, 22, 23, 24, 25])
      (.seq (.seq (.reg none [⟨26, (.op (.mv (.t 9))), none⟩, ⟨27, (.op (.bin .eql (.t 26) (.k (.int .i64 0)))), none⟩] [26])
      (.cond (.t 27)
        (.reg none [⟨29, (.op (.fa (.t 8) 1)), none⟩, ⟨30, (.op (.load (.t 29) 1 false)), none⟩, ⟨31, (.op (.fa (.t 2) 1)), none⟩, ⟨32, (.op (.load (.t 31) 1 false)), none⟩, ⟨33, (.op (.bin .rem (.t 32) (.k (.int .i64 16)))), none⟩, ⟨34, (.callL n_expr_at_string [.t 30, .t 33]), none⟩, ⟨28, (.op (.mvP true (.t 34))), none⟩, ⟨35, (.op (.extract 28 0)), none⟩, ⟨36, (.op (.extract 28 1)), none⟩, ⟨9, (.op (.mvP true (.t 36))), none⟩] [8, 27, 28, 29, 30, 31, 32, 33, 34, 35, 36])
        .skip))
      (.seq (.seq (.reg none [⟨37, (.op (.mv (.t 9))), none⟩, ⟨38, (.op (.bin .neq (.t 37) (.k (.int .i64 0)))), none⟩] [8, 27, 37])
      (.cond (.t 38)
        (.seq (.reg none [⟨39, (.op (.load (.t 6) 2 true)), none⟩, ⟨40, (.op (.mv (.t 9))), none⟩, ⟨0, (.op (.store (.t 4) (.t 39) 2 true)), none⟩, ⟨5, (.op (.mv (.t 40))), none⟩] [2, 6, 9, 38, 39, 40])
        .ret)
        .skip))
      (.seq (.reg none [⟨41, (.op (.fa (.t 2) 1)), none⟩, ⟨42, (.op (.load (.t 41) 1 false)), none⟩, ⟨43, (.op (.bin .quo (.t 42) (.k (.int .i64 16)))), none⟩, ⟨44, (.op (.build [(.int .i64 0), (.int .i64 0)] [(0, 1), (1, 1)] [.k (.int .i64 6), .t 43])), none⟩, ⟨0, (.op (.store (.t 4) (.t 44) 2 true)), none⟩, ⟨5, (.op (.mv (.k (.int .i64 0)))), none⟩] [2, 6, 9, 38, 41, 42, 43, 44])
      .ret))))
      (.seq (.reg none [⟨46, (.op (.bin .eql (.t 11) (.k (.int .i64 7)))), none⟩, ⟨45, (.op (.mv (.t 46))), none⟩] [15, 46])
      (.cond (.t 45)
        (.reg none [⟨48, (.op (.fa (.t 3) 2)), none⟩, ⟨49, (.op (.load (.t 48) 1 false)), none⟩, ⟨50, (.op (.fa (.t 2) 1)), none⟩, ⟨51, (.op (.load (.t 50) 1 false)), none⟩, ⟨52, (.callL n_expr_at_api_Type [.t 49, .t 51]), none⟩, ⟨47, (.op (.mvP true (.t 52))), none⟩, ⟨53, (.op (.extract 47 0)), none⟩, ⟨54, (.op (.extract 47 1)), none⟩, ⟨0, (.op (.store (.t 6) (.t 53) 2 true)), none⟩, ⟨7, (.op (.mvP true (.t 54))), none⟩] [11, 45, 47, 48, 49, 50, 51, 52, 53, 54])
        (.seq (.reg none [⟨56, (.op (.bin .eql (.t 11) (.k (.int .i64 8)))), none⟩, ⟨55, (.op (.mv (.t 56))), none⟩] [45, 56])
        (.cond (.t 55)
          (.reg none [⟨58, (.op (.fa (.t 3) 3)), none⟩, ⟨59, (.op (.load (.t 58) 1 false)), none⟩, ⟨60, (.op (.fa (.t 2) 1)), none⟩, ⟨61, (.op (.load (.t 60) 1 false)), none⟩, ⟨62, (.callL n_expr_at_api_Type [.t 59, .t 61]), none⟩, ⟨57, (.op (.mvP true (.t 62))), none⟩, ⟨63, (.op (.extract 57 0)), none⟩, ⟨64, (.op (.extract 57 1)), none⟩, ⟨0, (.op (.store (.t 6) (.t 63) 2 true)), none⟩, ⟨7, (.op (.mvP true (.t 64))), none⟩] [11, 55, 57, 58, 59, 60, 61, 62, 63, 64])
          (.seq (.reg none [⟨66, (.op (.bin .eql (.t 11) (.k (.int .i64 9)))), none⟩, ⟨65, (.op (.mv (.t 66))), none⟩] [55, 66])
          (.cond (.t 65)
            (.seq (.reg none [⟨67, (.op (.build [(.int .i64 0), (.int .i64 0)] [(0, 1)] [.k (.int .i64 5)])), none⟩, ⟨0, (.op (.store (.t 4) (.t 67) 2 true)), none⟩, ⟨5, (.op (.mv (.k (.int .i64 0)))), none⟩] [2, 3, 6, 11, 65, 67])
            .ret)
            (.seq (.seq (.reg none [⟨69, (.op (.bin .eql (.t 11) (.k (.int .i64 35)))), none⟩, ⟨68, (.op (.mv (.t 69))), none⟩] [65, 69])
            (.cond (.t 68)
              .skip
              (.seq (.reg none [⟨70, (.op (.bin .eql (.t 11) (.k (.int .i64 36)))), none⟩, ⟨68, (.op (.mv (.t 70))), none⟩] [70])
              (.cond (.t 68)
                .skip
                (.seq (.reg none [⟨71, (.op (.bin .eql (.t 11) (.k (.int .i64 37)))), none⟩, ⟨68, (.op (.mv (.t 71))), none⟩] [71])
                (.cond (.t 68)
                  .skip
                  (.seq (.reg none [⟨72, (.op (.bin .eql (.t 11) (.k (.int .i64 38)))), none⟩, ⟨68, (.op (.mv (.t 72))), none⟩] [72])
                  (.cond (.t 68)
                    .skip
                    (.reg none [⟨73, (.op (.bin .eql (.t 11) (.k (.int .i64 39)))), none⟩, ⟨68, (.op (.mv (.t 73))), none⟩] [11, 73])))))))))
            (.cond (.t 68)
              (.seq (.seq (.reg none [⟨74, (.op (.fa (.t 3) 5)), none⟩, ⟨75, (.op (.load (.t 74) 1 false)), none⟩, ⟨76, (.op (.un .not (.t 75))), none⟩] [11, 68, 74, 75])
              (.cond (.t 76)
                (.seq (.reg none [⟨77, (.op (.load (.t 6) 2 true)), none⟩, ⟨0, (.op (.store (.t 4) (.t 77) 2 true)), none⟩, ⟨5, (.op (.mv (.k (.int .i64 6)))), none⟩] [2, 3, 6, 76, 77])
                .ret)
                .skip))
              (.seq (.seq (.reg none [⟨78, (.op (.fa (.t 2) 0)), none⟩, ⟨79, (.op (.load (.t 78) 1 false)), none⟩, ⟨80, (.op (.bin .eql (.t 79) (.k (.int .i64 35)))), none⟩] [76, 78, 79])
              (.cond (.t 80)
                (.seq (.reg none [⟨81, (.op (.build [(.int .i64 0), (.int .i64 0)] [(0, 1)] [.k (.int .i64 2)])), none⟩, ⟨0, (.op (.store (.t 4) (.t 81) 2 true)), none⟩, ⟨5, (.op (.mv (.k (.int .i64 0)))), none⟩] [2, 3, 6, 80, 81])
                .ret)
                .skip))
              (.reg none [⟨83, (.op (.fa (.t 3) 4)), none⟩, ⟨84, (.op (.load (.t 83) 1 false)), none⟩, ⟨85, (.op (.fa (.t 2) 1)), none⟩, ⟨86, (.op (.load (.t 85) 1 false)), none⟩, ⟨87, (.callL n_expr_at_api_Type [.t 84, .t 86]), none⟩, ⟨82, (.op (.mvP true (.t 87))), none⟩, ⟨88, (.op (.extract 82 0)), none⟩, ⟨89, (.op (.extract 82 1)), none⟩, ⟨0, (.op (.store (.t 6) (.t 88) 2 true)), none⟩, ⟨7, (.op (.mvP true (.t 89))), none⟩] [80, 82, 83, 84, 85, 86, 87, 88, 89])))
              (.seq (.reg none [⟨12, (.op (.fa (.t 2) 0)), none⟩, ⟨13, (.op (.load (.t 12) 1 false)), none⟩, ⟨14, (.op (.build [(.int .i64 0), (.int .i64 0)] [(0, 1)] [.t 13])), none⟩, ⟨0, (.op (.store (.t 4) (.t 14) 2 true)), none⟩, ⟨5, (.op (.mv (.k (.int .i64 0)))), none⟩] [2, 3, 6, 11, 12, 13, 14, 68])
              .ret)))))))))))))
  (.seq (.seq (.reg none [⟨90, (.op (.mv (.t 7))), none⟩, ⟨91, (.op (.bin .neq (.t 90) (.k (.int .i64 0)))), none⟩] [90])
  (.cond (.t 91)
    (.seq (.reg none [⟨92, (.op (.build [(.int .i64 0), (.int .i64 0)] [] [])), none⟩, ⟨93, (.op (.mv (.t 7))), none⟩, ⟨0, (.op (.store (.t 4) (.t 92) 2 true)), none⟩, ⟨5, (.op (.mv (.t 93))), none⟩] [2, 3, 6, 7, 91, 92, 93])
    .ret)
    .skip))
  (.seq (.seq (.reg none [⟨94, (.op (.load (.t 6) 2 true)), none⟩, ⟨95, (.op (.fa (.t 3) 0)), none⟩, ⟨96, (.op (.load (.t 95) 1 false)), none⟩, ⟨97, (.callL n_value_ValidType [.t 94, .t 96]), none⟩, ⟨98, (.op (.un .not (.t 97))), none⟩, ⟨99, (.op (.mv (.t 98))), none⟩, ⟨100, (.op (.fa (.t 2) 0)), some (99, false)⟩, ⟨101, (.op (.load (.t 100) 1 false)), some (99, false)⟩, ⟨102, (.op (.fa (.t 6) 0)), some (99, false)⟩, ⟨103, (.op (.load (.t 102) 1 false)), some (99, false)⟩, ⟨104, (.callL n_expr_aggregate [.t 101, .t 103]), some (99, false)⟩, ⟨105, (.op (.un .not (.t 104))), some (99, false)⟩, ⟨106, (.op (.pick (.t 99) (.k (.bool true)) (.t 105))), none⟩] [2, 3, 7, 91, 94, 95, 96, 97, 98, 99, 100, 101, 102, 103, 104, 105])
  (.cond (.t 106)
    (.seq (.reg none [⟨107, (.op (.build [(.int .i64 0), (.int .i64 0)] [] [])), none⟩, ⟨0, (.op (.store (.t 4) (.t 107) 2 true)), none⟩, ⟨5, (.op (.mv (.k (.int .i64 8)))), none⟩] [6, 106, 107])
    .ret)
    .skip))
  (.seq (.reg none [⟨108, (.op (.load (.t 6) 2 true)), none⟩, ⟨0, (.op (.store (.t 4) (.t 108) 2 true)), none⟩, ⟨5, (.op (.mv (.k (.int .i64 0)))), none⟩] [6, 106, 108])
  .ret)))))))
theorem k_expr_leaf : fnOk Tryz.prog Tryz.f128 c_expr_leaf 109 2 [.c 4 2 true, .t 5] = true := by kernel_rfl
theorem u_expr_leaf : Tryz.prog.funcs[n_expr_leaf]? = some Tryz.f128 := Tryz.func128
/-- guerdon/expr.table -/
def c_expr_table : FC :=
  (.seq (.reg none [⟨2, (.op (.box (.t 0))), none⟩, ⟨3, (.op (.box (.t 1))), none⟩, ⟨4, (.op (.alloc [(.str []), (.int .i64 0), (.int .i64 0), (.int .i64 0), (.int .i64 0), (.sl true [])])), none⟩, ⟨5, (.op (.mv (.k (.int .i64 0)))), none⟩] [0, 1, 5])
  (.seq (.seq (.reg none [⟨6, (.op (.fa (.t 2) 0)), none⟩, ⟨7, (.op (.load (.t 6) 1 false)), none⟩, ⟨8, (.op (.bin .eql (.t 7) (.k (.int .i64 34)))), none⟩] [6, 7])
  (.cond (.t 8)
    (.seq (.reg none [⟨9, (.op (.fa (.t 3) 1)), none⟩, ⟨10, (.op (.load (.t 9) 1 false)), none⟩, ⟨11, (.op (.fa (.t 2) 1)), none⟩, ⟨12, (.op (.load (.t 11) 1 false)), none⟩, ⟨13, (.op (.bin .quo (.t 12) (.k (.int .i64 8)))), none⟩, ⟨14, (.callL n_expr_at_api_Table [.t 10, .t 13]), none⟩, ⟨15, (.op (.extract 14 0)), none⟩, ⟨16, (.op (.extract 14 1)), none⟩, ⟨0, (.op (.store (.t 4) (.t 15) 6 true)), none⟩, ⟨5, (.op (.mvP true (.t 16))), none⟩] [2, 3, 8, 9, 10, 11, 12, 13, 14, 15, 16])
    .ret)
    .skip))
  (.seq (.reg none [⟨17, (.op (.fa (.t 3) 1)), none⟩, ⟨18, (.op (.load (.t 17) 1 false)), none⟩, ⟨19, (.op (.fa (.t 2) 1)), none⟩, ⟨20, (.op (.load (.t 19) 1 false)), none⟩, ⟨21, (.callL n_expr_at_api_Table [.t 18, .t 20]), none⟩, ⟨22, (.op (.extract 21 0)), none⟩, ⟨23, (.op (.extract 21 1)), none⟩, ⟨0, (.op (.store (.t 4) (.t 22) 6 true)), none⟩, ⟨5, (.op (.mvP true (.t 23))), none⟩] [2, 3, 8, 17, 18, 19, 20, 21, 22, 23])
  .ret)))
theorem k_expr_table : fnOk Tryz.prog Tryz.f129 c_expr_table 24 2 [.c 4 6 true, .t 5] = true := by kernel_rfl
theorem u_expr_table : Tryz.prog.funcs[n_expr_table]? = some Tryz.f129 := Tryz.func129
/-- guerdon/expr.result -/
def c_expr_result : FC :=
  (.seq (.reg none [⟨4, (.op (.alloc [(.int .i64 0), (.int .i64 0)])), none⟩] [])
  (.seq (.reg none [⟨5, (.op (.mv (.k (.fn n_expr_result_1 [])))), none⟩] [])
  (.seq (.reg none [⟨8, (.op (.mv (.t 1))), none⟩, ⟨9, (.op (.ia (.t 8) (.k (.int .i64 0)) 2)), none⟩, ⟨10, (.op (.load (.t 9) 2 true)), none⟩, ⟨6, (.op (.alloc [(.int .i64 0), (.int .i64 0)])), none⟩, ⟨0, (.op (.store (.t 6) (.t 10) 2 true)), none⟩] [8, 9, 10])
  (.seq (.reg none [⟨7, (.op (.alloc [(.int .i64 0), (.int .i64 0)])), none⟩] [])
  (.seq (.seq (.reg none [⟨11, (.op (.mv (.t 1))), none⟩, ⟨12, (.op (.len (.t 11))), none⟩, ⟨13, (.op (.bin .gtr (.t 12) (.k (.int .i64 1)))), none⟩] [11, 12])
  (.cond (.t 13)
    (.reg none [⟨14, (.op (.mv (.t 1))), none⟩, ⟨15, (.op (.ia (.t 14) (.k (.int .i64 1)) 2)), none⟩, ⟨16, (.op (.load (.t 15) 2 true)), none⟩, ⟨0, (.op (.store (.t 7) (.t 16) 2 true)), none⟩] [13, 14, 15, 16])
    .skip))
  (.seq (.seq (.reg none [⟨17, (.op (.mv (.t 0))), none⟩] [13])
  (.block 0 (.seq (.reg none [⟨19, (.op (.bin .eql (.t 17) (.k (.int .i64 10)))), none⟩, ⟨18, (.op (.mv (.t 19))), none⟩] [19])
    (.cond (.t 18)
      (.seq (.reg (some 8) [⟨20, (.op (.mv (.t 5))), none⟩, ⟨21, (.op (.fa (.t 6) 0)), none⟩, ⟨22, (.op (.load (.t 21) 1 false)), none⟩, ⟨23, (.op (.fa (.t 6) 0)), none⟩, ⟨24, (.op (.load (.t 23) 1 false)), none⟩, ⟨25, (.callL n_expr_numeric [.t 24]), none⟩, ⟨26, (.callV (.t 20) [.t 22, .t 25]), none⟩, ⟨4, (.storeW (.t 26) 2), none⟩] [0, 1, 5, 6, 7, 17, 18, 20, 21, 22, 23, 24, 25, 26])
      .ret)
      (.seq (.seq (.reg none [⟨28, (.op (.bin .eql (.t 17) (.k (.int .i64 11)))), none⟩, ⟨27, (.op (.mv (.t 28))), none⟩] [18, 28])
      (.cond (.t 27)
        .skip
        (.reg none [⟨29, (.op (.bin .eql (.t 17) (.k (.int .i64 12)))), none⟩, ⟨27, (.op (.mv (.t 29))), none⟩] [29])))
      (.cond (.t 27)
        (.seq (.reg (some 13) [⟨30, (.op (.mv (.t 5))), none⟩, ⟨31, (.op (.fa (.t 6) 0)), none⟩, ⟨32, (.op (.load (.t 31) 1 false)), none⟩, ⟨33, (.op (.load (.t 6) 2 true)), none⟩, ⟨34, (.op (.load (.t 7) 2 true)), none⟩, ⟨35, (.op (.eqS false [0, 0] (.t 33) (.t 34))), none⟩, ⟨36, (.op (.mv (.t 35))), none⟩, ⟨37, (.op (.fa (.t 6) 0)), some (36, true)⟩, ⟨38, (.op (.load (.t 37) 1 false)), some (36, true)⟩, ⟨39, (.callL n_expr_numeric [.t 38]), some (36, true)⟩, ⟨40, (.op (.pick (.t 36) (.t 39) (.k (.bool false)))), none⟩, ⟨41, (.callV (.t 30) [.t 32, .t 40]), none⟩, ⟨4, (.storeW (.t 41) 2), none⟩] [0, 1, 5, 6, 7, 17, 27, 30, 31, 32, 33, 34, 35, 36, 37, 38, 39, 40, 41])
        .ret)
        (.seq (.seq (.reg none [⟨43, (.op (.bin .eql (.t 17) (.k (.int .i64 13)))), none⟩, ⟨42, (.op (.mv (.t 43))), none⟩] [27, 43])
        (.cond (.t 42)
          .skip
          (.seq (.reg none [⟨44, (.op (.bin .eql (.t 17) (.k (.int .i64 14)))), none⟩, ⟨42, (.op (.mv (.t 44))), none⟩] [44])
          (.cond (.t 42)
            .skip
            (.seq (.reg none [⟨45, (.op (.bin .eql (.t 17) (.k (.int .i64 15)))), none⟩, ⟨42, (.op (.mv (.t 45))), none⟩] [45])
            (.cond (.t 42)
              .skip
              (.reg none [⟨46, (.op (.bin .eql (.t 17) (.k (.int .i64 16)))), none⟩, ⟨42, (.op (.mv (.t 46))), none⟩] [46])))))))
        (.cond (.t 42)
          (.seq (.reg none [⟨47, (.op (.mv (.t 5))), none⟩, ⟨48, (.op (.mv (.t 0))), none⟩, ⟨49, (.op (.fa (.t 6) 0)), none⟩, ⟨50, (.op (.load (.t 49) 1 false)), none⟩, ⟨51, (.op (.fa (.t 7) 0)), none⟩, ⟨52, (.op (.load (.t 51) 1 false)), none⟩, ⟨53, (.callL n_expr_arithmetic [.t 48, .t 50, .t 52]), none⟩, ⟨54, (.callV (.t 47) [.t 53, .k (.bool true)]), none⟩, ⟨0, (.op (.store (.t 4) (.t 54) 2 true)), none⟩] [0, 1, 5, 6, 7, 17, 42, 47, 48, 49, 50, 51, 52, 53, 54])
          .ret)
          (.seq (.seq (.reg none [⟨56, (.op (.bin .eql (.t 17) (.k (.int .i64 17)))), none⟩, ⟨55, (.op (.mv (.t 56))), none⟩] [0, 42, 56])
          (.cond (.t 55)
            .skip
            (.reg none [⟨57, (.op (.bin .eql (.t 17) (.k (.int .i64 18)))), none⟩, ⟨55, (.op (.mv (.t 57))), none⟩] [57])))
          (.cond (.t 55)
            (.seq (.reg (some 13) [⟨58, (.op (.mv (.t 5))), none⟩, ⟨59, (.op (.fa (.t 6) 0)), none⟩, ⟨60, (.op (.load (.t 59) 1 false)), none⟩, ⟨61, (.op (.load (.t 6) 2 true)), none⟩, ⟨62, (.op (.load (.t 7) 2 true)), none⟩, ⟨63, (.op (.eqS false [0, 0] (.t 61) (.t 62))), none⟩, ⟨64, (.op (.mv (.t 63))), none⟩, ⟨65, (.op (.fa (.t 6) 0)), some (64, true)⟩, ⟨66, (.op (.load (.t 65) 1 false)), some (64, true)⟩, ⟨67, (.callL n_expr_ordered [.t 66]), some (64, true)⟩, ⟨68, (.op (.pick (.t 64) (.t 67) (.k (.bool false)))), none⟩, ⟨69, (.callV (.t 58) [.t 60, .t 68]), none⟩, ⟨4, (.storeW (.t 69) 2), none⟩] [1, 5, 6, 7, 17, 55, 58, 59, 60, 61, 62, 63, 64, 65, 66, 67, 68, 69])
            .ret)
            (.seq (.seq (.reg none [⟨71, (.op (.bin .eql (.t 17) (.k (.int .i64 19)))), none⟩, ⟨70, (.op (.mv (.t 71))), none⟩] [55, 71])
            (.cond (.t 70)
              .skip
              (.reg none [⟨72, (.op (.bin .eql (.t 17) (.k (.int .i64 20)))), none⟩, ⟨70, (.op (.mv (.t 72))), none⟩] [72])))
            (.cond (.t 70)
              (.seq (.reg none [⟨73, (.op (.mv (.t 5))), none⟩, ⟨74, (.op (.load (.t 6) 2 true)), none⟩, ⟨75, (.op (.load (.t 7) 2 true)), none⟩, ⟨76, (.op (.eqS false [0, 0] (.t 74) (.t 75))), none⟩, ⟨77, (.callV (.t 73) [.k (.int .i64 1), .t 76]), none⟩, ⟨0, (.op (.store (.t 4) (.t 77) 2 true)), none⟩] [1, 5, 6, 7, 17, 70, 73, 74, 75, 76, 77])
              .ret)
              (.seq (.seq (.reg none [⟨79, (.op (.bin .eql (.t 17) (.k (.int .i64 21)))), none⟩, ⟨78, (.op (.mv (.t 79))), none⟩] [70, 79])
              (.cond (.t 78)
                .skip
                (.reg none [⟨80, (.op (.bin .eql (.t 17) (.k (.int .i64 22)))), none⟩, ⟨78, (.op (.mv (.t 80))), none⟩] [80])))
              (.cond (.t 78)
                (.seq (.reg none [⟨81, (.op (.mv (.t 5))), none⟩, ⟨82, (.op (.load (.t 6) 2 true)), none⟩, ⟨83, (.op (.load (.t 7) 2 true)), none⟩, ⟨84, (.op (.eqS false [0, 0] (.t 82) (.t 83))), none⟩, ⟨85, (.op (.mv (.t 84))), none⟩, ⟨86, (.op (.fa (.t 6) 0)), some (85, true)⟩, ⟨87, (.op (.load (.t 86) 1 false)), some (85, true)⟩, ⟨88, (.callL n_expr_ordered [.t 87]), some (85, true)⟩, ⟨89, (.op (.pick (.t 85) (.t 88) (.k (.bool false)))), none⟩, ⟨90, (.callV (.t 81) [.k (.int .i64 1), .t 89]), none⟩, ⟨0, (.op (.store (.t 4) (.t 90) 2 true)), none⟩] [1, 5, 6, 7, 17, 78, 81, 82, 83, 84, 85, 86, 87, 88, 89, 90])
                .ret)
                (.seq (.seq (.reg none [⟨92, (.op (.bin .eql (.t 17) (.k (.int .i64 23)))), none⟩, ⟨91, (.op (.mv (.t 92))), none⟩] [78, 92])
                (.cond (.t 91)
                  .skip
                  (.reg none [⟨93, (.op (.bin .eql (.t 17) (.k (.int .i64 24)))), none⟩, ⟨91, (.op (.mv (.t 93))), none⟩] [93])))
                (.cond (.t 91)
                  (.seq (.reg none [⟨94, (.op (.mv (.t 5))), none⟩, ⟨95, (.op (.fa (.t 6) 0)), none⟩, ⟨96, (.op (.load (.t 95) 1 false)), none⟩, ⟨97, (.op (.bin .eql (.t 96) (.k (.int .i64 1)))), none⟩, ⟨98, (.op (.mv (.t 97))), none⟩, ⟨99, (.op (.fa (.t 7) 0)), some (98, true)⟩, ⟨100, (.op (.load (.t 99) 1 false)), some (98, true)⟩, ⟨101, (.op (.bin .eql (.t 100) (.k (.int .i64 1)))), some (98, true)⟩, ⟨102, (.op (.pick (.t 98) (.t 101) (.k (.bool false)))), none⟩, ⟨103, (.callV (.t 94) [.k (.int .i64 1), .t 102]), none⟩, ⟨0, (.op (.store (.t 4) (.t 103) 2 true)), none⟩] [1, 5, 6, 7, 17, 91, 94, 95, 96, 97, 98, 99, 100, 101, 102, 103])
                  .ret)
                  (.seq (.reg none [⟨105, (.op (.bin .eql (.t 17) (.k (.int .i64 25)))), none⟩, ⟨104, (.op (.mv (.t 105))), none⟩] [91, 105])
                  (.cond (.t 104)
                    (.seq (.reg none [⟨106, (.op (.mv (.t 5))), none⟩, ⟨107, (.op (.fa (.t 6) 0)), none⟩, ⟨108, (.op (.load (.t 107) 1 false)), none⟩, ⟨109, (.op (.bin .eql (.t 108) (.k (.int .i64 1)))), none⟩, ⟨110, (.callV (.t 106) [.k (.int .i64 1), .t 109]), none⟩, ⟨0, (.op (.store (.t 4) (.t 110) 2 true)), none⟩] [1, 5, 6, 7, 17, 104, 106, 107, 108, 109, 110])
                    .ret)
                    (.seq (.reg none [⟨112, (.op (.bin .eql (.t 17) (.k (.int .i64 26)))), none⟩, ⟨111, (.op (.mv (.t 112))), none⟩] [104, 112])
                    (.cond (.t 111)
                      (.seq (.seq (.reg (some 10) [⟨113, (.op (.fa (.t 6) 0)), none⟩, ⟨114, (.op (.load (.t 113) 1 false)), none⟩, ⟨115, (.op (.bin .eql (.t 114) (.k (.int .i64 1)))), none⟩, ⟨116, (.op (.mv (.t 115))), none⟩, ⟨117, (.op (.load (.t 7) 2 true)), some (116, true)⟩, ⟨118, (.op (.mv (.t 1))), some (116, true)⟩, ⟨119, (.op (.ia (.t 118) (.k (.int .i64 2)) 2)), some (116, true)⟩, ⟨120, (.op (.load (.t 119) 2 true)), some (116, true)⟩, ⟨121, (.op (.eqS false [0, 0] (.t 117) (.t 120))), some (116, true)⟩, ⟨122, (.op (.pick (.t 116) (.t 121) (.k (.bool false)))), none⟩] [1, 5, 6, 17, 111, 113, 114, 115, 116, 117, 118, 119, 120, 121])
                      (.cond (.t 122)
                        (.seq (.reg none [⟨123, (.op (.load (.t 7) 2 true)), none⟩, ⟨0, (.op (.store (.t 4) (.t 123) 2 true)), none⟩] [7, 122, 123])
                        .ret)
                        .skip))
                      (.seq (.reg none [⟨124, (.op (.build [(.int .i64 0), (.int .i64 0)] [] [])), none⟩, ⟨0, (.op (.store (.t 4) (.t 124) 2 true)), none⟩] [7, 122, 124])
                      .ret))
                      (.seq (.seq (.reg none [⟨126, (.op (.bin .eql (.t 17) (.k (.int .i64 27)))), none⟩, ⟨125, (.op (.mv (.t 126))), none⟩] [1, 111, 126])
                      (.cond (.t 125)
                        .skip
                        (.reg none [⟨127, (.op (.bin .eql (.t 17) (.k (.int .i64 28)))), none⟩, ⟨125, (.op (.mv (.t 127))), none⟩] [127])))
                      (.cond (.t 125)
                        (.seq (.reg none [⟨128, (.op (.mv (.t 5))), none⟩, ⟨129, (.op (.fa (.t 6) 0)), none⟩, ⟨130, (.op (.load (.t 129) 1 false)), none⟩, ⟨131, (.op (.bin .eql (.t 130) (.k (.int .i64 5)))), none⟩, ⟨132, (.op (.mv (.t 131))), none⟩, ⟨133, (.op (.fa (.t 7) 0)), some (132, true)⟩, ⟨134, (.op (.load (.t 133) 1 false)), some (132, true)⟩, ⟨135, (.op (.bin .eql (.t 134) (.k (.int .i64 2)))), some (132, true)⟩, ⟨136, (.op (.pick (.t 132) (.t 135) (.k (.bool false)))), none⟩, ⟨137, (.callV (.t 128) [.k (.int .i64 5), .t 136]), none⟩, ⟨0, (.op (.store (.t 4) (.t 137) 2 true)), none⟩] [5, 6, 7, 17, 125, 128, 129, 130, 131, 132, 133, 134, 135, 136, 137])
                        .ret)
                        (.seq (.seq (.reg none [⟨139, (.op (.bin .eql (.t 17) (.k (.int .i64 29)))), none⟩, ⟨138, (.op (.mv (.t 139))), none⟩] [125, 139])
                        (.cond (.t 138)
                          .skip
                          (.reg none [⟨140, (.op (.bin .eql (.t 17) (.k (.int .i64 30)))), none⟩, ⟨138, (.op (.mv (.t 140))), none⟩] [17, 140])))
                        (.cond (.t 138)
                          (.seq (.reg none [⟨141, (.op (.mv (.t 5))), none⟩, ⟨142, (.op (.fa (.t 6) 0)), none⟩, ⟨143, (.op (.load (.t 142) 1 false)), none⟩, ⟨144, (.op (.bin .eql (.t 143) (.k (.int .i64 5)))), none⟩, ⟨145, (.op (.mv (.t 144))), none⟩, ⟨146, (.op (.fa (.t 7) 0)), some (145, true)⟩, ⟨147, (.op (.load (.t 146) 1 false)), some (145, true)⟩, ⟨148, (.op (.bin .eql (.t 147) (.k (.int .i64 5)))), some (145, true)⟩, ⟨149, (.op (.pick (.t 145) (.t 148) (.k (.bool false)))), none⟩, ⟨150, (.callV (.t 141) [.k (.int .i64 2), .t 149]), none⟩, ⟨0, (.op (.store (.t 4) (.t 150) 2 true)), none⟩] [5, 6, 7, 17, 138, 141, 142, 143, 144, 145, 146, 147, 148, 149, 150])
                          .ret)
                          .skip))))))))))))))))))))))))
  (.seq (.reg none [⟨151, (.op (.mv (.t 5))), none⟩, ⟨152, (.op (.fa (.t 6) 0)), none⟩, ⟨153, (.op (.load (.t 152) 1 false)), none⟩, ⟨154, (.op (.bin .eql (.t 153) (.k (.int .i64 5)))), none⟩, ⟨155, (.callV (.t 151) [.k (.int .i64 2), .t 154]), none⟩, ⟨0, (.op (.store (.t 4) (.t 155) 2 true)), none⟩] [5, 6, 7, 17, 138, 151, 152, 153, 154, 155])
  .ret)))))))
theorem k_expr_result : fnOk Tryz.prog Tryz.f130 c_expr_result 156 2 [.c 4 2 true] = true := by kernel_rfl
theorem u_expr_result : Tryz.prog.funcs[n_expr_result]? = some Tryz.f130 := Tryz.func130
/-- guerdon/expr.References$1 -/
def c_expr_References_1 : FC :=
  (.seq (.reg none [⟨2, (.op (.mv (.k (.arr [])))), none⟩] [2])
  (.seq (.reg none [⟨3, (.op (.mv (.t 0))), none⟩, ⟨4, (.callM n_slices_Sort_int_int (.t 3) 0), none⟩] [3, 4])
  (.seq (.reg none [⟨5, (.op (.mv (.t 0))), none⟩, ⟨6, (.call n_slices_Compact_int_int [(true, .t 5)]), none⟩, ⟨2, (.op (.mvP true (.t 6))), none⟩] [0, 5, 6])
  .ret)))
theorem k_expr_References_1 : fnOk Tryz.prog Tryz.f131 c_expr_References_1 7 1 [.t 2] = true := by kernel_rfl
theorem u_expr_References_1 : Tryz.prog.funcs[n_expr_References_1]? = some Tryz.f131 := Tryz.func131
/-- slices.Equal[[]guerdon/api.Node,guerdon/api.Node] -/
def c_slices_Equal_api_Node_api_Node : FC :=
  (.seq (.reg none [⟨4, (.op (.mv (.k (.bool false)))), none⟩] [4])
  (.seq (.seq (.reg none [⟨6, (.op (.mv (.t 0))), none⟩, ⟨7, (.op (.len (.t 6))), none⟩, ⟨8, (.op (.mv (.t 1))), none⟩, ⟨9, (.op (.len (.t 8))), none⟩, ⟨10, (.op (.bin .neq (.t 7) (.t 9))), none⟩] [6, 7, 8, 9])
  (.cond (.t 10)
    (.seq (.reg none [⟨4, (.op (.mv (.k (.bool false)))), none⟩] [0, 1, 10])
    .ret)
    .skip))
  (.seq (.seq (.reg none [⟨11, (.op (.mv (.t 0))), none⟩, ⟨12, (.op (.len (.t 11))), none⟩, ⟨13, (.op (.mv (.k (.int .i64 0)))), none⟩] [10, 11])
  (.block 0 (.loop (.seq (.reg none [⟨14, (.op (.bin .lss (.t 13) (.t 12))), none⟩] [])
      (.seq (.cond (.t 14)
        .skip
        (.exit 0))
      (.seq (.block 1 (.seq (.reg none [⟨15, (.op (.mv (.t 13))), none⟩, ⟨5, (.op (.mv (.t 15))), none⟩] [14, 15])
        (.seq (.reg (some 9) [⟨16, (.op (.mv (.t 0))), none⟩, ⟨17, (.op (.mv (.t 5))), none⟩, ⟨18, (.op (.ia (.t 16) (.t 17) 2)), none⟩, ⟨19, (.op (.load (.t 18) 2 true)), none⟩, ⟨20, (.op (.mv (.t 1))), none⟩, ⟨21, (.op (.mv (.t 5))), none⟩, ⟨22, (.op (.ia (.t 20) (.t 21) 2)), none⟩, ⟨23, (.op (.load (.t 22) 2 true)), none⟩, ⟨24, (.op (.eqS true [0, 0] (.t 19) (.t 23))), none⟩] [5, 16, 17, 18, 19, 20, 21, 22, 23])
        (.cond (.t 24)
          (.seq (.reg none [⟨4, (.op (.mv (.k (.bool false)))), none⟩] [0, 1, 12, 13, 24])
          .ret)
          .skip))))
      (.reg none [⟨25, (.op (.bin .add (.t 13) (.k (.int .i64 1)))), none⟩, ⟨13, (.op (.mv (.t 25))), none⟩] [24, 25])))))))
  (.seq (.reg none [⟨4, (.op (.mv (.k (.bool true)))), none⟩] [0, 1, 12, 13, 14])
  .ret))))
theorem k_slices_Equal_api_Node_api_Node : fnOk Tryz.prog Tryz.f134 c_slices_Equal_api_Node_api_Node 26 2 [.t 4] = true := by kernel_rfl
theorem u_slices_Equal_api_Node_api_Node : Tryz.prog.funcs[n_slices_Equal_api_Node_api_Node]? = some Tryz.f134 := Tryz.func134
/-- guerdon/guerdonsame.Scope -/
def c_same_Scope : FC :=
  (.seq (.reg none [⟨2, (.op (.box (.t 0))), none⟩, ⟨3, (.op (.box (.t 1))), none⟩, ⟨4, (.op (.mv (.k (.bool false)))), none⟩] [0, 1, 4])
  (.seq (.reg none [⟨5, (.op (.fa (.t 2) 0)), none⟩, ⟨6, (.op (.load (.t 5) 1 false)), none⟩, ⟨7, (.op (.fa (.t 3) 0)), none⟩, ⟨8, (.op (.load (.t 7) 1 false)), none⟩, ⟨9, (.op (.bin .eql (.t 6) (.t 8))), none⟩, ⟨10, (.op (.mv (.t 9))), none⟩, ⟨11, (.op (.fa (.t 2) 1)), some (10, true)⟩, ⟨12, (.op (.load (.t 11) 1 false)), some (10, true)⟩, ⟨13, (.op (.fa (.t 3) 1)), some (10, true)⟩, ⟨14, (.op (.load (.t 13) 1 false)), some (10, true)⟩, ⟨15, (.op (.bin .eql (.t 12) (.t 14))), some (10, true)⟩, ⟨16, (.op (.pick (.t 10) (.t 15) (.k (.bool false)))), none⟩, ⟨17, (.op (.mv (.t 16))), none⟩, ⟨18, (.op (.fa (.t 2) 2)), some (17, true)⟩, ⟨19, (.op (.load (.t 18) 1 false)), some (17, true)⟩, ⟨20, (.op (.fa (.t 3) 2)), some (17, true)⟩, ⟨21, (.op (.load (.t 20) 1 false)), some (17, true)⟩, ⟨22, (.callL n_same_Fields [.t 19, .t 21]), some (17, true)⟩, ⟨23, (.op (.pick (.t 17) (.t 22) (.k (.bool false)))), none⟩, ⟨24, (.op (.mv (.t 23))), none⟩, ⟨25, (.op (.fa (.t 2) 3)), some (24, true)⟩, ⟨26, (.op (.load (.t 25) 1 false)), some (24, true)⟩, ⟨27, (.op (.fa (.t 3) 3)), some (24, true)⟩, ⟨28, (.op (.load (.t 27) 1 false)), some (24, true)⟩, ⟨29, (.callL n_same_Fields [.t 26, .t 28]), some (24, true)⟩, ⟨30, (.op (.pick (.t 24) (.t 29) (.k (.bool false)))), none⟩, ⟨31, (.op (.mv (.t 30))), none⟩, ⟨32, (.op (.fa (.t 2) 4)), some (31, true)⟩, ⟨33, (.op (.load (.t 32) 1 false)), some (31, true)⟩, ⟨34, (.op (.fa (.t 3) 4)), some (31, true)⟩, ⟨35, (.op (.load (.t 34) 1 false)), some (31, true)⟩, ⟨36, (.callL n_same_Rules [.t 33, .t 35]), some (31, true)⟩, ⟨37, (.op (.pick (.t 31) (.t 36) (.k (.bool false)))), none⟩, ⟨4, (.op (.mv (.t 37))), none⟩] [2, 3, 5, 6, 7, 8, 9, 10, 11, 12, 13, 14, 15, 16, 17, 18, 19, 20, 21, 22, 23, 24, 25, 26, 27, 28, 29, 30, 31, 32, 33, 34, 35, 36, 37])
  .ret))
theorem k_same_Scope : fnOk Tryz.prog Tryz.f135 c_same_Scope 38 2 [.t 4] = true := by kernel_rfl
theorem u_same_Scope : Tryz.prog.funcs[n_same_Scope]? = some Tryz.f135 := Tryz.func135
/-- guerdon/lexer.digit -/
def c_lexer_digit : FC :=
  (.seq (.reg none [⟨2, (.op (.mv (.k (.bool false)))), none⟩] [2])
  (.seq (.reg none [⟨3, (.op (.mv (.t 0))), none⟩, ⟨4, (.op (.bin .geq (.t 3) (.k (.int .u8 48)))), none⟩, ⟨5, (.op (.mv (.t 4))), none⟩, ⟨6, (.op (.mv (.t 0))), some (5, true)⟩, ⟨7, (.op (.bin .leq (.t 6) (.k (.int .u8 57)))), some (5, true)⟩, ⟨8, (.op (.pick (.t 5) (.t 7) (.k (.bool false)))), none⟩, ⟨2, (.op (.mv (.t 8))), none⟩] [0, 3, 4, 5, 6, 7, 8])
  .ret))
theorem k_lexer_digit : fnOk Tryz.prog Tryz.f136 c_lexer_digit 9 1 [.t 2] = true := by kernel_rfl
theorem u_lexer_digit : Tryz.prog.funcs[n_lexer_digit]? = some Tryz.f136 := Tryz.func136
/-- guerdon/value.Bounds -/
def c_value_Bounds : FC :=
  (.seq (.reg none [⟨2, (.op (.box (.t 0))), none⟩, ⟨4, (.op (.mv (.k (.int .i64 0)))), none⟩, ⟨5, (.op (.mv (.k (.int .i64 0)))), none⟩] [0, 4, 5])
  (.seq (.seq (.reg none [⟨6, (.op (.load (.t 2) 2 true)), none⟩, ⟨7, (.op (.mv (.t 1))), none⟩, ⟨8, (.callL n_value_ValidType [.t 6, .t 7]), none⟩, ⟨9, (.op (.un .not (.t 8))), none⟩] [6, 7, 8])
  (.cond (.t 9)
    (.seq (.reg none [⟨4, (.op (.mv (.k (.int .i64 0)))), none⟩, ⟨5, (.op (.mv (.k (.int .i64 (-1))))), none⟩] [1, 2, 9])
    .ret)
    .skip))
  (.seq (.seq (.reg none [⟨10, (.op (.fa (.t 2) 0)), none⟩, ⟨11, (.op (.load (.t 10) 1 false)), none⟩] [9, 10])
  (.block 0 (.seq (.reg none [⟨13, (.op (.bin .eql (.t 11) (.k (.int .i64 1)))), none⟩, ⟨12, (.op (.mv (.t 13))), none⟩] [13])
    (.cond (.t 12)
      (.seq (.reg none [⟨4, (.op (.mv (.k (.int .i64 0)))), none⟩, ⟨5, (.op (.mv (.k (.int .i64 1)))), none⟩] [1, 2, 11, 12])
      .ret)
      (.seq (.reg none [⟨15, (.op (.bin .eql (.t 11) (.k (.int .i64 2)))), none⟩, ⟨14, (.op (.mv (.t 15))), none⟩] [12, 15])
      (.cond (.t 14)
        (.seq (.reg none [⟨4, (.op (.mv (.k (.int .i64 (-1000000000000))))), none⟩, ⟨5, (.op (.mv (.k (.int .i64 1000000000000)))), none⟩] [1, 2, 11, 14])
        .ret)
        (.seq (.reg none [⟨17, (.op (.bin .eql (.t 11) (.k (.int .i64 3)))), none⟩, ⟨16, (.op (.mv (.t 17))), none⟩] [14, 17])
        (.cond (.t 16)
          (.seq (.reg none [⟨4, (.op (.mv (.k (.int .i64 (-1000000000000000))))), none⟩, ⟨5, (.op (.mv (.k (.int .i64 1000000000000000)))), none⟩] [1, 2, 11, 16])
          .ret)
          (.seq (.reg none [⟨19, (.op (.bin .eql (.t 11) (.k (.int .i64 4)))), none⟩, ⟨18, (.op (.mv (.t 19))), none⟩] [16, 19])
          (.cond (.t 18)
            (.seq (.reg none [⟨4, (.op (.mv (.k (.int .i64 (-1000000000))))), none⟩, ⟨5, (.op (.mv (.k (.int .i64 1000000000)))), none⟩] [1, 2, 11, 18])
            .ret)
            (.seq (.reg none [⟨21, (.op (.bin .eql (.t 11) (.k (.int .i64 5)))), none⟩, ⟨20, (.op (.mv (.t 21))), none⟩] [11, 18, 21])
            (.cond (.t 20)
              (.seq (.reg none [⟨4, (.op (.mv (.k (.int .i64 0)))), none⟩, ⟨5, (.op (.mv (.k (.int .i64 109572)))), none⟩] [1, 2, 20])
              .ret)
              .skip))))))))))))
  (.seq (.reg (some 10) [⟨22, (.op (.mv (.t 1))), none⟩, ⟨23, (.op (.fa (.t 2) 1)), none⟩, ⟨24, (.op (.load (.t 23) 1 false)), none⟩, ⟨25, (.op (.ia (.t 22) (.t 24) 2)), none⟩, ⟨26, (.op (.fa (.t 25) 1)), none⟩, ⟨27, (.op (.load (.t 26) 1 false)), none⟩, ⟨28, (.op (.len (.t 27))), none⟩, ⟨29, (.op (.bin .sub (.t 28) (.k (.int .i64 1)))), none⟩, ⟨4, (.op (.mv (.k (.int .i64 0)))), none⟩, ⟨5, (.op (.mv (.t 29))), none⟩] [1, 2, 20, 22, 23, 24, 25, 26, 27, 28, 29])
  .ret))))
theorem k_value_Bounds : fnOk Tryz.prog Tryz.f138 c_value_Bounds 30 2 [.t 4, .t 5] = true := by kernel_rfl
theorem u_value_Bounds : Tryz.prog.funcs[n_value_Bounds]? = some Tryz.f138 := Tryz.func138
/-- guerdon/daterange.Intersect -/
def c_daterange_Intersect : FC :=
  (.seq (.reg none [⟨2, (.op (.box (.t 0))), none⟩, ⟨3, (.op (.box (.t 1))), none⟩, ⟨4, (.op (.alloc [(.int .i64 0), (.int .i64 0)])), none⟩, ⟨5, (.op (.mv (.k (.bool false)))), none⟩] [0, 1, 5])
  (.seq (.reg none [⟨7, (.op (.fa (.t 2) 0)), none⟩, ⟨8, (.op (.load (.t 7) 1 false)), none⟩, ⟨9, (.op (.fa (.t 3) 0)), none⟩, ⟨10, (.op (.load (.t 9) 1 false)), none⟩, ⟨11, (.op (.mm true (.t 8) (.t 10))), none⟩, ⟨12, (.op (.fa (.t 2) 1)), none⟩, ⟨13, (.op (.load (.t 12) 1 false)), none⟩, ⟨14, (.op (.fa (.t 3) 1)), none⟩, ⟨15, (.op (.load (.t 14) 1 false)), none⟩, ⟨16, (.op (.mm false (.t 13) (.t 15))), none⟩, ⟨17, (.op (.build [(.int .i64 0), (.int .i64 0)] [(0, 1), (1, 1)] [.t 11, .t 16])), none⟩, ⟨6, (.op (.alloc [(.int .i64 0), (.int .i64 0)])), none⟩, ⟨0, (.op (.store (.t 6) (.t 17) 2 true)), none⟩] [7, 8, 9, 10, 11, 12, 13, 14, 15, 16, 17])
  (.seq (.seq (.reg none [⟨18, (.op (.load (.t 2) 2 true)), none⟩, ⟨19, (.callL n_daterange_proper [.t 18]), none⟩, ⟨20, (.op (.un .not (.t 19))), none⟩, ⟨21, (.op (.mv (.t 20))), none⟩, ⟨22, (.op (.load (.t 3) 2 true)), some (21, false)⟩, ⟨23, (.callL n_daterange_proper [.t 22]), some (21, false)⟩, ⟨24, (.op (.un .not (.t 23))), some (21, false)⟩, ⟨25, (.op (.pick (.t 21) (.k (.bool true)) (.t 24))), none⟩, ⟨26, (.op (.mv (.t 25))), none⟩, ⟨27, (.op (.fa (.t 6) 0)), some (26, false)⟩, ⟨28, (.op (.load (.t 27) 1 false)), some (26, false)⟩, ⟨29, (.op (.fa (.t 6) 1)), some (26, false)⟩, ⟨30, (.op (.load (.t 29) 1 false)), some (26, false)⟩, ⟨31, (.op (.bin .geq (.t 28) (.t 30))), some (26, false)⟩, ⟨32, (.op (.pick (.t 26) (.k (.bool true)) (.t 31))), none⟩] [2, 3, 18, 19, 20, 21, 22, 23, 24, 25, 26, 27, 28, 29, 30, 31])
  (.cond (.t 32)
    (.seq (.reg none [⟨33, (.op (.build [(.int .i64 0), (.int .i64 0)] [] [])), none⟩, ⟨0, (.op (.store (.t 4) (.t 33) 2 true)), none⟩, ⟨5, (.op (.mv (.k (.bool false)))), none⟩] [6, 32, 33])
    .ret)
    .skip))
  (.seq (.reg none [⟨34, (.op (.load (.t 6) 2 true)), none⟩, ⟨0, (.op (.store (.t 4) (.t 34) 2 true)), none⟩, ⟨5, (.op (.mv (.k (.bool true)))), none⟩] [6, 32, 34])
  .ret))))
theorem k_daterange_Intersect : fnOk Tryz.prog Tryz.f139 c_daterange_Intersect 35 2 [.c 4 2 true, .t 5] = true := by kernel_rfl
theorem u_daterange_Intersect : Tryz.prog.funcs[n_daterange_Intersect]? = some Tryz.f139 := Tryz.func139
end Go.Fx.Tryz
