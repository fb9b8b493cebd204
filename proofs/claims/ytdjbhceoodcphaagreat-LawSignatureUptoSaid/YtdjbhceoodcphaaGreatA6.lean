/- Part of a proof: see the last text of the claim. -/
import Derived.Test.YtdjbhceoodcphaaGreatA4
import Derived.Test.YtdjbhceoodcphaaGreatA5
set_option linter.unusedVariables false
namespace Go.Fx.Tryz
open Go Go.Fm Go.Proofs
/-- guerdon/guerdonref17.scopeError -/
def c_ref17_scopeError : FC :=
  (.seq (.reg none [⟨2, (.op (.box (.t 0))), none⟩, ⟨4, (.op (.alloc [(.int .i64 0), (.int .i64 0), (.int .i64 0), (.int .i64 0)])), none⟩] [0])
  (.seq (.reg none [⟨13, (.op (.fa (.t 2) 2)), none⟩, ⟨14, (.op (.load (.t 13) 1 false)), none⟩, ⟨15, (.op (.mv (.t 1))), none⟩, ⟨16, (.op (.ia (.t 14) (.t 15) 5)), none⟩, ⟨17, (.op (.load (.t 16) 5 true)), none⟩, ⟨5, (.op (.alloc [(.str []), (.int .i64 0), (.sl true []), (.sl true []), (.sl true [])])), none⟩, ⟨0, (.op (.store (.t 5) (.t 17) 5 true)), none⟩] [13, 14, 15, 16, 17])
  (.seq (.reg none [⟨18, (.op (.mv (.t 1))), none⟩, ⟨19, (.op (.build [(.int .i64 0), (.int .i64 0), (.int .i64 0), (.int .i64 0)] [(1, 1), (2, 1)] [.k (.int .i64 3), .t 18])), none⟩, ⟨6, (.op (.alloc [(.int .i64 0), (.int .i64 0), (.int .i64 0), (.int .i64 0)])), none⟩, ⟨0, (.op (.store (.t 6) (.t 19) 4 true)), none⟩] [18, 19])
  (.seq (.seq (.reg none [⟨20, (.op (.fa (.t 5) 0)), none⟩, ⟨21, (.op (.load (.t 20) 1 false)), none⟩, ⟨22, (.callL n_ref08_IsIdentifier [.t 21]), none⟩, ⟨23, (.op (.un .not (.t 22))), none⟩] [20, 21, 22])
  (.cond (.t 23)
    (.seq (.reg none [⟨24, (.op (.fa (.t 6) 0)), none⟩, ⟨0, (.op (.store (.t 24) (.k (.int .i64 2)) 1 true)), none⟩] [1, 2, 5, 23, 24])
    (.seq (.reg none [⟨25, (.op (.load (.t 6) 4 true)), none⟩, ⟨0, (.op (.store (.t 4) (.t 25) 4 true)), none⟩] [6, 25])
    .ret))
    .skip))
  (.seq (.seq (.reg none [⟨26, (.op (.load (.t 2) 3 true)), none⟩, ⟨27, (.op (.mv (.t 1))), none⟩, ⟨28, (.op (.fa (.t 5) 0)), none⟩, ⟨29, (.op (.load (.t 28) 1 false)), none⟩, ⟨30, (.callL n_ref17_nameTaken [.t 26, .k (.int .i64 3), .t 27, .t 29]), none⟩] [23, 26, 27, 28, 29])
  (.cond (.t 30)
    (.seq (.reg none [⟨31, (.op (.fa (.t 6) 0)), none⟩, ⟨0, (.op (.store (.t 31) (.k (.int .i64 7)) 1 true)), none⟩] [1, 2, 5, 30, 31])
    (.seq (.reg none [⟨32, (.op (.load (.t 6) 4 true)), none⟩, ⟨0, (.op (.store (.t 4) (.t 32) 4 true)), none⟩] [6, 32])
    .ret))
    .skip))
  (.seq (.seq (.reg none [⟨33, (.op (.fa (.t 5) 1)), none⟩, ⟨34, (.op (.load (.t 33) 1 false)), none⟩, ⟨35, (.op (.bin .neq (.t 34) (.k (.int .i64 (-1))))), none⟩, ⟨36, (.op (.mv (.t 35))), none⟩, ⟨37, (.op (.fa (.t 5) 1)), some (36, true)⟩, ⟨38, (.op (.load (.t 37) 1 false)), some (36, true)⟩, ⟨39, (.op (.bin .lss (.t 38) (.k (.int .i64 0)))), some (36, true)⟩, ⟨40, (.op (.mv (.t 39))), some (36, true)⟩, ⟨41, (.op (.fa (.t 5) 1)), some (40, false)⟩, ⟨42, (.op (.load (.t 41) 1 false)), some (40, false)⟩, ⟨43, (.op (.mv (.t 1))), some (40, false)⟩, ⟨44, (.op (.bin .geq (.t 42) (.t 43))), some (40, false)⟩, ⟨45, (.op (.pick (.t 40) (.k (.bool true)) (.t 44))), some (36, true)⟩, ⟨46, (.op (.mv (.t 45))), some (36, true)⟩, ⟨47, (.op (.fa (.t 2) 2)), some (46, false)⟩, ⟨48, (.op (.load (.t 47) 1 false)), some (46, false)⟩, ⟨49, (.op (.fa (.t 5) 1)), some (46, false)⟩, ⟨50, (.op (.load (.t 49) 1 false)), some (46, false)⟩, ⟨51, (.op (.ia (.t 48) (.t 50) 5)), some (46, false)⟩, ⟨52, (.op (.fa (.t 51) 1)), some (46, false)⟩, ⟨53, (.op (.load (.t 52) 1 false)), some (46, false)⟩, ⟨54, (.op (.bin .neq (.t 53) (.k (.int .i64 (-1))))), some (46, false)⟩, ⟨55, (.op (.pick (.t 46) (.k (.bool true)) (.t 54))), some (36, true)⟩, ⟨56, (.op (.pick (.t 36) (.t 55) (.k (.bool false)))), none⟩] [30, 33, 34, 35, 36, 37, 38, 39, 40, 41, 42, 43, 44, 45, 46, 47, 48, 49, 50, 51, 52, 53, 54, 55])
  (.cond (.t 56)
    (.seq (.reg none [⟨57, (.op (.fa (.t 6) 0)), none⟩, ⟨0, (.op (.store (.t 57) (.k (.int .i64 6)) 1 true)), none⟩] [1, 2, 5, 56, 57])
    (.seq (.reg none [⟨58, (.op (.load (.t 6) 4 true)), none⟩, ⟨0, (.op (.store (.t 4) (.t 58) 4 true)), none⟩] [6, 58])
    .ret))
    .skip))
  (.seq (.seq (.reg none [⟨59, (.op (.fa (.t 5) 2)), none⟩, ⟨60, (.op (.load (.t 59) 1 false)), none⟩, ⟨61, (.op (.len (.t 60))), none⟩, ⟨62, (.op (.bin .gtr (.t 61) (.k (.int .i64 12)))), none⟩] [56, 59, 60, 61])
  (.cond (.t 62)
    (.seq (.reg none [⟨63, (.op (.fa (.t 6) 0)), none⟩, ⟨0, (.op (.store (.t 63) (.k (.int .i64 4)) 1 true)), none⟩] [1, 2, 5, 62, 63])
    (.seq (.reg none [⟨64, (.op (.fa (.t 6) 3)), none⟩, ⟨0, (.op (.store (.t 64) (.k (.int .i64 112)) 1 true)), none⟩] [64])
    (.seq (.reg none [⟨65, (.op (.load (.t 6) 4 true)), none⟩, ⟨0, (.op (.store (.t 4) (.t 65) 4 true)), none⟩] [6, 65])
    .ret)))
    .skip))
  (.seq (.seq (.reg none [⟨66, (.op (.fa (.t 5) 3)), none⟩, ⟨67, (.op (.load (.t 66) 1 false)), none⟩, ⟨68, (.op (.len (.t 67))), none⟩, ⟨69, (.op (.bin .gtr (.t 68) (.k (.int .i64 12)))), none⟩] [62, 66, 67, 68])
  (.cond (.t 69)
    (.seq (.reg none [⟨70, (.op (.fa (.t 6) 0)), none⟩, ⟨0, (.op (.store (.t 70) (.k (.int .i64 4)) 1 true)), none⟩] [1, 2, 5, 69, 70])
    (.seq (.reg none [⟨71, (.op (.fa (.t 6) 3)), none⟩, ⟨0, (.op (.store (.t 71) (.k (.int .i64 212)) 1 true)), none⟩] [71])
    (.seq (.reg none [⟨72, (.op (.load (.t 6) 4 true)), none⟩, ⟨0, (.op (.store (.t 4) (.t 72) 4 true)), none⟩] [6, 72])
    .ret)))
    .skip))
  (.seq (.reg none [⟨73, (.op (.load (.t 2) 3 true)), none⟩, ⟨74, (.op (.mv (.t 1))), none⟩, ⟨75, (.callL n_ref17_fieldError [.t 73, .t 74]), none⟩, ⟨7, (.op (.alloc [(.int .i64 0), (.int .i64 0), (.int .i64 0), (.int .i64 0)])), none⟩, ⟨0, (.op (.store (.t 7) (.t 75) 4 true)), none⟩] [6, 69, 73, 74, 75])
  (.seq (.seq (.reg none [⟨76, (.op (.fa (.t 7) 0)), none⟩, ⟨77, (.op (.load (.t 76) 1 false)), none⟩, ⟨78, (.op (.bin .neq (.t 77) (.k (.int .i64 0)))), none⟩] [76, 77])
  (.cond (.t 78)
    (.seq (.reg none [⟨79, (.op (.load (.t 7) 4 true)), none⟩, ⟨0, (.op (.store (.t 4) (.t 79) 4 true)), none⟩] [1, 2, 5, 7, 78, 79])
    .ret)
    .skip))
  (.seq (.seq (.reg none [⟨8, (.op (.mv (.k (.int .i64 0)))), none⟩] [7, 78])
  (.block 0 (.loop (.seq (.seq (.reg none [⟨80, (.op (.mv (.t 8))), none⟩, ⟨81, (.op (.fa (.t 5) 4)), none⟩, ⟨82, (.op (.load (.t 81) 1 false)), none⟩, ⟨83, (.op (.len (.t 82))), none⟩, ⟨84, (.op (.bin .lss (.t 80) (.t 83))), none⟩] [80, 81, 82, 83])
      (.cond (.t 84)
        .skip
        (.exit 0)))
      (.seq (.block 1 (.seq (.reg none [⟨87, (.op (.load (.t 2) 3 true)), none⟩, ⟨88, (.op (.mv (.t 1))), none⟩, ⟨89, (.op (.mv (.t 8))), none⟩, ⟨90, (.callL n_ref17_ruleError [.t 87, .t 88, .t 89]), none⟩, ⟨9, (.op (.mvP true (.t 90))), none⟩] [84, 87, 88, 89, 90])
        (.seq (.reg none [⟨91, (.op (.mv (.t 9))), none⟩, ⟨92, (.op (.bin .neq (.t 91) (.k (.int .i64 0)))), none⟩] [91])
        (.cond (.t 92)
          (.seq (.reg none [⟨93, (.op (.mv (.t 9))), none⟩, ⟨94, (.op (.mv (.t 1))), none⟩, ⟨95, (.op (.mv (.t 8))), none⟩, ⟨96, (.op (.bin .add (.k (.int .i64 300)) (.t 95))), none⟩, ⟨97, (.op (.build [(.int .i64 0), (.int .i64 0), (.int .i64 0), (.int .i64 0)] [(0, 1), (1, 1), (2, 1), (3, 1)] [.t 93, .k (.int .i64 3), .t 94, .t 96])), none⟩, ⟨0, (.op (.store (.t 4) (.t 97) 4 true)), none⟩] [1, 2, 5, 8, 9, 92, 93, 94, 95, 96, 97])
          .ret)
          .skip))))
      (.reg none [⟨85, (.op (.mv (.t 8))), none⟩, ⟨86, (.op (.bin .add (.t 85) (.k (.int .i64 1)))), none⟩, ⟨8, (.op (.mv (.t 86))), none⟩] [9, 85, 86, 92]))))))
  (.seq (.seq (.reg none [⟨10, (.op (.mv (.k (.int .i64 0)))), none⟩] [2, 8, 84])
  (.block 2 (.loop (.seq (.seq (.reg none [⟨98, (.op (.mv (.t 10))), none⟩, ⟨99, (.op (.fa (.t 5) 3)), none⟩, ⟨100, (.op (.load (.t 99) 1 false)), none⟩, ⟨101, (.op (.len (.t 100))), none⟩, ⟨102, (.op (.bin .lss (.t 98) (.t 101))), none⟩] [98, 99, 100, 101])
      (.cond (.t 102)
        .skip
        (.exit 2)))
      (.seq (.block 3 (.seq (.reg none [⟨105, (.op (.load (.t 5) 5 true)), none⟩, ⟨106, (.op (.mv (.t 10))), none⟩, ⟨107, (.callL n_ref16_Transitive [.t 105, .t 106]), none⟩, ⟨11, (.op (.mvP true (.t 107))), none⟩] [102, 105, 106, 107])
        (.seq (.reg none [⟨12, (.op (.mv (.k (.int .i64 0)))), none⟩] [])
        (.block 4 (.loop (.seq (.seq (.reg none [⟨108, (.op (.mv (.t 12))), none⟩, ⟨109, (.op (.mv (.t 11))), none⟩, ⟨110, (.op (.len (.t 109))), none⟩, ⟨111, (.op (.bin .lss (.t 108) (.t 110))), none⟩] [108, 109, 110])
            (.cond (.t 111)
              .skip
              (.exit 4)))
            (.seq (.block 5 (.seq (.reg none [⟨114, (.op (.mv (.t 11))), none⟩, ⟨115, (.op (.mv (.t 12))), none⟩, ⟨116, (.op (.ia (.t 114) (.t 115) 1)), none⟩, ⟨117, (.op (.load (.t 116) 1 false)), none⟩, ⟨118, (.op (.mv (.t 10))), none⟩, ⟨119, (.op (.bin .eql (.t 117) (.t 118))), none⟩] [111, 114, 115, 116, 117, 118])
              (.cond (.t 119)
                (.seq (.reg none [⟨120, (.op (.mv (.t 1))), none⟩, ⟨121, (.op (.mv (.t 10))), none⟩, ⟨122, (.op (.bin .add (.k (.int .i64 200)) (.t 121))), none⟩, ⟨123, (.op (.build [(.int .i64 0), (.int .i64 0), (.int .i64 0), (.int .i64 0)] [(0, 1), (1, 1), (2, 1), (3, 1)] [.k (.int .i64 9), .k (.int .i64 3), .t 120, .t 122])), none⟩, ⟨0, (.op (.store (.t 4) (.t 123) 4 true)), none⟩] [1, 5, 10, 11, 12, 119, 120, 121, 122, 123])
                .ret)
                .skip)))
            (.reg none [⟨112, (.op (.mv (.t 12))), none⟩, ⟨113, (.op (.bin .add (.t 112) (.k (.int .i64 1)))), none⟩, ⟨12, (.op (.mv (.t 113))), none⟩] [112, 113, 119]))))))))
      (.reg none [⟨103, (.op (.mv (.t 10))), none⟩, ⟨104, (.op (.bin .add (.t 103) (.k (.int .i64 1)))), none⟩, ⟨10, (.op (.mv (.t 104))), none⟩] [11, 12, 103, 104, 111]))))))
  (.seq (.reg none [⟨124, (.op (.build [(.int .i64 0), (.int .i64 0), (.int .i64 0), (.int .i64 0)] [] [])), none⟩, ⟨0, (.op (.store (.t 4) (.t 124) 4 true)), none⟩] [1, 5, 10, 102, 124])
  .ret)))))))))))))
theorem k_ref17_scopeError : fnOk Tryz.prog Tryz.f36 c_ref17_scopeError 125 2 [.c 4 4 true] = true := by kernel_rfl
theorem u_ref17_scopeError : Tryz.prog.funcs[n_ref17_scopeError]? = some Tryz.f36 := Tryz.func36
/-- guerdon/guerdonsame.Enums -/
def c_same_Enums : FC :=
  (.seq (.reg none [⟨4, (.op (.mv (.k (.bool false)))), none⟩] [4])
  (.seq (.seq (.reg none [⟨6, (.op (.mv (.t 0))), none⟩, ⟨7, (.op (.len (.t 6))), none⟩, ⟨8, (.op (.mv (.t 1))), none⟩, ⟨9, (.op (.len (.t 8))), none⟩, ⟨10, (.op (.bin .neq (.t 7) (.t 9))), none⟩] [6, 7, 8, 9])
  (.cond (.t 10)
    (.seq (.reg none [⟨4, (.op (.mv (.k (.bool false)))), none⟩] [0, 1, 10])
    .ret)
    .skip))
  (.seq (.seq (.reg none [⟨5, (.op (.mv (.k (.int .i64 0)))), none⟩] [10])
  (.block 0 (.loop (.seq (.seq (.reg none [⟨11, (.op (.mv (.t 5))), none⟩, ⟨12, (.op (.mv (.t 0))), none⟩, ⟨13, (.op (.len (.t 12))), none⟩, ⟨14, (.op (.bin .lss (.t 11) (.t 13))), none⟩, ⟨15, (.op (.mv (.t 14))), none⟩, ⟨16, (.op (.mv (.t 5))), some (15, true)⟩, ⟨17, (.op (.mv (.t 1))), some (15, true)⟩, ⟨18, (.op (.len (.t 17))), some (15, true)⟩, ⟨19, (.op (.bin .lss (.t 16) (.t 18))), some (15, true)⟩, ⟨20, (.op (.pick (.t 15) (.t 19) (.k (.bool false)))), none⟩] [11, 12, 13, 14, 15, 16, 17, 18, 19])
      (.cond (.t 20)
        .skip
        (.exit 0)))
      (.seq (.block 1 (.seq (.reg (some 10) [⟨23, (.op (.mv (.t 0))), none⟩, ⟨24, (.op (.mv (.t 5))), none⟩, ⟨25, (.op (.ia (.t 23) (.t 24) 2)), none⟩, ⟨26, (.op (.load (.t 25) 2 true)), none⟩, ⟨27, (.op (.mv (.t 1))), none⟩, ⟨28, (.op (.mv (.t 5))), none⟩, ⟨29, (.op (.ia (.t 27) (.t 28) 2)), none⟩, ⟨30, (.op (.load (.t 29) 2 true)), none⟩, ⟨31, (.callL n_same_Enum [.t 26, .t 30]), none⟩, ⟨32, (.op (.un .not (.t 31))), none⟩] [20, 23, 24, 25, 26, 27, 28, 29, 30, 31])
        (.cond (.t 32)
          (.seq (.reg none [⟨4, (.op (.mv (.k (.bool false)))), none⟩] [0, 1, 5, 32])
          .ret)
          .skip)))
      (.reg none [⟨21, (.op (.mv (.t 5))), none⟩, ⟨22, (.op (.bin .add (.t 21) (.k (.int .i64 1)))), none⟩, ⟨5, (.op (.mv (.t 22))), none⟩] [21, 22, 32]))))))
  (.seq (.reg none [⟨4, (.op (.mv (.k (.bool true)))), none⟩] [0, 1, 5, 20])
  .ret))))
theorem k_same_Enums : fnOk Tryz.prog Tryz.f37 c_same_Enums 33 2 [.t 4] = true := by kernel_rfl
theorem u_same_Enums : Tryz.prog.funcs[n_same_Enums]? = some Tryz.f37 := Tryz.func37
/-- guerdon/guerdonsame.Tables -/
def c_same_Tables : FC :=
  (.seq (.reg none [⟨4, (.op (.mv (.k (.bool false)))), none⟩] [4])
  (.seq (.seq (.reg none [⟨6, (.op (.mv (.t 0))), none⟩, ⟨7, (.op (.len (.t 6))), none⟩, ⟨8, (.op (.mv (.t 1))), none⟩, ⟨9, (.op (.len (.t 8))), none⟩, ⟨10, (.op (.bin .neq (.t 7) (.t 9))), none⟩] [6, 7, 8, 9])
  (.cond (.t 10)
    (.seq (.reg none [⟨4, (.op (.mv (.k (.bool false)))), none⟩] [0, 1, 10])
    .ret)
    .skip))
  (.seq (.seq (.reg none [⟨5, (.op (.mv (.k (.int .i64 0)))), none⟩] [10])
  (.block 0 (.loop (.seq (.seq (.reg none [⟨11, (.op (.mv (.t 5))), none⟩, ⟨12, (.op (.mv (.t 0))), none⟩, ⟨13, (.op (.len (.t 12))), none⟩, ⟨14, (.op (.bin .lss (.t 11) (.t 13))), none⟩, ⟨15, (.op (.mv (.t 14))), none⟩, ⟨16, (.op (.mv (.t 5))), some (15, true)⟩, ⟨17, (.op (.mv (.t 1))), some (15, true)⟩, ⟨18, (.op (.len (.t 17))), some (15, true)⟩, ⟨19, (.op (.bin .lss (.t 16) (.t 18))), some (15, true)⟩, ⟨20, (.op (.pick (.t 15) (.t 19) (.k (.bool false)))), none⟩] [11, 12, 13, 14, 15, 16, 17, 18, 19])
      (.cond (.t 20)
        .skip
        (.exit 0)))
      (.seq (.block 1 (.seq (.reg (some 10) [⟨23, (.op (.mv (.t 0))), none⟩, ⟨24, (.op (.mv (.t 5))), none⟩, ⟨25, (.op (.ia (.t 23) (.t 24) 6)), none⟩, ⟨26, (.op (.load (.t 25) 6 true)), none⟩, ⟨27, (.op (.mv (.t 1))), none⟩, ⟨28, (.op (.mv (.t 5))), none⟩, ⟨29, (.op (.ia (.t 27) (.t 28) 6)), none⟩, ⟨30, (.op (.load (.t 29) 6 true)), none⟩, ⟨31, (.callL n_same_Table [.t 26, .t 30]), none⟩, ⟨32, (.op (.un .not (.t 31))), none⟩] [20, 23, 24, 25, 26, 27, 28, 29, 30, 31])
        (.cond (.t 32)
          (.seq (.reg none [⟨4, (.op (.mv (.k (.bool false)))), none⟩] [0, 1, 5, 32])
          .ret)
          .skip)))
      (.reg none [⟨21, (.op (.mv (.t 5))), none⟩, ⟨22, (.op (.bin .add (.t 21) (.k (.int .i64 1)))), none⟩, ⟨5, (.op (.mv (.t 22))), none⟩] [21, 22, 32]))))))
  (.seq (.reg none [⟨4, (.op (.mv (.k (.bool true)))), none⟩] [0, 1, 5, 20])
  .ret))))
theorem k_same_Tables : fnOk Tryz.prog Tryz.f38 c_same_Tables 33 2 [.t 4] = true := by kernel_rfl
theorem u_same_Tables : Tryz.prog.funcs[n_same_Tables]? = some Tryz.f38 := Tryz.func38
/-- guerdon/guerdonsame.Types -/
def c_same_Types : FC :=
  (.seq (.reg none [⟨4, (.op (.mv (.k (.bool false)))), none⟩] [4])
  (.seq (.seq (.reg none [⟨6, (.op (.mv (.t 0))), none⟩, ⟨7, (.op (.len (.t 6))), none⟩, ⟨8, (.op (.mv (.t 1))), none⟩, ⟨9, (.op (.len (.t 8))), none⟩, ⟨10, (.op (.bin .neq (.t 7) (.t 9))), none⟩] [6, 7, 8, 9])
  (.cond (.t 10)
    (.seq (.reg none [⟨4, (.op (.mv (.k (.bool false)))), none⟩] [0, 1, 10])
    .ret)
    .skip))
  (.seq (.seq (.reg none [⟨5, (.op (.mv (.k (.int .i64 0)))), none⟩] [10])
  (.block 0 (.loop (.seq (.seq (.reg none [⟨11, (.op (.mv (.t 5))), none⟩, ⟨12, (.op (.mv (.t 0))), none⟩, ⟨13, (.op (.len (.t 12))), none⟩, ⟨14, (.op (.bin .lss (.t 11) (.t 13))), none⟩, ⟨15, (.op (.mv (.t 14))), none⟩, ⟨16, (.op (.mv (.t 5))), some (15, true)⟩, ⟨17, (.op (.mv (.t 1))), some (15, true)⟩, ⟨18, (.op (.len (.t 17))), some (15, true)⟩, ⟨19, (.op (.bin .lss (.t 16) (.t 18))), some (15, true)⟩, ⟨20, (.op (.pick (.t 15) (.t 19) (.k (.bool false)))), none⟩] [11, 12, 13, 14, 15, 16, 17, 18, 19])
      (.cond (.t 20)
        .skip
        (.exit 0)))
      (.seq (.block 1 (.seq (.reg (some 9) [⟨23, (.op (.mv (.t 0))), none⟩, ⟨24, (.op (.mv (.t 5))), none⟩, ⟨25, (.op (.ia (.t 23) (.t 24) 2)), none⟩, ⟨26, (.op (.load (.t 25) 2 true)), none⟩, ⟨27, (.op (.mv (.t 1))), none⟩, ⟨28, (.op (.mv (.t 5))), none⟩, ⟨29, (.op (.ia (.t 27) (.t 28) 2)), none⟩, ⟨30, (.op (.load (.t 29) 2 true)), none⟩, ⟨31, (.op (.eqS true [0, 0] (.t 26) (.t 30))), none⟩] [20, 23, 24, 25, 26, 27, 28, 29, 30])
        (.cond (.t 31)
          (.seq (.reg none [⟨4, (.op (.mv (.k (.bool false)))), none⟩] [0, 1, 5, 31])
          .ret)
          .skip)))
      (.reg none [⟨21, (.op (.mv (.t 5))), none⟩, ⟨22, (.op (.bin .add (.t 21) (.k (.int .i64 1)))), none⟩, ⟨5, (.op (.mv (.t 22))), none⟩] [21, 22, 31]))))))
  (.seq (.reg none [⟨4, (.op (.mv (.k (.bool true)))), none⟩] [0, 1, 5, 20])
  .ret))))
theorem k_same_Types : fnOk Tryz.prog Tryz.f39 c_same_Types 32 2 [.t 4] = true := by kernel_rfl
theorem u_same_Types : Tryz.prog.funcs[n_same_Types]? = some Tryz.f39 := Tryz.func39
/-- guerdon/law.enums -/
def c_law_enums : FC :=
  (.seq (.reg none [⟨2, (.op (.mv (.k (.arr [])))), none⟩] [2])
  (.seq (.reg none [⟨3, (.op (.mv (.k (.arr [])))), none⟩] [])
  (.seq (.seq (.reg none [⟨6, (.op (.mv (.t 0))), none⟩, ⟨7, (.op (.len (.t 6))), none⟩, ⟨8, (.op (.mv (.k (.int .i64 0)))), none⟩] [])
  (.block 0 (.loop (.seq (.reg none [⟨9, (.op (.bin .lss (.t 8) (.t 7))), none⟩] [])
      (.seq (.cond (.t 9)
        .skip
        (.exit 0))
      (.seq (.block 1 (.seq (.reg none [⟨10, (.op (.ia (.t 6) (.t 8) 2)), none⟩, ⟨11, (.op (.load (.t 10) 2 true)), none⟩, ⟨5, (.op (.alloc [(.str []), (.sl true [])])), none⟩, ⟨0, (.op (.store (.t 5) (.t 11) 2 true)), none⟩] [9, 10, 11])
        (.reg (some 8) [⟨12, (.op (.mv (.t 3))), none⟩, ⟨13, (.op (.fa (.t 5) 0)), none⟩, ⟨14, (.op (.load (.t 13) 1 false)), none⟩, ⟨15, (.op (.fa (.t 5) 1)), none⟩, ⟨16, (.op (.load (.t 15) 1 false)), none⟩, ⟨17, (.callL n_slices_Clone_string_string [.t 16]), none⟩, ⟨18, (.op (.build [(.str []), (.sl true [])] [(0, 1), (1, 1)] [.t 14, .t 17])), none⟩, ⟨19, (.op (.buildSl [(.str []), (.sl true [])] 1 [0] [.t 18])), none⟩, ⟨20, (.op (.app (.t 12) (.t 19) 2 40)), none⟩, ⟨3, (.op (.mvP true (.t 20))), none⟩] [5, 12, 13, 14, 15, 16, 17, 18, 19, 20])))
      (.reg none [⟨21, (.op (.bin .add (.t 8) (.k (.int .i64 1)))), none⟩, ⟨8, (.op (.mv (.t 21))), none⟩] [21])))))))
  (.seq (.reg none [⟨22, (.op (.mv (.t 3))), none⟩, ⟨2, (.op (.mv (.t 22))), none⟩] [0, 6, 7, 8, 9])
  .ret))))
theorem k_law_enums : fnOk Tryz.prog Tryz.f40 c_law_enums 23 1 [.t 2] = true := by kernel_rfl
theorem u_law_enums : Tryz.prog.funcs[n_law_enums]? = some Tryz.f40 := Tryz.func40
/-- guerdon/law.tables -/
def c_law_tables : FC :=
  (.seq (.reg none [⟨2, (.op (.mv (.k (.arr [])))), none⟩] [2])
  (.seq (.reg none [⟨3, (.op (.mv (.k (.arr [])))), none⟩] [])
  (.seq (.seq (.reg none [⟨6, (.op (.mv (.t 0))), none⟩, ⟨7, (.op (.len (.t 6))), none⟩, ⟨8, (.op (.mv (.k (.int .i64 0)))), none⟩] [])
  (.block 0 (.loop (.seq (.reg none [⟨9, (.op (.bin .lss (.t 8) (.t 7))), none⟩] [])
      (.seq (.cond (.t 9)
        .skip
        (.exit 0))
      (.seq (.block 1 (.seq (.reg none [⟨10, (.op (.ia (.t 6) (.t 8) 6)), none⟩, ⟨11, (.op (.load (.t 10) 6 true)), none⟩, ⟨5, (.op (.alloc [(.str []), (.int .i64 0), (.int .i64 0), (.int .i64 0), (.int .i64 0), (.sl true [])])), none⟩, ⟨0, (.op (.store (.t 5) (.t 11) 6 true)), none⟩] [9, 10, 11])
        (.seq (.reg none [⟨12, (.op (.fa (.t 5) 5)), none⟩, ⟨13, (.op (.load (.t 12) 1 false)), none⟩, ⟨14, (.callL n_slices_Clone_api_Row_api_Row [.t 13]), none⟩, ⟨15, (.op (.fa (.t 5) 5)), none⟩, ⟨0, (.op (.store (.t 15) (.t 14) 1 true)), none⟩] [12, 13, 14, 15])
        (.reg none [⟨16, (.op (.mv (.t 3))), none⟩, ⟨17, (.op (.loadM true (.t 5) 6 true)), none⟩, ⟨18, (.op (.buildSl [(.str []), (.int .i64 0), (.int .i64 0), (.int .i64 0), (.int .i64 0), (.sl true [])] 1 [0] [.t 17])), none⟩, ⟨19, (.op (.app (.t 16) (.t 18) 6 72)), none⟩, ⟨3, (.op (.mvP true (.t 19))), none⟩] [5, 16, 17, 18, 19]))))
      (.reg none [⟨20, (.op (.bin .add (.t 8) (.k (.int .i64 1)))), none⟩, ⟨8, (.op (.mv (.t 20))), none⟩] [20])))))))
  (.seq (.reg none [⟨21, (.op (.mv (.t 3))), none⟩, ⟨2, (.op (.mv (.t 21))), none⟩] [0, 6, 7, 8, 9])
  .ret))))
theorem k_law_tables : fnOk Tryz.prog Tryz.f41 c_law_tables 22 1 [.t 2] = true := by kernel_rfl
theorem u_law_tables : Tryz.prog.funcs[n_law_tables]? = some Tryz.f41 := Tryz.func41
/-- guerdon/law.types -/
def c_law_types : FC :=
  (.seq (.reg none [⟨2, (.op (.mv (.k (.arr [])))), none⟩] [2])
  (.seq (.reg none [⟨3, (.op (.mv (.k (.arr [])))), none⟩] [])
  (.seq (.seq (.reg none [⟨6, (.op (.mv (.t 0))), none⟩, ⟨7, (.op (.len (.t 6))), none⟩, ⟨8, (.op (.mv (.k (.int .i64 0)))), none⟩] [])
  (.block 0 (.loop (.seq (.reg none [⟨9, (.op (.bin .lss (.t 8) (.t 7))), none⟩] [])
      (.seq (.cond (.t 9)
        .skip
        (.exit 0))
      (.seq (.block 1 (.seq (.reg none [⟨10, (.op (.ia (.t 6) (.t 8) 3)), none⟩, ⟨11, (.op (.load (.t 10) 3 true)), none⟩, ⟨5, (.op (.alloc [(.str []), (.int .i64 0), (.int .i64 0)])), none⟩, ⟨0, (.op (.store (.t 5) (.t 11) 3 true)), none⟩] [9, 10, 11])
        (.reg none [⟨12, (.op (.mv (.t 3))), none⟩, ⟨13, (.op (.fa (.t 5) 1)), none⟩, ⟨14, (.op (.load (.t 13) 2 true)), none⟩, ⟨15, (.op (.buildSl [(.int .i64 0), (.int .i64 0)] 1 [0] [.t 14])), none⟩, ⟨16, (.op (.app (.t 12) (.t 15) 2 16)), none⟩, ⟨3, (.op (.mvP true (.t 16))), none⟩] [5, 12, 13, 14, 15, 16])))
      (.reg none [⟨17, (.op (.bin .add (.t 8) (.k (.int .i64 1)))), none⟩, ⟨8, (.op (.mv (.t 17))), none⟩] [17])))))))
  (.seq (.reg none [⟨18, (.op (.mv (.t 3))), none⟩, ⟨2, (.op (.mv (.t 18))), none⟩] [0, 6, 7, 8, 9])
  .ret))))
theorem k_law_types : fnOk Tryz.prog Tryz.f42 c_law_types 19 1 [.t 2] = true := by kernel_rfl
theorem u_law_types : Tryz.prog.funcs[n_law_types]? = some Tryz.f42 := Tryz.func42
/-- guerdon/law.member -/
def c_law_member : FC :=
  (.seq (.reg none [⟨2, (.op (.box (.t 0))), none⟩, ⟨3, (.op (.box (.t 1))), none⟩, ⟨4, (.op (.alloc [(.str []), (.int .i64 0), (.sl true []), (.sl true []), (.sl true [])])), none⟩, ⟨5, (.op (.mv (.k (.bool false)))), none⟩] [0, 1, 5])
  (.seq (.seq (.reg none [⟨6, (.op (.fa (.t 3) 1)), none⟩, ⟨7, (.op (.load (.t 6) 1 false)), none⟩, ⟨8, (.op (.bin .lss (.t 7) (.k (.int .i64 0)))), none⟩, ⟨9, (.op (.mv (.t 8))), none⟩, ⟨10, (.op (.fa (.t 3) 1)), some (9, false)⟩, ⟨11, (.op (.load (.t 10) 1 false)), some (9, false)⟩, ⟨12, (.op (.fa (.t 2) 2)), some (9, false)⟩, ⟨13, (.op (.load (.t 12) 1 false)), some (9, false)⟩, ⟨14, (.op (.len (.t 13))), some (9, false)⟩, ⟨15, (.op (.bin .geq (.t 11) (.t 14))), some (9, false)⟩, ⟨16, (.op (.pick (.t 9) (.k (.bool true)) (.t 15))), none⟩] [6, 7, 8, 9, 10, 11, 12, 13, 14, 15])
  (.cond (.t 16)
    (.seq (.reg none [⟨17, (.op (.build [(.str []), (.int .i64 0), (.sl true []), (.sl true []), (.sl true [])] [] [])), none⟩, ⟨0, (.op (.store (.t 4) (.t 17) 5 true)), none⟩, ⟨5, (.op (.mv (.k (.bool false)))), none⟩] [2, 3, 16, 17])
    .ret)
    .skip))
  (.seq (.reg none [⟨18, (.op (.fa (.t 2) 2)), none⟩, ⟨19, (.op (.load (.t 18) 1 false)), none⟩, ⟨20, (.op (.fa (.t 3) 1)), none⟩, ⟨21, (.op (.load (.t 20) 1 false)), none⟩, ⟨22, (.op (.ia (.t 19) (.t 21) 5)), none⟩, ⟨23, (.op (.load (.t 22) 5 true)), none⟩, ⟨0, (.op (.store (.t 4) (.t 23) 5 true)), none⟩, ⟨5, (.op (.mv (.k (.bool true)))), none⟩] [2, 3, 16, 18, 19, 20, 21, 22, 23])
  .ret)))
theorem k_law_member : fnOk Tryz.prog Tryz.f43 c_law_member 24 2 [.c 4 5 true, .t 5] = true := by kernel_rfl
theorem u_law_member : Tryz.prog.funcs[n_law_member]? = some Tryz.f43 := Tryz.func43
/-- guerdon/guerdonref17.fieldTypes -/
def c_ref17_fieldTypes : FC :=
  (.seq (.reg none [⟨2, (.op (.mv (.k (.arr [])))), none⟩] [2])
  (.seq (.reg none [⟨3, (.op (.mv (.k (.arr [])))), none⟩] [])
  (.seq (.seq (.reg none [⟨4, (.op (.mv (.k (.int .i64 0)))), none⟩] [])
  (.block 0 (.loop (.seq (.seq (.reg none [⟨5, (.op (.mv (.t 4))), none⟩, ⟨6, (.op (.mv (.t 0))), none⟩, ⟨7, (.op (.len (.t 6))), none⟩, ⟨8, (.op (.bin .lss (.t 5) (.t 7))), none⟩] [5, 6, 7])
      (.cond (.t 8)
        .skip
        (.exit 0)))
      (.seq (.block 1 (.reg none [⟨11, (.op (.mv (.t 3))), none⟩, ⟨12, (.op (.mv (.t 0))), none⟩, ⟨13, (.op (.mv (.t 4))), none⟩, ⟨14, (.op (.ia (.t 12) (.t 13) 3)), none⟩, ⟨15, (.op (.fa (.t 14) 1)), none⟩, ⟨16, (.op (.load (.t 15) 2 true)), none⟩, ⟨17, (.op (.buildSl [(.int .i64 0), (.int .i64 0)] 1 [0] [.t 16])), none⟩, ⟨18, (.op (.app (.t 11) (.t 17) 2 16)), none⟩, ⟨3, (.op (.mvP true (.t 18))), none⟩] [8, 11, 12, 13, 14, 15, 16, 17, 18]))
      (.reg none [⟨9, (.op (.mv (.t 4))), none⟩, ⟨10, (.op (.bin .add (.t 9) (.k (.int .i64 1)))), none⟩, ⟨4, (.op (.mv (.t 10))), none⟩] [9, 10]))))))
  (.seq (.reg none [⟨19, (.op (.mv (.t 3))), none⟩, ⟨2, (.op (.mv (.t 19))), none⟩] [0, 4, 8])
  .ret))))
theorem k_ref17_fieldTypes : fnOk Tryz.prog Tryz.f44 c_ref17_fieldTypes 20 1 [.t 2] = true := by kernel_rfl
theorem u_ref17_fieldTypes : Tryz.prog.funcs[n_ref17_fieldTypes]? = some Tryz.f44 := Tryz.func44
/-- guerdon/guerdonsame.Strings -/
def c_same_Strings : FC :=
  (.seq (.reg none [⟨4, (.op (.mv (.k (.bool false)))), none⟩] [4])
  (.seq (.seq (.reg none [⟨6, (.op (.mv (.t 0))), none⟩, ⟨7, (.op (.len (.t 6))), none⟩, ⟨8, (.op (.mv (.t 1))), none⟩, ⟨9, (.op (.len (.t 8))), none⟩, ⟨10, (.op (.bin .neq (.t 7) (.t 9))), none⟩] [6, 7, 8, 9])
  (.cond (.t 10)
    (.seq (.reg none [⟨4, (.op (.mv (.k (.bool false)))), none⟩] [0, 1, 10])
    .ret)
    .skip))
  (.seq (.seq (.reg none [⟨5, (.op (.mv (.k (.int .i64 0)))), none⟩] [10])
  (.block 0 (.loop (.seq (.seq (.reg none [⟨11, (.op (.mv (.t 5))), none⟩, ⟨12, (.op (.mv (.t 0))), none⟩, ⟨13, (.op (.len (.t 12))), none⟩, ⟨14, (.op (.bin .lss (.t 11) (.t 13))), none⟩, ⟨15, (.op (.mv (.t 14))), none⟩, ⟨16, (.op (.mv (.t 5))), some (15, true)⟩, ⟨17, (.op (.mv (.t 1))), some (15, true)⟩, ⟨18, (.op (.len (.t 17))), some (15, true)⟩, ⟨19, (.op (.bin .lss (.t 16) (.t 18))), some (15, true)⟩, ⟨20, (.op (.pick (.t 15) (.t 19) (.k (.bool false)))), none⟩] [11, 12, 13, 14, 15, 16, 17, 18, 19])
      (.cond (.t 20)
        .skip
        (.exit 0)))
      (.seq (.block 1 (.seq (.reg (some 9) [⟨23, (.op (.mv (.t 0))), none⟩, ⟨24, (.op (.mv (.t 5))), none⟩, ⟨25, (.op (.ia (.t 23) (.t 24) 1)), none⟩, ⟨26, (.op (.load (.t 25) 1 false)), none⟩, ⟨27, (.op (.mv (.t 1))), none⟩, ⟨28, (.op (.mv (.t 5))), none⟩, ⟨29, (.op (.ia (.t 27) (.t 28) 1)), none⟩, ⟨30, (.op (.load (.t 29) 1 false)), none⟩, ⟨31, (.op (.bin .neq (.t 26) (.t 30))), none⟩] [20, 23, 24, 25, 26, 27, 28, 29, 30])
        (.cond (.t 31)
          (.seq (.reg none [⟨4, (.op (.mv (.k (.bool false)))), none⟩] [0, 1, 5, 31])
          .ret)
          .skip)))
      (.reg none [⟨21, (.op (.mv (.t 5))), none⟩, ⟨22, (.op (.bin .add (.t 21) (.k (.int .i64 1)))), none⟩, ⟨5, (.op (.mv (.t 22))), none⟩] [21, 22, 31]))))))
  (.seq (.reg none [⟨4, (.op (.mv (.k (.bool true)))), none⟩] [0, 1, 5, 20])
  .ret))))
theorem k_same_Strings : fnOk Tryz.prog Tryz.f45 c_same_Strings 32 2 [.t 4] = true := by kernel_rfl
theorem u_same_Strings : Tryz.prog.funcs[n_same_Strings]? = some Tryz.f45 := Tryz.func45
/-- guerdon/law.names -/
def c_law_names : FC :=
  (.seq (.reg none [⟨2, (.op (.mv (.k (.arr [])))), none⟩] [2])
  (.seq (.reg none [⟨3, (.op (.mv (.k (.arr [])))), none⟩] [])
  (.seq (.seq (.reg none [⟨6, (.op (.mv (.t 0))), none⟩, ⟨7, (.op (.len (.t 6))), none⟩, ⟨8, (.op (.mv (.k (.int .i64 0)))), none⟩] [])
  (.block 0 (.loop (.seq (.reg none [⟨9, (.op (.bin .lss (.t 8) (.t 7))), none⟩] [])
      (.seq (.cond (.t 9)
        .skip
        (.exit 0))
      (.seq (.block 1 (.seq (.reg none [⟨10, (.op (.ia (.t 6) (.t 8) 3)), none⟩, ⟨11, (.op (.load (.t 10) 3 true)), none⟩, ⟨5, (.op (.alloc [(.str []), (.int .i64 0), (.int .i64 0)])), none⟩, ⟨0, (.op (.store (.t 5) (.t 11) 3 true)), none⟩] [9, 10, 11])
        (.reg none [⟨12, (.op (.mv (.t 3))), none⟩, ⟨13, (.op (.fa (.t 5) 0)), none⟩, ⟨14, (.op (.load (.t 13) 1 false)), none⟩, ⟨15, (.op (.buildSl [(.str [])] 1 [0] [.t 14])), none⟩, ⟨16, (.op (.app (.t 12) (.t 15) 1 16)), none⟩, ⟨3, (.op (.mvP true (.t 16))), none⟩] [5, 12, 13, 14, 15, 16])))
      (.reg none [⟨17, (.op (.bin .add (.t 8) (.k (.int .i64 1)))), none⟩, ⟨8, (.op (.mv (.t 17))), none⟩] [17])))))))
  (.seq (.reg none [⟨18, (.op (.mv (.t 3))), none⟩, ⟨2, (.op (.mv (.t 18))), none⟩] [0, 6, 7, 8, 9])
  .ret))))
theorem k_law_names : fnOk Tryz.prog Tryz.f46 c_law_names 19 1 [.t 2] = true := by kernel_rfl
theorem u_law_names : Tryz.prog.funcs[n_law_names]? = some Tryz.f46 := Tryz.func46
/-- guerdon/guerdonref17.fieldNames -/
def c_ref17_fieldNames : FC :=
  (.seq (.reg none [⟨2, (.op (.mv (.k (.arr [])))), none⟩] [2])
  (.seq (.reg none [⟨3, (.op (.mv (.k (.arr [])))), none⟩] [])
  (.seq (.seq (.reg none [⟨4, (.op (.mv (.k (.int .i64 0)))), none⟩] [])
  (.block 0 (.loop (.seq (.seq (.reg none [⟨5, (.op (.mv (.t 4))), none⟩, ⟨6, (.op (.mv (.t 0))), none⟩, ⟨7, (.op (.len (.t 6))), none⟩, ⟨8, (.op (.bin .lss (.t 5) (.t 7))), none⟩] [5, 6, 7])
      (.cond (.t 8)
        .skip
        (.exit 0)))
      (.seq (.block 1 (.reg none [⟨11, (.op (.mv (.t 3))), none⟩, ⟨12, (.op (.mv (.t 0))), none⟩, ⟨13, (.op (.mv (.t 4))), none⟩, ⟨14, (.op (.ia (.t 12) (.t 13) 3)), none⟩, ⟨15, (.op (.fa (.t 14) 0)), none⟩, ⟨16, (.op (.load (.t 15) 1 false)), none⟩, ⟨17, (.op (.buildSl [(.str [])] 1 [0] [.t 16])), none⟩, ⟨18, (.op (.app (.t 11) (.t 17) 1 16)), none⟩, ⟨3, (.op (.mvP true (.t 18))), none⟩] [8, 11, 12, 13, 14, 15, 16, 17, 18]))
      (.reg none [⟨9, (.op (.mv (.t 4))), none⟩, ⟨10, (.op (.bin .add (.t 9) (.k (.int .i64 1)))), none⟩, ⟨4, (.op (.mv (.t 10))), none⟩] [9, 10]))))))
  (.seq (.reg none [⟨19, (.op (.mv (.t 3))), none⟩, ⟨2, (.op (.mv (.t 19))), none⟩] [0, 4, 8])
  .ret))))
theorem k_ref17_fieldNames : fnOk Tryz.prog Tryz.f47 c_ref17_fieldNames 20 1 [.t 2] = true := by kernel_rfl
theorem u_ref17_fieldNames : Tryz.prog.funcs[n_ref17_fieldNames]? = some Tryz.f47 := Tryz.func47
/-- slices.IndexFunc[[]guerdon/api.Scope,guerdon/api.Scope] -/
def c_slices_IndexFunc_api_Scope_api_Scope : FC :=
  (.seq (.reg none [⟨4, (.op (.mv (.k (.int .i64 0)))), none⟩] [4])
  (.seq (.seq (.reg none [⟨6, (.op (.mv (.t 0))), none⟩, ⟨7, (.op (.len (.t 6))), none⟩, ⟨8, (.op (.mv (.k (.int .i64 0)))), none⟩] [6])
  (.block 0 (.loop (.seq (.reg none [⟨9, (.op (.bin .lss (.t 8) (.t 7))), none⟩] [])
      (.seq (.cond (.t 9)
        .skip
        (.exit 0))
      (.seq (.block 1 (.seq (.reg none [⟨10, (.op (.mv (.t 8))), none⟩, ⟨5, (.op (.mv (.t 10))), none⟩] [9, 10])
        (.seq (.reg none [⟨11, (.op (.mv (.t 1))), none⟩, ⟨12, (.op (.mv (.t 0))), none⟩, ⟨13, (.op (.mv (.t 5))), none⟩, ⟨14, (.op (.ia (.t 12) (.t 13) 5)), none⟩, ⟨15, (.op (.load (.t 14) 5 true)), none⟩, ⟨16, (.callV (.t 11) [.t 15]), none⟩] [11, 12, 13, 14, 15])
        (.cond (.t 16)
          (.seq (.reg none [⟨17, (.op (.mv (.t 5))), none⟩, ⟨4, (.op (.mv (.t 17))), none⟩] [0, 1, 5, 7, 8, 16, 17])
          .ret)
          .skip))))
      (.reg none [⟨18, (.op (.bin .add (.t 8) (.k (.int .i64 1)))), none⟩, ⟨8, (.op (.mv (.t 18))), none⟩] [5, 16, 18])))))))
  (.seq (.reg none [⟨4, (.op (.mv (.k (.int .i64 (-1))))), none⟩] [0, 1, 7, 8, 9])
  .ret)))
theorem k_slices_IndexFunc_api_Scope_api_Scope : fnOk Tryz.prog Tryz.f48 c_slices_IndexFunc_api_Scope_api_Scope 19 2 [.t 4] = true := by kernel_rfl
theorem u_slices_IndexFunc_api_Scope_api_Scope : Tryz.prog.funcs[n_slices_IndexFunc_api_Scope_api_Scope]? = some Tryz.f48 := Tryz.func48
/-- guerdon/law.Find$1 -/
def c_law_Find_1 : FC :=
  (.seq (.reg none [⟨2, (.op (.box (.t 0))), none⟩, ⟨3, (.op (.mv (.k (.bool false)))), none⟩] [0, 3])
  (.seq (.reg none [⟨4, (.op (.fa (.t 2) 0)), none⟩, ⟨5, (.op (.load (.t 4) 1 false)), none⟩, ⟨6, (.op (.load (.t 1) 1 false)), none⟩, ⟨7, (.op (.bin .eql (.t 5) (.t 6))), none⟩, ⟨3, (.op (.mv (.t 7))), none⟩] [1, 2, 4, 5, 6, 7])
  .ret))
theorem k_law_Find_1 : fnOk Tryz.prog Tryz.f49 c_law_Find_1 8 2 [.t 3] = true := by kernel_rfl
theorem u_law_Find_1 : Tryz.prog.funcs[n_law_Find_1]? = some Tryz.f49 := Tryz.func49
/-- guerdon/law.Find$2 -/
def c_law_Find_2 : FC :=
  (.seq (.reg none [⟨2, (.op (.box (.t 0))), none⟩, ⟨3, (.op (.mv (.k (.bool false)))), none⟩] [0, 3])
  (.seq (.reg none [⟨4, (.op (.fa (.t 2) 0)), none⟩, ⟨5, (.op (.load (.t 4) 1 false)), none⟩, ⟨6, (.op (.load (.t 1) 1 false)), none⟩, ⟨7, (.op (.bin .eql (.t 5) (.t 6))), none⟩, ⟨3, (.op (.mv (.t 7))), none⟩] [1, 2, 4, 5, 6, 7])
  .ret))
theorem k_law_Find_2 : fnOk Tryz.prog Tryz.f50 c_law_Find_2 8 2 [.t 3] = true := by kernel_rfl
theorem u_law_Find_2 : Tryz.prog.funcs[n_law_Find_2]? = some Tryz.f50 := Tryz.func50
/-- slices.IndexFunc[[]guerdon/api.Field,guerdon/api.Field] -/
def c_slices_IndexFunc_api_Field_api_Field : FC :=
  (.seq (.reg none [⟨4, (.op (.mv (.k (.int .i64 0)))), none⟩] [4])
  (.seq (.seq (.reg none [⟨6, (.op (.mv (.t 0))), none⟩, ⟨7, (.op (.len (.t 6))), none⟩, ⟨8, (.op (.mv (.k (.int .i64 0)))), none⟩] [6])
  (.block 0 (.loop (.seq (.reg none [⟨9, (.op (.bin .lss (.t 8) (.t 7))), none⟩] [])
      (.seq (.cond (.t 9)
        .skip
        (.exit 0))
      (.seq (.block 1 (.seq (.reg none [⟨10, (.op (.mv (.t 8))), none⟩, ⟨5, (.op (.mv (.t 10))), none⟩] [9, 10])
        (.seq (.reg none [⟨11, (.op (.mv (.t 1))), none⟩, ⟨12, (.op (.mv (.t 0))), none⟩, ⟨13, (.op (.mv (.t 5))), none⟩, ⟨14, (.op (.ia (.t 12) (.t 13) 3)), none⟩, ⟨15, (.op (.load (.t 14) 3 true)), none⟩, ⟨16, (.callV (.t 11) [.t 15]), none⟩] [11, 12, 13, 14, 15])
        (.cond (.t 16)
          (.seq (.reg none [⟨17, (.op (.mv (.t 5))), none⟩, ⟨4, (.op (.mv (.t 17))), none⟩] [0, 1, 5, 7, 8, 16, 17])
          .ret)
          .skip))))
      (.reg none [⟨18, (.op (.bin .add (.t 8) (.k (.int .i64 1)))), none⟩, ⟨8, (.op (.mv (.t 18))), none⟩] [5, 16, 18])))))))
  (.seq (.reg none [⟨4, (.op (.mv (.k (.int .i64 (-1))))), none⟩] [0, 1, 7, 8, 9])
  .ret)))
theorem k_slices_IndexFunc_api_Field_api_Field : fnOk Tryz.prog Tryz.f51 c_slices_IndexFunc_api_Field_api_Field 19 2 [.t 4] = true := by kernel_rfl
theorem u_slices_IndexFunc_api_Field_api_Field : Tryz.prog.funcs[n_slices_IndexFunc_api_Field_api_Field]? = some Tryz.f51 := Tryz.func51
/-- guerdon/guerdonref17.fieldIndex -/
def c_ref17_fieldIndex : FC :=
  (.seq (.reg none [⟨4, (.op (.mv (.k (.int .i64 0)))), none⟩] [4])
  (.seq (.seq (.reg none [⟨5, (.op (.mv (.k (.int .i64 0)))), none⟩] [])
  (.block 0 (.loop (.seq (.seq (.reg none [⟨6, (.op (.mv (.t 5))), none⟩, ⟨7, (.op (.mv (.t 0))), none⟩, ⟨8, (.op (.len (.t 7))), none⟩, ⟨9, (.op (.bin .lss (.t 6) (.t 8))), none⟩] [6, 7, 8])
      (.cond (.t 9)
        .skip
        (.exit 0)))
      (.seq (.block 1 (.seq (.reg none [⟨12, (.op (.mv (.t 0))), none⟩, ⟨13, (.op (.mv (.t 5))), none⟩, ⟨14, (.op (.ia (.t 12) (.t 13) 3)), none⟩, ⟨15, (.op (.fa (.t 14) 0)), none⟩, ⟨16, (.op (.load (.t 15) 1 false)), none⟩, ⟨17, (.op (.mv (.t 1))), none⟩, ⟨18, (.op (.bin .eql (.t 16) (.t 17))), none⟩] [9, 12, 13, 14, 15, 16, 17])
        (.cond (.t 18)
          (.seq (.reg none [⟨19, (.op (.mv (.t 5))), none⟩, ⟨4, (.op (.mv (.t 19))), none⟩] [0, 1, 5, 18, 19])
          .ret)
          .skip)))
      (.reg none [⟨10, (.op (.mv (.t 5))), none⟩, ⟨11, (.op (.bin .add (.t 10) (.k (.int .i64 1)))), none⟩, ⟨5, (.op (.mv (.t 11))), none⟩] [10, 11, 18]))))))
  (.seq (.reg none [⟨4, (.op (.mv (.k (.int .i64 (-1))))), none⟩] [0, 1, 5, 9])
  .ret)))
theorem k_ref17_fieldIndex : fnOk Tryz.prog Tryz.f52 c_ref17_fieldIndex 20 2 [.t 4] = true := by kernel_rfl
theorem u_ref17_fieldIndex : Tryz.prog.funcs[n_ref17_fieldIndex]? = some Tryz.f52 := Tryz.func52
/-- guerdon/expr.TypeOf -/
def c_expr_TypeOf : FC :=
  (.seq (.reg none [⟨3, (.op (.box (.t 1))), none⟩, ⟨4, (.op (.alloc [(.int .i64 0), (.int .i64 0)])), none⟩, ⟨5, (.op (.mv (.k (.int .i64 0)))), none⟩, ⟨6, (.op (.mv (.k (.int .i64 0)))), none⟩] [1, 5, 6])
  (.seq (.reg none [⟨19, (.op (.mv (.t 0))), none⟩, ⟨20, (.callL n_expr_starts [.t 19]), none⟩, ⟨18, (.op (.mvP true (.t 20))), none⟩, ⟨21, (.op (.extract 18 0)), none⟩, ⟨22, (.op (.extract 18 1)), none⟩, ⟨23, (.op (.extract 18 2)), none⟩, ⟨7, (.op (.mvP true (.t 21))), none⟩, ⟨8, (.op (.mvP true (.t 22))), none⟩, ⟨9, (.op (.mvP true (.t 23))), none⟩] [18, 19, 20, 21, 22, 23])
  (.seq (.seq (.reg none [⟨24, (.op (.mv (.t 9))), none⟩, ⟨25, (.op (.bin .neq (.t 24) (.k (.int .i64 0)))), none⟩] [24])
  (.cond (.t 25)
    (.seq (.reg none [⟨26, (.op (.build [(.int .i64 0), (.int .i64 0)] [] [])), none⟩, ⟨27, (.op (.mv (.t 8))), none⟩, ⟨28, (.op (.mv (.t 9))), none⟩, ⟨0, (.op (.store (.t 4) (.t 26) 2 true)), none⟩, ⟨5, (.op (.mv (.t 27))), none⟩, ⟨6, (.op (.mv (.t 28))), none⟩] [0, 3, 7, 8, 9, 25, 26, 27, 28])
    .ret)
    .skip))
  (.seq (.reg none [⟨29, (.op (.mv (.t 0))), none⟩, ⟨30, (.op (.len (.t 29))), none⟩, ⟨31, (.op (.makeSl [(.int .i64 0), (.int .i64 0)] 16 (.t 30) (.t 30))), none⟩, ⟨10, (.op (.mvP true (.t 31))), none⟩] [8, 9, 25, 29, 30, 31])
  (.seq (.seq (.reg none [⟨32, (.op (.mv (.t 0))), none⟩, ⟨33, (.op (.len (.t 32))), none⟩, ⟨34, (.op (.mv (.k (.int .i64 0)))), none⟩] [])
  (.block 0 (.loop (.seq (.reg none [⟨35, (.op (.bin .lss (.t 34) (.t 33))), none⟩] [])
      (.seq (.cond (.t 35)
        .skip
        (.exit 0))
      (.seq (.block 1 (.seq (.reg none [⟨36, (.op (.mv (.t 34))), none⟩, ⟨37, (.op (.ia (.t 32) (.t 34) 2)), none⟩, ⟨38, (.op (.load (.t 37) 2 true)), none⟩, ⟨12, (.op (.alloc [(.int .i64 0), (.int .i64 0)])), none⟩, ⟨11, (.op (.mv (.t 36))), none⟩, ⟨0, (.op (.store (.t 12) (.t 38) 2 true)), none⟩] [35, 36, 37, 38])
        (.seq (.reg none [⟨13, (.op (.mv (.k (.arr [])))), none⟩] [])
        (.seq (.seq (.reg none [⟨39, (.op (.mv (.t 0))), none⟩, ⟨40, (.op (.mv (.t 7))), none⟩, ⟨41, (.op (.mv (.t 11))), none⟩, ⟨42, (.callB n_expr_operands [.t 39, .t 40, .t 41]), none⟩, ⟨43, (.op (.len (.t 42))), none⟩, ⟨44, (.op (.mv (.k (.int .i64 0)))), none⟩] [39, 40, 41])
        (.block 2 (.loop (.seq (.reg none [⟨45, (.op (.bin .lss (.t 44) (.t 43))), none⟩] [])
            (.seq (.cond (.t 45)
              .skip
              (.exit 2))
            (.seq (.block 3 (.seq (.reg none [⟨46, (.op (.ia (.t 42) (.t 44) 1)), none⟩, ⟨47, (.op (.load (.t 46) 1 false)), none⟩, ⟨15, (.op (.mv (.t 47))), none⟩] [45, 46, 47])
              (.reg none [⟨48, (.op (.mv (.t 13))), none⟩, ⟨49, (.op (.mv (.t 10))), none⟩, ⟨50, (.op (.mv (.t 15))), none⟩, ⟨51, (.op (.ia (.t 49) (.t 50) 2)), none⟩, ⟨52, (.op (.load (.t 51) 2 true)), none⟩, ⟨53, (.op (.buildSl [(.int .i64 0), (.int .i64 0)] 1 [0] [.t 52])), none⟩, ⟨54, (.op (.app (.t 48) (.t 53) 2 16)), none⟩, ⟨13, (.op (.mvP true (.t 54))), none⟩] [15, 48, 49, 50, 51, 52, 53, 54])))
            (.reg none [⟨55, (.op (.bin .add (.t 44) (.k (.int .i64 1)))), none⟩, ⟨44, (.op (.mv (.t 55))), none⟩] [55])))))))
        (.seq (.reg none [⟨57, (.op (.load (.t 12) 2 true)), none⟩, ⟨58, (.op (.mv (.t 13))), none⟩, ⟨59, (.op (.load (.t 3) 6 true)), none⟩, ⟨60, (.callB n_expr_typeOf [.t 57, .t 58, .t 59]), none⟩, ⟨56, (.op (.mvP true (.t 60))), none⟩, ⟨61, (.op (.extract 56 0)), none⟩, ⟨62, (.op (.extract 56 1)), none⟩, ⟨16, (.op (.alloc [(.int .i64 0), (.int .i64 0)])), none⟩, ⟨0, (.op (.store (.t 16) (.t 61) 2 true)), none⟩, ⟨17, (.op (.mvP true (.t 62))), none⟩] [12, 13, 42, 43, 44, 45, 56, 57, 58, 59, 60, 61, 62])
        (.seq (.seq (.reg none [⟨63, (.op (.mv (.t 17))), none⟩, ⟨64, (.op (.bin .neq (.t 63) (.k (.int .i64 0)))), none⟩] [63])
        (.cond (.t 64)
          (.seq (.reg none [⟨65, (.op (.build [(.int .i64 0), (.int .i64 0)] [] [])), none⟩, ⟨66, (.op (.mv (.t 11))), none⟩, ⟨67, (.op (.mv (.t 17))), none⟩, ⟨0, (.op (.store (.t 4) (.t 65) 2 true)), none⟩, ⟨5, (.op (.mv (.t 66))), none⟩, ⟨6, (.op (.mv (.t 67))), none⟩] [0, 3, 7, 10, 11, 16, 17, 32, 33, 34, 64, 65, 66, 67])
          .ret)
          .skip))
        (.reg none [⟨68, (.op (.mv (.t 10))), none⟩, ⟨69, (.op (.mv (.t 11))), none⟩, ⟨70, (.op (.load (.t 16) 2 true)), none⟩, ⟨71, (.op (.ia (.t 68) (.t 69) 2)), none⟩, ⟨0, (.op (.store (.t 71) (.t 70) 2 true)), none⟩] [11, 16, 17, 64, 68, 69, 70, 71])))))))
      (.reg none [⟨72, (.op (.bin .add (.t 34) (.k (.int .i64 1)))), none⟩, ⟨34, (.op (.mv (.t 72))), none⟩] [72])))))))
  (.seq (.reg none [⟨73, (.op (.mv (.t 10))), none⟩, ⟨74, (.op (.mv (.t 0))), none⟩, ⟨75, (.op (.len (.t 74))), none⟩, ⟨76, (.op (.bin .sub (.t 75) (.k (.int .i64 1)))), none⟩, ⟨77, (.op (.ia (.t 73) (.t 76) 2)), none⟩, ⟨78, (.op (.load (.t 77) 2 true)), none⟩, ⟨0, (.op (.store (.t 4) (.t 78) 2 true)), none⟩, ⟨5, (.op (.mv (.k (.int .i64 0)))), none⟩, ⟨6, (.op (.mv (.k (.int .i64 0)))), none⟩] [0, 3, 7, 10, 32, 33, 34, 35, 73, 74, 75, 76, 77, 78])
  .ret))))))
theorem k_expr_TypeOf : fnOk Tryz.prog Tryz.f53 c_expr_TypeOf 79 2 [.c 4 2 true, .t 5, .t 6] = true := by kernel_rfl
theorem u_expr_TypeOf : Tryz.prog.funcs[n_expr_TypeOf]? = some Tryz.f53 := Tryz.func53
/-- guerdon/deps.Direct -/
def c_deps_Direct : FC :=
  (.seq (.reg none [⟨2, (.op (.box (.t 0))), none⟩, ⟨4, (.op (.mv (.k (.arr [])))), none⟩] [0, 4])
  (.seq (.seq (.reg none [⟨15, (.op (.load (.t 2) 5 true)), none⟩, ⟨16, (.op (.mv (.t 1))), none⟩, ⟨17, (.callL n_deps_valid [.t 15, .t 16]), none⟩, ⟨18, (.op (.un .not (.t 17))), none⟩] [15, 16, 17])
  (.cond (.t 18)
    (.seq (.reg none [⟨4, (.op (.mv (.k (.arr [])))), none⟩] [1, 2, 18])
    .ret)
    .skip))
  (.seq (.reg none [⟨5, (.op (.mv (.k (.arr [])))), none⟩] [18])
  (.seq (.seq (.reg none [⟨19, (.op (.fa (.t 2) 4)), none⟩, ⟨20, (.op (.load (.t 19) 1 false)), none⟩, ⟨21, (.op (.len (.t 20))), none⟩, ⟨22, (.op (.mv (.k (.int .i64 0)))), none⟩] [])
  (.block 0 (.loop (.seq (.reg none [⟨23, (.op (.bin .lss (.t 22) (.t 21))), none⟩] [])
      (.seq (.cond (.t 23)
        .skip
        (.exit 0))
      (.seq (.block 1 (.seq (.reg none [⟨24, (.op (.ia (.t 20) (.t 22) 9)), none⟩, ⟨25, (.op (.load (.t 24) 9 true)), none⟩, ⟨7, (.op (.alloc [(.str []), (.int .i64 0), (.int .i64 0), (.int .i64 0), (.int .i64 0), (.int .i64 0), (.sl true []), (.sl true []), (.str [])])), none⟩, ⟨0, (.op (.store (.t 7) (.t 25) 9 true)), none⟩] [23, 24, 25])
        (.seq (.seq (.reg none [⟨26, (.op (.fa (.t 7) 1)), none⟩, ⟨27, (.op (.load (.t 26) 1 false)), none⟩, ⟨28, (.op (.mv (.t 1))), none⟩, ⟨29, (.op (.bin .neq (.t 27) (.t 28))), none⟩] [26, 27, 28])
        (.cond (.t 29)
          (.exit 1)
          .skip))
        (.seq (.reg none [⟨30, (.op (.fa (.t 7) 6)), none⟩, ⟨31, (.op (.load (.t 30) 1 false)), none⟩, ⟨32, (.op (.fa (.t 7) 7)), none⟩, ⟨33, (.op (.load (.t 32) 1 false)), none⟩, ⟨34, (.op (.buildSl [(.sl true [])] 2 [0, 1] [.t 31, .t 33])), none⟩, ⟨35, (.op (.len (.t 34))), none⟩, ⟨36, (.op (.mv (.k (.int .i64 0)))), none⟩] [7, 29, 30, 31, 32, 33])
        (.block 2 (.loop (.seq (.reg none [⟨37, (.op (.bin .lss (.t 36) (.t 35))), none⟩] [])
            (.seq (.cond (.t 37)
              .skip
              (.exit 2))
            (.seq (.block 3 (.seq (.reg none [⟨38, (.op (.ia (.t 34) (.t 36) 1)), none⟩, ⟨39, (.op (.load (.t 38) 1 false)), none⟩, ⟨9, (.op (.mv (.t 39))), none⟩] [37])
              (.seq (.reg none [⟨41, (.op (.mv (.t 9))), none⟩, ⟨42, (.callL n_expr_References [.t 41]), none⟩, ⟨40, (.op (.mvP true (.t 42))), none⟩, ⟨43, (.op (.extract 40 0)), none⟩, ⟨44, (.op (.extract 40 1)), none⟩, ⟨45, (.op (.extract 40 2)), none⟩, ⟨10, (.op (.mvP true (.t 43))), none⟩, ⟨11, (.op (.mvP true (.t 44))), none⟩, ⟨12, (.op (.mvP true (.t 45))), none⟩] [9, 10, 12, 38, 39, 40, 41, 42, 43, 44, 45])
              (.seq (.reg none [⟨46, (.op (.mv (.t 11))), none⟩, ⟨47, (.op (.len (.t 46))), none⟩, ⟨48, (.op (.mv (.k (.int .i64 0)))), none⟩] [])
              (.block 4 (.loop (.seq (.reg none [⟨49, (.op (.bin .lss (.t 48) (.t 47))), none⟩] [])
                  (.seq (.cond (.t 49)
                    .skip
                    (.exit 4))
                  (.seq (.block 5 (.seq (.reg none [⟨50, (.op (.ia (.t 46) (.t 48) 1)), none⟩, ⟨51, (.op (.load (.t 50) 1 false)), none⟩, ⟨14, (.op (.mv (.t 51))), none⟩] [49, 50, 51])
                    (.seq (.reg none [⟨52, (.op (.load (.t 2) 5 true)), none⟩, ⟨53, (.op (.mv (.t 14))), none⟩, ⟨54, (.callL n_deps_valid [.t 52, .t 53]), none⟩] [52, 53])
                    (.cond (.t 54)
                      (.reg none [⟨55, (.op (.mv (.t 5))), none⟩, ⟨56, (.op (.mv (.t 14))), none⟩, ⟨57, (.op (.buildSl [(.int .i64 0)] 1 [0] [.t 56])), none⟩, ⟨58, (.op (.app (.t 55) (.t 57) 1 8)), none⟩, ⟨5, (.op (.mvP true (.t 58))), none⟩] [14, 54, 55, 56, 57, 58])
                      .skip))))
                  (.reg none [⟨59, (.op (.bin .add (.t 48) (.k (.int .i64 1)))), none⟩, ⟨48, (.op (.mv (.t 59))), none⟩] [14, 54, 59]))))))))))
            (.reg none [⟨60, (.op (.bin .add (.t 36) (.k (.int .i64 1)))), none⟩, ⟨36, (.op (.mv (.t 60))), none⟩] [11, 46, 47, 48, 49, 60]))))))))))
      (.reg none [⟨61, (.op (.bin .add (.t 22) (.k (.int .i64 1)))), none⟩, ⟨22, (.op (.mv (.t 61))), none⟩] [7, 29, 34, 35, 36, 37, 61])))))))
  (.seq (.reg none [⟨62, (.op (.mv (.t 5))), none⟩, ⟨63, (.callM n_slices_Sort_int_int (.t 62) 5), none⟩] [1, 2, 19, 20, 21, 22, 23, 62, 63])
  (.seq (.reg none [⟨64, (.op (.mv (.t 5))), none⟩, ⟨65, (.call n_slices_Compact_int_int [(true, .t 64)]), none⟩, ⟨4, (.op (.mvP true (.t 65))), none⟩] [5, 64, 65])
  .ret))))))
theorem k_deps_Direct : fnOk Tryz.prog Tryz.f54 c_deps_Direct 66 2 [.t 4] = true := by kernel_rfl
theorem u_deps_Direct : Tryz.prog.funcs[n_deps_Direct]? = some Tryz.f54 := Tryz.func54
/-- slices.ContainsFunc[[]int,int] -/
def c_slices_ContainsFunc_int_int : FC :=
  (.seq (.reg none [⟨4, (.op (.mv (.k (.bool false)))), none⟩] [4])
  (.seq (.reg none [⟨5, (.op (.mv (.t 0))), none⟩, ⟨6, (.op (.mv (.t 1))), none⟩, ⟨7, (.callL n_slices_IndexFunc_int_int [.t 5, .t 6]), none⟩, ⟨8, (.op (.bin .geq (.t 7) (.k (.int .i64 0)))), none⟩, ⟨4, (.op (.mv (.t 8))), none⟩] [0, 1, 5, 6, 7, 8])
  .ret))
theorem k_slices_ContainsFunc_int_int : fnOk Tryz.prog Tryz.f55 c_slices_ContainsFunc_int_int 9 2 [.t 4] = true := by kernel_rfl
theorem u_slices_ContainsFunc_int_int : Tryz.prog.funcs[n_slices_ContainsFunc_int_int]? = some Tryz.f55 := Tryz.func55
/-- guerdon/deps.EvaluationOrder$1 -/
def c_deps_EvaluationOrder_1 : FC :=
  (.seq (.reg none [⟨3, (.op (.mv (.k (.bool false)))), none⟩] [3])
  (.seq (.reg none [⟨4, (.op (.load (.t 1) 1 false)), none⟩, ⟨5, (.op (.mv (.t 0))), none⟩, ⟨6, (.op (.ia (.t 4) (.t 5) 1)), none⟩, ⟨7, (.op (.load (.t 6) 1 false)), none⟩, ⟨8, (.op (.un .not (.t 7))), none⟩, ⟨3, (.op (.mv (.t 8))), none⟩] [0, 1, 4, 5, 6, 7, 8])
  .ret))
theorem k_deps_EvaluationOrder_1 : fnOk Tryz.prog Tryz.f56 c_deps_EvaluationOrder_1 9 2 [.t 3] = true := by kernel_rfl
theorem u_deps_EvaluationOrder_1 : Tryz.prog.funcs[n_deps_EvaluationOrder_1]? = some Tryz.f56 := Tryz.func56
/-- slices.Clone[[]guerdon/api.Field,guerdon/api.Field] -/
def c_slices_Clone_api_Field_api_Field : FC :=
  (.seq (.reg none [⟨2, (.op (.mv (.k (.arr [])))), none⟩] [2])
  (.seq (.seq (.reg none [⟨3, (.op (.mv (.t 0))), none⟩, ⟨4, (.isNil false (.t 3)), none⟩] [3])
  (.cond (.t 4)
    (.seq (.reg none [⟨2, (.op (.mv (.k (.arr [])))), none⟩] [0, 4])
    .ret)
    .skip))
  (.seq (.reg none [⟨5, (.op (.buildSl [(.str []), (.int .i64 0), (.int .i64 0)] 0 [] [])), none⟩, ⟨6, (.op (.mv (.t 0))), none⟩, ⟨7, (.op (.app (.t 5) (.t 6) 3 32)), none⟩, ⟨2, (.op (.mvP true (.t 7))), none⟩] [0, 4, 5, 6, 7])
  .ret)))
theorem k_slices_Clone_api_Field_api_Field : fnOk Tryz.prog Tryz.f57 c_slices_Clone_api_Field_api_Field 8 1 [.t 2] = true := by kernel_rfl
theorem u_slices_Clone_api_Field_api_Field : Tryz.prog.funcs[n_slices_Clone_api_Field_api_Field]? = some Tryz.f57 := Tryz.func57
/-- slices.Clone[[]guerdon/api.Node,guerdon/api.Node] -/
def c_slices_Clone_api_Node_api_Node : FC :=
  (.seq (.reg none [⟨2, (.op (.mv (.k (.arr [])))), none⟩] [2])
  (.seq (.seq (.reg none [⟨3, (.op (.mv (.t 0))), none⟩, ⟨4, (.isNil false (.t 3)), none⟩] [3])
  (.cond (.t 4)
    (.seq (.reg none [⟨2, (.op (.mv (.k (.arr [])))), none⟩] [0, 4])
    .ret)
    .skip))
  (.seq (.reg none [⟨5, (.op (.buildSl [(.int .i64 0), (.int .i64 0)] 0 [] [])), none⟩, ⟨6, (.op (.mv (.t 0))), none⟩, ⟨7, (.op (.app (.t 5) (.t 6) 2 16)), none⟩, ⟨2, (.op (.mvP true (.t 7))), none⟩] [0, 4, 5, 6, 7])
  .ret)))
theorem k_slices_Clone_api_Node_api_Node : fnOk Tryz.prog Tryz.f58 c_slices_Clone_api_Node_api_Node 8 1 [.t 2] = true := by kernel_rfl
theorem u_slices_Clone_api_Node_api_Node : Tryz.prog.funcs[n_slices_Clone_api_Node_api_Node]? = some Tryz.f58 := Tryz.func58
/-- slices.EqualFunc[[]guerdon/api.Enum,[]guerdon/api.Enum,guerdon/api.Enum,guerdon/api.Enum] -/
def c_slices_EqualFunc_api_Enum_api_Enum_api_Enum_api_Enum : FC :=
  (.seq (.reg none [⟨6, (.op (.mv (.k (.bool false)))), none⟩] [6])
  (.seq (.seq (.reg none [⟨10, (.op (.mv (.t 0))), none⟩, ⟨11, (.op (.len (.t 10))), none⟩, ⟨12, (.op (.mv (.t 1))), none⟩, ⟨13, (.op (.len (.t 12))), none⟩, ⟨14, (.op (.bin .neq (.t 11) (.t 13))), none⟩] [10, 11, 12, 13])
  (.cond (.t 14)
    (.seq (.reg none [⟨6, (.op (.mv (.k (.bool false)))), none⟩] [0, 1, 2, 14])
    .ret)
    .skip))
  (.seq (.seq (.reg none [⟨15, (.op (.mv (.t 0))), none⟩, ⟨16, (.op (.len (.t 15))), none⟩, ⟨17, (.op (.mv (.k (.int .i64 0)))), none⟩] [14])
  (.block 0 (.loop (.seq (.reg none [⟨18, (.op (.bin .lss (.t 17) (.t 16))), none⟩] [])
      (.seq (.cond (.t 18)
        .skip
        (.exit 0))
      (.seq (.block 1 (.seq (.reg none [⟨19, (.op (.mv (.t 17))), none⟩, ⟨20, (.op (.ia (.t 15) (.t 17) 2)), none⟩, ⟨21, (.op (.load (.t 20) 2 true)), none⟩, ⟨8, (.op (.alloc [(.str []), (.sl true [])])), none⟩, ⟨7, (.op (.mv (.t 19))), none⟩, ⟨0, (.op (.store (.t 8) (.t 21) 2 true)), none⟩] [18, 19, 20, 21])
        (.seq (.reg none [⟨22, (.op (.mv (.t 1))), none⟩, ⟨23, (.op (.mv (.t 7))), none⟩, ⟨24, (.op (.ia (.t 22) (.t 23) 2)), none⟩, ⟨25, (.op (.load (.t 24) 2 true)), none⟩, ⟨9, (.op (.alloc [(.str []), (.sl true [])])), none⟩, ⟨0, (.op (.store (.t 9) (.t 25) 2 true)), none⟩] [7, 22, 23, 24, 25])
        (.seq (.reg none [⟨26, (.op (.mv (.t 2))), none⟩, ⟨27, (.op (.loadM true (.t 8) 2 true)), none⟩, ⟨28, (.op (.loadM true (.t 9) 2 true)), none⟩, ⟨29, (.callV (.t 26) [.t 27, .t 28]), none⟩, ⟨30, (.op (.un .not (.t 29))), none⟩] [8, 9, 26, 27, 28, 29])
        (.cond (.t 30)
          (.seq (.reg none [⟨6, (.op (.mv (.k (.bool false)))), none⟩] [0, 1, 2, 15, 16, 17, 30])
          .ret)
          .skip)))))
      (.reg none [⟨31, (.op (.bin .add (.t 17) (.k (.int .i64 1)))), none⟩, ⟨17, (.op (.mv (.t 31))), none⟩] [30, 31])))))))
  (.seq (.reg none [⟨6, (.op (.mv (.k (.bool true)))), none⟩] [0, 1, 2, 15, 16, 17, 18])
  .ret))))
theorem k_slices_EqualFunc_api_Enum_api_Enum_api_Enum_api_Enum : fnOk Tryz.prog Tryz.f59 c_slices_EqualFunc_api_Enum_api_Enum_api_Enum_api_Enum 32 3 [.t 6] = true := by kernel_rfl
theorem u_slices_EqualFunc_api_Enum_api_Enum_api_Enum_api_Enum : Tryz.prog.funcs[n_slices_EqualFunc_api_Enum_api_Enum_api_Enum_api_Enum]? = some Tryz.f59 := Tryz.func59
/-- guerdon/law.sameEnum -/
def c_law_sameEnum : FC :=
  (.seq (.reg none [⟨2, (.op (.box (.t 0))), none⟩, ⟨3, (.op (.box (.t 1))), none⟩, ⟨4, (.op (.mv (.k (.bool false)))), none⟩] [0, 1, 4])
  (.seq (.reg none [⟨5, (.op (.fa (.t 2) 0)), none⟩, ⟨6, (.op (.load (.t 5) 1 false)), none⟩, ⟨7, (.op (.fa (.t 3) 0)), none⟩, ⟨8, (.op (.load (.t 7) 1 false)), none⟩, ⟨9, (.op (.bin .eql (.t 6) (.t 8))), none⟩, ⟨10, (.op (.mv (.t 9))), none⟩, ⟨11, (.op (.fa (.t 2) 1)), some (10, true)⟩, ⟨12, (.op (.load (.t 11) 1 false)), some (10, true)⟩, ⟨13, (.op (.fa (.t 3) 1)), some (10, true)⟩, ⟨14, (.op (.load (.t 13) 1 false)), some (10, true)⟩, ⟨15, (.callL n_slices_Equal_string_string [.t 12, .t 14]), some (10, true)⟩, ⟨16, (.op (.pick (.t 10) (.t 15) (.k (.bool false)))), none⟩, ⟨4, (.op (.mv (.t 16))), none⟩] [2, 3, 5, 6, 7, 8, 9, 10, 11, 12, 13, 14, 15, 16])
  .ret))
theorem k_law_sameEnum : fnOk Tryz.prog Tryz.f60 c_law_sameEnum 17 2 [.t 4] = true := by kernel_rfl
theorem u_law_sameEnum : Tryz.prog.funcs[n_law_sameEnum]? = some Tryz.f60 := Tryz.func60
/-- slices.EqualFunc[[]guerdon/api.Table,[]guerdon/api.Table,guerdon/api.Table,guerdon/api.Table] -/
def c_slices_EqualFunc_api_Table_api_Table_api_Table_api_Table : FC :=
  (.seq (.reg none [⟨6, (.op (.mv (.k (.bool false)))), none⟩] [6])
  (.seq (.seq (.reg none [⟨10, (.op (.mv (.t 0))), none⟩, ⟨11, (.op (.len (.t 10))), none⟩, ⟨12, (.op (.mv (.t 1))), none⟩, ⟨13, (.op (.len (.t 12))), none⟩, ⟨14, (.op (.bin .neq (.t 11) (.t 13))), none⟩] [10, 11, 12, 13])
  (.cond (.t 14)
    (.seq (.reg none [⟨6, (.op (.mv (.k (.bool false)))), none⟩] [0, 1, 2, 14])
    .ret)
    .skip))
  (.seq (.seq (.reg none [⟨15, (.op (.mv (.t 0))), none⟩, ⟨16, (.op (.len (.t 15))), none⟩, ⟨17, (.op (.mv (.k (.int .i64 0)))), none⟩] [14])
  (.block 0 (.loop (.seq (.reg none [⟨18, (.op (.bin .lss (.t 17) (.t 16))), none⟩] [])
      (.seq (.cond (.t 18)
        .skip
        (.exit 0))
      (.seq (.block 1 (.seq (.reg none [⟨19, (.op (.mv (.t 17))), none⟩, ⟨20, (.op (.ia (.t 15) (.t 17) 6)), none⟩, ⟨21, (.op (.load (.t 20) 6 true)), none⟩, ⟨8, (.op (.alloc [(.str []), (.int .i64 0), (.int .i64 0), (.int .i64 0), (.int .i64 0), (.sl true [])])), none⟩, ⟨7, (.op (.mv (.t 19))), none⟩, ⟨0, (.op (.store (.t 8) (.t 21) 6 true)), none⟩] [18, 19, 20, 21])
        (.seq (.reg none [⟨22, (.op (.mv (.t 1))), none⟩, ⟨23, (.op (.mv (.t 7))), none⟩, ⟨24, (.op (.ia (.t 22) (.t 23) 6)), none⟩, ⟨25, (.op (.load (.t 24) 6 true)), none⟩, ⟨9, (.op (.alloc [(.str []), (.int .i64 0), (.int .i64 0), (.int .i64 0), (.int .i64 0), (.sl true [])])), none⟩, ⟨0, (.op (.store (.t 9) (.t 25) 6 true)), none⟩] [7, 22, 23, 24, 25])
        (.seq (.reg none [⟨26, (.op (.mv (.t 2))), none⟩, ⟨27, (.op (.loadM true (.t 8) 6 true)), none⟩, ⟨28, (.op (.loadM true (.t 9) 6 true)), none⟩, ⟨29, (.callV (.t 26) [.t 27, .t 28]), none⟩, ⟨30, (.op (.un .not (.t 29))), none⟩] [8, 9, 26, 27, 28, 29])
        (.cond (.t 30)
          (.seq (.reg none [⟨6, (.op (.mv (.k (.bool false)))), none⟩] [0, 1, 2, 15, 16, 17, 30])
          .ret)
          .skip)))))
      (.reg none [⟨31, (.op (.bin .add (.t 17) (.k (.int .i64 1)))), none⟩, ⟨17, (.op (.mv (.t 31))), none⟩] [30, 31])))))))
  (.seq (.reg none [⟨6, (.op (.mv (.k (.bool true)))), none⟩] [0, 1, 2, 15, 16, 17, 18])
  .ret))))
theorem k_slices_EqualFunc_api_Table_api_Table_api_Table_api_Table : fnOk Tryz.prog Tryz.f61 c_slices_EqualFunc_api_Table_api_Table_api_Table_api_Table 32 3 [.t 6] = true := by kernel_rfl
theorem u_slices_EqualFunc_api_Table_api_Table_api_Table_api_Table : Tryz.prog.funcs[n_slices_EqualFunc_api_Table_api_Table_api_Table_api_Table]? = some Tryz.f61 := Tryz.func61
/-- guerdon/law.sameTable -/
def c_law_sameTable : FC :=
  (.seq (.reg none [⟨2, (.op (.box (.t 0))), none⟩, ⟨3, (.op (.box (.t 1))), none⟩, ⟨4, (.op (.mv (.k (.bool false)))), none⟩] [0, 1, 4])
  (.seq (.reg none [⟨5, (.op (.fa (.t 2) 0)), none⟩, ⟨6, (.op (.load (.t 5) 1 false)), none⟩, ⟨7, (.op (.fa (.t 3) 0)), none⟩, ⟨8, (.op (.load (.t 7) 1 false)), none⟩, ⟨9, (.op (.bin .eql (.t 6) (.t 8))), none⟩, ⟨10, (.op (.mv (.t 9))), none⟩, ⟨11, (.op (.fa (.t 2) 1)), some (10, true)⟩, ⟨12, (.op (.load (.t 11) 2 true)), some (10, true)⟩, ⟨13, (.op (.fa (.t 3) 1)), some (10, true)⟩, ⟨14, (.op (.load (.t 13) 2 true)), some (10, true)⟩, ⟨15, (.op (.eqS false [0, 0] (.t 12) (.t 14))), some (10, true)⟩, ⟨16, (.op (.pick (.t 10) (.t 15) (.k (.bool false)))), none⟩, ⟨17, (.op (.mv (.t 16))), none⟩, ⟨18, (.op (.fa (.t 2) 3)), some (17, true)⟩, ⟨19, (.op (.load (.t 18) 2 true)), some (17, true)⟩, ⟨20, (.op (.fa (.t 3) 3)), some (17, true)⟩, ⟨21, (.op (.load (.t 20) 2 true)), some (17, true)⟩, ⟨22, (.op (.eqS false [0, 0] (.t 19) (.t 21))), some (17, true)⟩, ⟨23, (.op (.pick (.t 17) (.t 22) (.k (.bool false)))), none⟩, ⟨24, (.op (.mv (.t 23))), none⟩, ⟨25, (.op (.fa (.t 2) 5)), some (24, true)⟩, ⟨26, (.op (.load (.t 25) 1 false)), some (24, true)⟩, ⟨27, (.op (.fa (.t 3) 5)), some (24, true)⟩, ⟨28, (.op (.load (.t 27) 1 false)), some (24, true)⟩, ⟨29, (.callL n_slices_Equal_api_Row_api_Row [.t 26, .t 28]), some (24, true)⟩, ⟨30, (.op (.pick (.t 24) (.t 29) (.k (.bool false)))), none⟩, ⟨4, (.op (.mv (.t 30))), none⟩] [2, 3, 5, 6, 7, 8, 9, 10, 11, 12, 13, 14, 15, 16, 17, 18, 19, 20, 21, 22, 23, 24, 25, 26, 27, 28, 29, 30])
  .ret))
theorem k_law_sameTable : fnOk Tryz.prog Tryz.f62 c_law_sameTable 31 2 [.t 4] = true := by kernel_rfl
theorem u_law_sameTable : Tryz.prog.funcs[n_law_sameTable]? = some Tryz.f62 := Tryz.func62
/-- slices.EqualFunc[[]guerdon/api.Scope,[]guerdon/api.Scope,guerdon/api.Scope,guerdon/api.Scope] -/
def c_slices_EqualFunc_api_Scope_api_Scope_api_Scope_api_Scope : FC :=
  (.seq (.reg none [⟨6, (.op (.mv (.k (.bool false)))), none⟩] [6])
  (.seq (.seq (.reg none [⟨10, (.op (.mv (.t 0))), none⟩, ⟨11, (.op (.len (.t 10))), none⟩, ⟨12, (.op (.mv (.t 1))), none⟩, ⟨13, (.op (.len (.t 12))), none⟩, ⟨14, (.op (.bin .neq (.t 11) (.t 13))), none⟩] [10, 11, 12, 13])
  (.cond (.t 14)
    (.seq (.reg none [⟨6, (.op (.mv (.k (.bool false)))), none⟩] [0, 1, 2, 14])
    .ret)
    .skip))
  (.seq (.seq (.reg none [⟨15, (.op (.mv (.t 0))), none⟩, ⟨16, (.op (.len (.t 15))), none⟩, ⟨17, (.op (.mv (.k (.int .i64 0)))), none⟩] [14])
  (.block 0 (.loop (.seq (.reg none [⟨18, (.op (.bin .lss (.t 17) (.t 16))), none⟩] [])
      (.seq (.cond (.t 18)
        .skip
        (.exit 0))
      (.seq (.block 1 (.seq (.reg none [⟨19, (.op (.mv (.t 17))), none⟩, ⟨20, (.op (.ia (.t 15) (.t 17) 5)), none⟩, ⟨21, (.op (.load (.t 20) 5 true)), none⟩, ⟨8, (.op (.alloc [(.str []), (.int .i64 0), (.sl true []), (.sl true []), (.sl true [])])), none⟩, ⟨7, (.op (.mv (.t 19))), none⟩, ⟨0, (.op (.store (.t 8) (.t 21) 5 true)), none⟩] [18, 19, 20, 21])
        (.seq (.reg none [⟨22, (.op (.mv (.t 1))), none⟩, ⟨23, (.op (.mv (.t 7))), none⟩, ⟨24, (.op (.ia (.t 22) (.t 23) 5)), none⟩, ⟨25, (.op (.load (.t 24) 5 true)), none⟩, ⟨9, (.op (.alloc [(.str []), (.int .i64 0), (.sl true []), (.sl true []), (.sl true [])])), none⟩, ⟨0, (.op (.store (.t 9) (.t 25) 5 true)), none⟩] [7, 22, 23, 24, 25])
        (.seq (.reg none [⟨26, (.op (.mv (.t 2))), none⟩, ⟨27, (.op (.loadM true (.t 8) 5 true)), none⟩, ⟨28, (.op (.loadM true (.t 9) 5 true)), none⟩, ⟨29, (.callV (.t 26) [.t 27, .t 28]), none⟩, ⟨30, (.op (.un .not (.t 29))), none⟩] [8, 9, 26, 27, 28, 29])
        (.cond (.t 30)
          (.seq (.reg none [⟨6, (.op (.mv (.k (.bool false)))), none⟩] [0, 1, 2, 15, 16, 17, 30])
          .ret)
          .skip)))))
      (.reg none [⟨31, (.op (.bin .add (.t 17) (.k (.int .i64 1)))), none⟩, ⟨17, (.op (.mv (.t 31))), none⟩] [30, 31])))))))
  (.seq (.reg none [⟨6, (.op (.mv (.k (.bool true)))), none⟩] [0, 1, 2, 15, 16, 17, 18])
  .ret))))
theorem k_slices_EqualFunc_api_Scope_api_Scope_api_Scope_api_Scope : fnOk Tryz.prog Tryz.f63 c_slices_EqualFunc_api_Scope_api_Scope_api_Scope_api_Scope 32 3 [.t 6] = true := by kernel_rfl
theorem u_slices_EqualFunc_api_Scope_api_Scope_api_Scope_api_Scope : Tryz.prog.funcs[n_slices_EqualFunc_api_Scope_api_Scope_api_Scope_api_Scope]? = some Tryz.f63 := Tryz.func63
/-- guerdon/law.sameScope -/
def c_law_sameScope : FC :=
  (.seq (.reg none [⟨2, (.op (.box (.t 0))), none⟩, ⟨3, (.op (.box (.t 1))), none⟩, ⟨4, (.op (.mv (.k (.bool false)))), none⟩] [0, 1, 4])
  (.seq (.reg none [⟨5, (.op (.fa (.t 2) 0)), none⟩, ⟨6, (.op (.load (.t 5) 1 false)), none⟩, ⟨7, (.op (.fa (.t 3) 0)), none⟩, ⟨8, (.op (.load (.t 7) 1 false)), none⟩, ⟨9, (.op (.bin .eql (.t 6) (.t 8))), none⟩, ⟨10, (.op (.mv (.t 9))), none⟩, ⟨11, (.op (.fa (.t 2) 1)), some (10, true)⟩, ⟨12, (.op (.load (.t 11) 1 false)), some (10, true)⟩, ⟨13, (.op (.fa (.t 3) 1)), some (10, true)⟩, ⟨14, (.op (.load (.t 13) 1 false)), some (10, true)⟩, ⟨15, (.op (.bin .eql (.t 12) (.t 14))), some (10, true)⟩, ⟨16, (.op (.pick (.t 10) (.t 15) (.k (.bool false)))), none⟩, ⟨17, (.op (.mv (.t 16))), none⟩, ⟨18, (.op (.fa (.t 2) 2)), some (17, true)⟩, ⟨19, (.op (.load (.t 18) 1 false)), some (17, true)⟩, ⟨20, (.op (.fa (.t 3) 2)), some (17, true)⟩, ⟨21, (.op (.load (.t 20) 1 false)), some (17, true)⟩, ⟨22, (.callL n_slices_Equal_api_Field_api_Field [.t 19, .t 21]), some (17, true)⟩, ⟨23, (.op (.pick (.t 17) (.t 22) (.k (.bool false)))), none⟩, ⟨24, (.op (.mv (.t 23))), none⟩, ⟨25, (.op (.fa (.t 2) 3)), some (24, true)⟩, ⟨26, (.op (.load (.t 25) 1 false)), some (24, true)⟩, ⟨27, (.op (.fa (.t 3) 3)), some (24, true)⟩, ⟨28, (.op (.load (.t 27) 1 false)), some (24, true)⟩, ⟨29, (.callL n_slices_Equal_api_Field_api_Field [.t 26, .t 28]), some (24, true)⟩, ⟨30, (.op (.pick (.t 24) (.t 29) (.k (.bool false)))), none⟩, ⟨31, (.op (.mv (.t 30))), none⟩, ⟨32, (.op (.fa (.t 2) 4)), some (31, true)⟩, ⟨33, (.op (.load (.t 32) 1 false)), some (31, true)⟩, ⟨34, (.op (.fa (.t 3) 4)), some (31, true)⟩, ⟨35, (.op (.load (.t 34) 1 false)), some (31, true)⟩, ⟨36, (.callL n_slices_EqualFunc_api_Rule_api_Rule_api_Rule_api_Rule [.t 33, .t 35, .k (.fn n_law_sameRule [])]), some (31, true)⟩, ⟨37, (.op (.pick (.t 31) (.t 36) (.k (.bool false)))), none⟩, ⟨4, (.op (.mv (.t 37))), none⟩] [2, 3, 5, 6, 7, 8, 9, 10, 11, 12, 13, 14, 15, 16, 17, 18, 19, 20, 21, 22, 23, 24, 25, 26, 27, 28, 29, 30, 31, 32, 33, 34, 35, 36, 37])
  .ret))
theorem k_law_sameScope : fnOk Tryz.prog Tryz.f64 c_law_sameScope 38 2 [.t 4] = true := by kernel_rfl
theorem u_law_sameScope : Tryz.prog.funcs[n_law_sameScope]? = some Tryz.f64 := Tryz.func64
/-- guerdon/guerdonsame.Law -/
def c_same_Law : FC :=
  (.seq (.reg none [⟨2, (.op (.box (.t 0))), none⟩, ⟨3, (.op (.box (.t 1))), none⟩, ⟨4, (.op (.mv (.k (.bool false)))), none⟩] [0, 1, 4])
  (.seq (.reg none [⟨5, (.op (.fa (.t 2) 0)), none⟩, ⟨6, (.op (.load (.t 5) 1 false)), none⟩, ⟨7, (.op (.fa (.t 3) 0)), none⟩, ⟨8, (.op (.load (.t 7) 1 false)), none⟩, ⟨9, (.callL n_same_Enums [.t 6, .t 8]), none⟩, ⟨10, (.op (.mv (.t 9))), none⟩, ⟨11, (.op (.fa (.t 2) 1)), some (10, true)⟩, ⟨12, (.op (.load (.t 11) 1 false)), some (10, true)⟩, ⟨13, (.op (.fa (.t 3) 1)), some (10, true)⟩, ⟨14, (.op (.load (.t 13) 1 false)), some (10, true)⟩, ⟨15, (.callL n_same_Tables [.t 12, .t 14]), some (10, true)⟩, ⟨16, (.op (.pick (.t 10) (.t 15) (.k (.bool false)))), none⟩, ⟨17, (.op (.mv (.t 16))), none⟩, ⟨18, (.op (.fa (.t 2) 2)), some (17, true)⟩, ⟨19, (.op (.load (.t 18) 1 false)), some (17, true)⟩, ⟨20, (.op (.fa (.t 3) 2)), some (17, true)⟩, ⟨21, (.op (.load (.t 20) 1 false)), some (17, true)⟩, ⟨22, (.callL n_same_Scopes [.t 19, .t 21]), some (17, true)⟩, ⟨23, (.op (.pick (.t 17) (.t 22) (.k (.bool false)))), none⟩, ⟨4, (.op (.mv (.t 23))), none⟩] [2, 3, 5, 6, 7, 8, 9, 10, 11, 12, 13, 14, 15, 16, 17, 18, 19, 20, 21, 22, 23])
  .ret))
theorem k_same_Law : fnOk Tryz.prog Tryz.f65 c_same_Law 24 2 [.t 4] = true := by kernel_rfl
theorem u_same_Law : Tryz.prog.funcs[n_same_Law]? = some Tryz.f65 := Tryz.func65
/-- slices.Clone[[]string,string] -/
def c_slices_Clone_string_string : FC :=
  (.seq (.reg none [⟨2, (.op (.mv (.k (.arr [])))), none⟩] [2])
  (.seq (.seq (.reg none [⟨3, (.op (.mv (.t 0))), none⟩, ⟨4, (.isNil false (.t 3)), none⟩] [3])
  (.cond (.t 4)
    (.seq (.reg none [⟨2, (.op (.mv (.k (.arr [])))), none⟩] [0, 4])
    .ret)
    .skip))
  (.seq (.reg none [⟨5, (.op (.buildSl [(.str [])] 0 [] [])), none⟩, ⟨6, (.op (.mv (.t 0))), none⟩, ⟨7, (.op (.app (.t 5) (.t 6) 1 16)), none⟩, ⟨2, (.op (.mvP true (.t 7))), none⟩] [0, 4, 5, 6, 7])
  .ret)))
theorem k_slices_Clone_string_string : fnOk Tryz.prog Tryz.f66 c_slices_Clone_string_string 8 1 [.t 2] = true := by kernel_rfl
theorem u_slices_Clone_string_string : Tryz.prog.funcs[n_slices_Clone_string_string]? = some Tryz.f66 := Tryz.func66
/-- guerdon/daterange.Contains -/
def c_daterange_Contains : FC :=
  (.seq (.reg none [⟨2, (.op (.box (.t 0))), none⟩, ⟨4, (.op (.mv (.k (.bool false)))), none⟩] [0, 4])
  (.seq (.reg none [⟨5, (.op (.load (.t 2) 2 true)), none⟩, ⟨6, (.callL n_daterange_Valid [.t 5]), none⟩, ⟨7, (.op (.mv (.t 6))), none⟩, ⟨8, (.op (.fa (.t 2) 0)), some (7, true)⟩, ⟨9, (.op (.load (.t 8) 1 false)), some (7, true)⟩, ⟨10, (.op (.mv (.t 1))), some (7, true)⟩, ⟨11, (.op (.bin .leq (.t 9) (.t 10))), some (7, true)⟩, ⟨12, (.op (.pick (.t 7) (.t 11) (.k (.bool false)))), none⟩, ⟨13, (.op (.mv (.t 12))), none⟩, ⟨14, (.op (.mv (.t 1))), some (13, true)⟩, ⟨15, (.op (.fa (.t 2) 1)), some (13, true)⟩, ⟨16, (.op (.load (.t 15) 1 false)), some (13, true)⟩, ⟨17, (.op (.bin .lss (.t 14) (.t 16))), some (13, true)⟩, ⟨18, (.op (.pick (.t 13) (.t 17) (.k (.bool false)))), none⟩, ⟨4, (.op (.mv (.t 18))), none⟩] [1, 2, 5, 6, 7, 8, 9, 10, 11, 12, 13, 14, 15, 16, 17, 18])
  .ret))
theorem k_daterange_Contains : fnOk Tryz.prog Tryz.f67 c_daterange_Contains 19 2 [.t 4] = true := by kernel_rfl
theorem u_daterange_Contains : Tryz.prog.funcs[n_daterange_Contains]? = some Tryz.f67 := Tryz.func67
/-- guerdon/effective.scopeOn -/
def c_effective_scopeOn : FC :=
  (.seq (.reg none [⟨2, (.op (.box (.t 0))), none⟩, ⟨4, (.op (.alloc [(.str []), (.int .i64 0), (.sl true []), (.sl true []), (.sl true [])])), none⟩] [0])
  (.seq (.reg none [⟨5, (.op (.mv (.k (.arr [])))), none⟩] [])
  (.seq (.seq (.reg none [⟨12, (.op (.fa (.t 2) 4)), none⟩, ⟨13, (.op (.load (.t 12) 1 false)), none⟩, ⟨14, (.op (.len (.t 13))), none⟩, ⟨15, (.op (.mv (.k (.int .i64 0)))), none⟩] [])
  (.block 0 (.loop (.seq (.reg none [⟨16, (.op (.bin .lss (.t 15) (.t 14))), none⟩] [])
      (.seq (.cond (.t 16)
        .skip
        (.exit 0))
      (.seq (.block 1 (.seq (.reg none [⟨17, (.op (.mv (.t 15))), none⟩, ⟨18, (.op (.ia (.t 13) (.t 15) 9)), none⟩, ⟨19, (.op (.load (.t 18) 9 true)), none⟩, ⟨7, (.op (.alloc [(.str []), (.int .i64 0), (.int .i64 0), (.int .i64 0), (.int .i64 0), (.int .i64 0), (.sl true []), (.sl true []), (.str [])])), none⟩, ⟨6, (.op (.mv (.t 17))), none⟩, ⟨0, (.op (.store (.t 7) (.t 19) 9 true)), none⟩] [16, 17, 18, 19])
        (.seq (.reg none [⟨20, (.op (.fa (.t 7) 4)), none⟩, ⟨21, (.op (.load (.t 20) 2 true)), none⟩, ⟨22, (.op (.mv (.t 1))), none⟩, ⟨23, (.callL n_daterange_Contains [.t 21, .t 22]), none⟩] [7, 20, 21, 22])
        (.cond (.t 23)
          (.reg none [⟨24, (.op (.mv (.t 5))), none⟩, ⟨25, (.op (.mv (.t 6))), none⟩, ⟨26, (.op (.buildSl [(.int .i64 0)] 1 [0] [.t 25])), none⟩, ⟨27, (.op (.app (.t 24) (.t 26) 1 8)), none⟩, ⟨5, (.op (.mvP true (.t 27))), none⟩] [6, 23, 24, 25, 26, 27])
          .skip))))
      (.reg none [⟨28, (.op (.bin .add (.t 15) (.k (.int .i64 1)))), none⟩, ⟨15, (.op (.mv (.t 28))), none⟩] [6, 23, 28])))))))
  (.seq (.reg none [⟨8, (.op (.mv (.k (.arr [])))), none⟩] [1, 12, 13, 14, 15, 16])
  (.seq (.seq (.reg none [⟨29, (.op (.mv (.t 5))), none⟩, ⟨30, (.op (.len (.t 29))), none⟩, ⟨31, (.op (.mv (.k (.int .i64 0)))), none⟩] [])
  (.block 2 (.loop (.seq (.reg none [⟨32, (.op (.bin .lss (.t 31) (.t 30))), none⟩] [])
      (.seq (.cond (.t 32)
        .skip
        (.exit 2))
      (.seq (.block 3 (.seq (.reg none [⟨33, (.op (.ia (.t 29) (.t 31) 1)), none⟩, ⟨34, (.op (.load (.t 33) 1 false)), none⟩, ⟨10, (.op (.mv (.t 34))), none⟩] [32, 33, 34])
        (.seq (.reg none [⟨35, (.op (.fa (.t 2) 4)), none⟩, ⟨36, (.op (.load (.t 35) 1 false)), none⟩, ⟨37, (.op (.mv (.t 10))), none⟩, ⟨38, (.op (.ia (.t 36) (.t 37) 9)), none⟩, ⟨39, (.op (.load (.t 38) 9 true)), none⟩, ⟨11, (.op (.alloc [(.str []), (.int .i64 0), (.int .i64 0), (.int .i64 0), (.int .i64 0), (.int .i64 0), (.sl true []), (.sl true []), (.str [])])), none⟩, ⟨0, (.op (.store (.t 11) (.t 39) 9 true)), none⟩] [35, 36, 37, 38, 39])
        (.seq (.reg none [⟨40, (.op (.load (.t 2) 5 true)), none⟩, ⟨41, (.op (.mv (.t 10))), none⟩, ⟨42, (.op (.mv (.t 5))), none⟩, ⟨43, (.callB n_effective_ancestor [.t 40, .t 41, .t 42]), none⟩, ⟨44, (.op (.fa (.t 11) 2)), none⟩, ⟨0, (.op (.store (.t 44) (.t 43) 1 true)), none⟩] [10, 40, 41, 42, 43, 44])
        (.seq (.reg none [⟨45, (.op (.build [(.int .i64 0), (.int .i64 0)] [(1, 1)] [.k (.int .i64 109573)])), none⟩, ⟨46, (.op (.fa (.t 11) 4)), none⟩, ⟨0, (.op (.store (.t 46) (.t 45) 2 true)), none⟩] [45, 46])
        (.seq (.reg (some 7) [⟨47, (.op (.fa (.t 11) 6)), none⟩, ⟨48, (.op (.load (.t 47) 1 false)), none⟩, ⟨49, (.callL n_slices_Clone_api_Node_api_Node [.t 48]), none⟩, ⟨50, (.op (.fa (.t 11) 7)), none⟩, ⟨51, (.op (.load (.t 50) 1 false)), none⟩, ⟨52, (.callL n_slices_Clone_api_Node_api_Node [.t 51]), none⟩, ⟨53, (.op (.fa (.t 11) 6)), none⟩, ⟨0, (.op (.store (.t 53) (.t 49) 1 true)), none⟩, ⟨54, (.op (.fa (.t 11) 7)), none⟩, ⟨0, (.op (.store (.t 54) (.t 52) 1 true)), none⟩] [47, 48, 49, 50, 51, 52, 53, 54])
        (.reg none [⟨55, (.op (.mv (.t 8))), none⟩, ⟨56, (.op (.loadM true (.t 11) 9 true)), none⟩, ⟨57, (.op (.buildSl [(.str []), (.int .i64 0), (.int .i64 0), (.int .i64 0), (.int .i64 0), (.int .i64 0), (.sl true []), (.sl true []), (.str [])] 1 [0] [.t 56])), none⟩, ⟨58, (.op (.app (.t 55) (.t 57) 9 120)), none⟩, ⟨8, (.op (.mvP true (.t 58))), none⟩] [11, 55, 56, 57, 58])))))))
      (.reg none [⟨59, (.op (.bin .add (.t 31) (.k (.int .i64 1)))), none⟩, ⟨31, (.op (.mv (.t 59))), none⟩] [59])))))))
  (.seq (.reg none [⟨60, (.op (.mv (.t 8))), none⟩, ⟨61, (.op (.fa (.t 2) 4)), none⟩, ⟨0, (.op (.store (.t 61) (.t 60) 1 true)), none⟩] [5, 8, 29, 30, 31, 32, 60, 61])
  (.seq (.reg (some 7) [⟨62, (.op (.fa (.t 2) 2)), none⟩, ⟨63, (.op (.load (.t 62) 1 false)), none⟩, ⟨64, (.callL n_slices_Clone_api_Field_api_Field [.t 63]), none⟩, ⟨65, (.op (.fa (.t 2) 3)), none⟩, ⟨66, (.op (.load (.t 65) 1 false)), none⟩, ⟨67, (.callL n_slices_Clone_api_Field_api_Field [.t 66]), none⟩, ⟨68, (.op (.fa (.t 2) 2)), none⟩, ⟨0, (.op (.store (.t 68) (.t 64) 1 true)), none⟩, ⟨69, (.op (.fa (.t 2) 3)), none⟩, ⟨0, (.op (.store (.t 69) (.t 67) 1 true)), none⟩] [62, 63, 64, 65, 66, 67, 68, 69])
  (.seq (.reg none [⟨70, (.op (.loadM true (.t 2) 5 true)), none⟩, ⟨0, (.op (.store (.t 4) (.t 70) 5 true)), none⟩] [2, 70])
  .ret))))))))
theorem k_effective_scopeOn : fnOk Tryz.prog Tryz.f68 c_effective_scopeOn 71 2 [.c 4 5 true] = true := by kernel_rfl
theorem u_effective_scopeOn : Tryz.prog.funcs[n_effective_scopeOn]? = some Tryz.f68 := Tryz.func68
/-- guerdon/lexer.IsIdentifier -/
def c_lexer_IsIdentifier : FC :=
  (.seq (.reg none [⟨2, (.op (.mv (.k (.bool false)))), none⟩] [2])
  (.seq (.reg none [⟨3, (.op (.mv (.t 0))), none⟩, ⟨4, (.op (.bin .neq (.t 3) (.k (.str [])))), none⟩, ⟨5, (.op (.mv (.t 4))), none⟩, ⟨6, (.op (.mv (.t 0))), some (5, true)⟩, ⟨7, (.op (.lenS (.t 6))), some (5, true)⟩, ⟨8, (.op (.bin .leq (.t 7) (.k (.int .i64 16)))), some (5, true)⟩, ⟨9, (.op (.pick (.t 5) (.t 8) (.k (.bool false)))), none⟩, ⟨10, (.op (.mv (.t 9))), none⟩, ⟨11, (.op (.mv (.t 0))), some (10, true)⟩, ⟨12, (.op (.index (.t 11) (.k (.int .i64 0)))), some (10, true)⟩, ⟨13, (.callL n_lexer_lower [.t 12]), some (10, true)⟩, ⟨14, (.op (.pick (.t 10) (.t 13) (.k (.bool false)))), none⟩, ⟨15, (.op (.mv (.t 14))), none⟩, ⟨16, (.op (.mv (.t 0))), some (15, true)⟩, ⟨17, (.callL n_lexer_run [.t 16, .k (.fn n_lexer_part [])]), some (15, true)⟩, ⟨18, (.op (.mv (.t 0))), some (15, true)⟩, ⟨19, (.op (.lenS (.t 18))), some (15, true)⟩, ⟨20, (.op (.bin .eql (.t 17) (.t 19))), some (15, true)⟩, ⟨21, (.op (.pick (.t 15) (.t 20) (.k (.bool false)))), none⟩, ⟨22, (.op (.mv (.t 21))), none⟩, ⟨23, (.op (.mv (.t 0))), some (22, true)⟩, ⟨24, (.op (.bin .add (.k (.str [32])) (.t 23))), some (22, true)⟩, ⟨25, (.op (.bin .add (.t 24) (.k (.str [32])))), some (22, true)⟩, ⟨26, (.callL n_strings_Contains [.k (.str [32, 105, 102, 32, 116, 104, 101, 110, 32, 101, 108, 115, 101, 32, 111, 114, 32, 97, 110, 100, 32, 110, 111, 116, 32, 116, 114, 117, 101, 32, 102, 97, 108, 115, 101, 32, 116, 111, 100, 97, 121, 32, 115, 104, 97, 114, 101, 32, 100, 105, 118, 32, 114, 111, 117, 110, 100, 32, 109, 105, 110, 32, 109, 97, 120, 32, 112, 108, 117, 115, 32, 109, 111, 110, 116, 104, 115, 32, 100, 97, 121, 115, 32, 121, 101, 97, 114, 115, 32, 121, 101, 97, 114, 32, 109, 111, 110, 116, 104, 32, 116, 97, 98, 32, 98, 97, 110, 100, 32, 99, 111, 117, 110, 116, 32, 115, 117, 109, 32, 97, 108, 108, 32, 97, 110, 121, 32, 109, 111, 115, 116, 32, 101, 110, 117, 109, 32, 116, 97, 98, 108, 101, 32, 114, 111, 119, 32, 115, 99, 111, 112, 101, 32, 109, 101, 109, 98, 101, 114, 115, 32, 105, 110, 112, 117, 116, 32, 100, 101, 102, 32, 114, 117, 108, 101, 32, 111, 102, 32, 111, 118, 101, 114, 32, 112, 114, 105, 111, 32, 102, 114, 111, 109, 32, 116, 111, 32, 101, 110, 100, 32, 119, 104, 101, 110, 32, 105, 115, 32, 115, 114, 99, 32, 98, 111, 111, 108, 32, 105, 110, 116, 32, 109, 111, 110, 101, 121, 32, 114, 97, 116, 101, 32, 100, 97, 116, 101, 32, 100, 111, 119, 110, 32, 117, 112, 32, 122, 101, 114, 111, 32, 97, 119, 97, 121, 32, 104, 97, 108, 102, 32, 101, 118, 101, 110, 32]), .t 25]), some (22, true)⟩, ⟨27, (.op (.un .not (.t 26))), some (22, true)⟩, ⟨28, (.op (.pick (.t 22) (.t 27) (.k (.bool false)))), none⟩, ⟨2, (.op (.mv (.t 28))), none⟩] [0, 3, 4, 5, 6, 7, 8, 9, 10, 11, 12, 13, 14, 15, 16, 17, 18, 19, 20, 21, 22, 23, 24, 25, 26, 27, 28])
  .ret))
theorem k_lexer_IsIdentifier : fnOk Tryz.prog Tryz.f69 c_lexer_IsIdentifier 29 1 [.t 2] = true := by kernel_rfl
theorem u_lexer_IsIdentifier : Tryz.prog.funcs[n_lexer_IsIdentifier]? = some Tryz.f69 := Tryz.func69
/-- slices.Contains[[]string,string] -/
def c_slices_Contains_string_string : FC :=
  (.seq (.reg none [⟨4, (.op (.mv (.k (.bool false)))), none⟩] [4])
  (.seq (.reg none [⟨5, (.op (.mv (.t 0))), none⟩, ⟨6, (.op (.mv (.t 1))), none⟩, ⟨7, (.callL n_slices_Index_string_string [.t 5, .t 6]), none⟩, ⟨8, (.op (.bin .geq (.t 7) (.k (.int .i64 0)))), none⟩, ⟨4, (.op (.mv (.t 8))), none⟩] [0, 1, 5, 6, 7, 8])
  .ret))
theorem k_slices_Contains_string_string : fnOk Tryz.prog Tryz.f70 c_slices_Contains_string_string 9 2 [.t 4] = true := by kernel_rfl
theorem u_slices_Contains_string_string : Tryz.prog.funcs[n_slices_Contains_string_string]? = some Tryz.f70 := Tryz.func70
/-- guerdon/table.Validate -/
def c_table_Validate : FC :=
  (.seq (.reg none [⟨2, (.op (.box (.t 0))), none⟩, ⟨4, (.op (.mv (.k (.int .i64 0)))), none⟩, ⟨5, (.op (.mv (.k (.int .i64 0)))), none⟩] [0, 4, 5])
  (.seq (.seq (.reg none [⟨11, (.op (.fa (.t 2) 5)), none⟩, ⟨12, (.op (.load (.t 11) 1 false)), none⟩, ⟨13, (.op (.len (.t 12))), none⟩, ⟨14, (.op (.bin .gtr (.t 13) (.k (.int .i64 64)))), none⟩] [11, 12, 13])
  (.cond (.t 14)
    (.seq (.reg none [⟨4, (.op (.mv (.k (.int .i64 64)))), none⟩, ⟨5, (.op (.mv (.k (.int .i64 4)))), none⟩] [1, 2, 14])
    .ret)
    .skip))
  (.seq (.seq (.reg none [⟨15, (.op (.fa (.t 2) 1)), none⟩, ⟨16, (.op (.load (.t 15) 2 true)), none⟩, ⟨17, (.op (.mv (.t 1))), none⟩, ⟨18, (.callL n_value_ValidType [.t 16, .t 17]), none⟩, ⟨19, (.op (.un .not (.t 18))), none⟩, ⟨20, (.op (.mv (.t 19))), none⟩, ⟨21, (.op (.fa (.t 2) 3)), some (20, false)⟩, ⟨22, (.op (.load (.t 21) 2 true)), some (20, false)⟩, ⟨23, (.op (.mv (.t 1))), some (20, false)⟩, ⟨24, (.callL n_value_ValidType [.t 22, .t 23]), some (20, false)⟩, ⟨25, (.op (.un .not (.t 24))), some (20, false)⟩, ⟨26, (.op (.pick (.t 20) (.k (.bool true)) (.t 25))), none⟩] [14, 15, 16, 17, 18, 19, 20, 21, 22, 23, 24, 25])
  (.cond (.t 26)
    (.seq (.reg none [⟨4, (.op (.mv (.k (.int .i64 (-1))))), none⟩, ⟨5, (.op (.mv (.k (.int .i64 8)))), none⟩] [1, 2, 26])
    .ret)
    .skip))
  (.seq (.seq (.reg none [⟨27, (.op (.fa (.t 2) 5)), none⟩, ⟨28, (.op (.load (.t 27) 1 false)), none⟩, ⟨29, (.op (.len (.t 28))), none⟩, ⟨30, (.op (.mv (.k (.int .i64 0)))), none⟩] [26])
  (.block 0 (.loop (.seq (.reg none [⟨31, (.op (.bin .lss (.t 30) (.t 29))), none⟩] [])
      (.seq (.cond (.t 31)
        .skip
        (.exit 0))
      (.seq (.block 1 (.seq (.reg none [⟨32, (.op (.mv (.t 30))), none⟩, ⟨33, (.op (.ia (.t 28) (.t 30) 5)), none⟩, ⟨34, (.op (.load (.t 33) 5 true)), none⟩, ⟨7, (.op (.alloc [(.int .i64 0), (.int .i64 0), (.int .i64 0), (.int .i64 0), (.int .i64 0)])), none⟩, ⟨6, (.op (.mv (.t 32))), none⟩, ⟨0, (.op (.store (.t 7) (.t 34) 5 true)), none⟩] [31, 32, 33, 34])
        (.seq (.seq (.reg none [⟨35, (.op (.load (.t 7) 5 true)), none⟩, ⟨36, (.op (.load (.t 2) 6 true)), none⟩, ⟨37, (.op (.mv (.t 1))), none⟩, ⟨38, (.callL n_table_check [.t 35, .t 36, .t 37]), none⟩, ⟨8, (.op (.mvP true (.t 38))), none⟩] [35, 36, 37, 38])
        (.seq (.reg none [⟨39, (.op (.mv (.t 8))), none⟩, ⟨40, (.op (.bin .neq (.t 39) (.k (.int .i64 0)))), none⟩] [39])
        (.cond (.t 40)
          (.seq (.reg none [⟨41, (.op (.mv (.t 6))), none⟩, ⟨42, (.op (.mv (.t 8))), none⟩, ⟨4, (.op (.mv (.t 41))), none⟩, ⟨5, (.op (.mv (.t 42))), none⟩] [1, 2, 6, 7, 8, 27, 28, 29, 30, 40, 41, 42])
          .ret)
          .skip)))
        (.seq (.reg none [⟨43, (.op (.fa (.t 2) 5)), none⟩, ⟨44, (.op (.load (.t 43) 1 false)), none⟩, ⟨45, (.op (.mv (.t 6))), none⟩, ⟨46, (.op (.subSl (.t 44) none (some (.t 45)) 5)), none⟩, ⟨47, (.op (.len (.t 46))), none⟩, ⟨48, (.op (.mv (.k (.int .i64 0)))), none⟩] [8, 40])
        (.block 2 (.loop (.seq (.reg none [⟨49, (.op (.bin .lss (.t 48) (.t 47))), none⟩] [])
            (.seq (.cond (.t 49)
              .skip
              (.exit 2))
            (.seq (.block 3 (.seq (.reg none [⟨50, (.op (.ia (.t 46) (.t 48) 5)), none⟩, ⟨51, (.op (.load (.t 50) 5 true)), none⟩, ⟨10, (.op (.alloc [(.int .i64 0), (.int .i64 0), (.int .i64 0), (.int .i64 0), (.int .i64 0)])), none⟩, ⟨0, (.op (.store (.t 10) (.t 51) 5 true)), none⟩] [49, 50, 51])
              (.seq (.reg none [⟨52, (.op (.load (.t 10) 5 true)), none⟩, ⟨53, (.op (.load (.t 7) 5 true)), none⟩, ⟨54, (.callL n_table_conflict [.t 52, .t 53]), none⟩] [10, 52, 53])
              (.cond (.t 54)
                (.seq (.reg none [⟨55, (.op (.mv (.t 6))), none⟩, ⟨4, (.op (.mv (.t 55))), none⟩, ⟨5, (.op (.mv (.k (.int .i64 11)))), none⟩] [1, 2, 6, 7, 27, 28, 29, 30, 43, 44, 45, 46, 47, 48, 54, 55])
                .ret)
                .skip))))
            (.reg none [⟨56, (.op (.bin .add (.t 48) (.k (.int .i64 1)))), none⟩, ⟨48, (.op (.mv (.t 56))), none⟩] [54, 56]))))))))))
      (.reg none [⟨57, (.op (.bin .add (.t 30) (.k (.int .i64 1)))), none⟩, ⟨30, (.op (.mv (.t 57))), none⟩] [6, 7, 43, 44, 45, 46, 47, 48, 49, 57])))))))
  (.seq (.reg none [⟨4, (.op (.mv (.k (.int .i64 0)))), none⟩, ⟨5, (.op (.mv (.k (.int .i64 0)))), none⟩] [1, 2, 27, 28, 29, 30, 31])
  .ret)))))
theorem k_table_Validate : fnOk Tryz.prog Tryz.f71 c_table_Validate 58 2 [.t 4, .t 5] = true := by kernel_rfl
theorem u_table_Validate : Tryz.prog.funcs[n_table_Validate]? = some Tryz.f71 := Tryz.func71
/-- guerdon/law.fields -/
def c_law_fields : FC :=
  (.seq (.reg none [⟨10, (.op (.alloc [(.int .i64 0), (.int .i64 0), (.int .i64 0), (.int .i64 0)])), none⟩] [])
  (.seq (.seq (.reg none [⟨13, (.op (.mv (.t 0))), none⟩, ⟨14, (.op (.len (.t 13))), none⟩, ⟨15, (.op (.mv (.k (.int .i64 0)))), none⟩] [])
  (.block 0 (.loop (.seq (.reg none [⟨16, (.op (.bin .lss (.t 15) (.t 14))), none⟩] [])
      (.seq (.cond (.t 16)
        .skip
        (.exit 0))
      (.seq (.block 1 (.seq (.reg none [⟨17, (.op (.mv (.t 15))), none⟩, ⟨18, (.op (.ia (.t 13) (.t 15) 3)), none⟩, ⟨19, (.op (.load (.t 18) 3 true)), none⟩, ⟨12, (.op (.alloc [(.str []), (.int .i64 0), (.int .i64 0)])), none⟩, ⟨11, (.op (.mv (.t 17))), none⟩, ⟨0, (.op (.store (.t 12) (.t 19) 3 true)), none⟩] [16, 17, 18, 19])
        (.seq (.seq (.reg none [⟨20, (.op (.fa (.t 12) 0)), none⟩, ⟨21, (.op (.load (.t 20) 1 false)), none⟩, ⟨22, (.callL n_lexer_IsIdentifier [.t 21]), none⟩, ⟨23, (.op (.un .not (.t 22))), none⟩] [20, 21, 22])
        (.cond (.t 23)
          (.seq (.reg none [⟨24, (.op (.mv (.t 3))), none⟩, ⟨25, (.op (.mv (.t 4))), none⟩, ⟨26, (.op (.mv (.t 11))), none⟩, ⟨27, (.op (.bin .add (.t 25) (.t 26))), none⟩, ⟨28, (.callL n_law_bad [.k (.int .i64 2), .k (.int .i64 3), .t 24, .t 27]), none⟩, ⟨0, (.op (.store (.t 10) (.t 28) 4 true)), none⟩] [0, 1, 2, 3, 4, 11, 12, 13, 14, 15, 23, 24, 25, 26, 27, 28])
          .ret)
          .skip))
        (.seq (.seq (.reg (some 13) [⟨29, (.op (.mv (.t 1))), none⟩, ⟨30, (.op (.fa (.t 12) 0)), none⟩, ⟨31, (.op (.load (.t 30) 1 false)), none⟩, ⟨32, (.callL n_slices_Contains_string_string [.t 29, .t 31]), none⟩, ⟨33, (.op (.mv (.t 32))), none⟩, ⟨34, (.op (.mv (.t 0))), some (33, false)⟩, ⟨35, (.op (.mv (.t 11))), some (33, false)⟩, ⟨36, (.op (.subSl (.t 34) none (some (.t 35)) 3)), some (33, false)⟩, ⟨37, (.callL n_law_names [.t 36]), some (33, false)⟩, ⟨38, (.op (.fa (.t 12) 0)), some (33, false)⟩, ⟨39, (.op (.load (.t 38) 1 false)), some (33, false)⟩, ⟨40, (.callB n_slices_Contains_string_string [.t 37, .t 39]), some (33, false)⟩, ⟨41, (.op (.pick (.t 33) (.k (.bool true)) (.t 40))), none⟩] [23, 29, 30, 31, 32, 33, 34, 35, 36, 37, 38, 39, 40])
        (.cond (.t 41)
          (.seq (.reg none [⟨42, (.op (.mv (.t 3))), none⟩, ⟨43, (.op (.mv (.t 4))), none⟩, ⟨44, (.op (.mv (.t 11))), none⟩, ⟨45, (.op (.bin .add (.t 43) (.t 44))), none⟩, ⟨46, (.callL n_law_bad [.k (.int .i64 7), .k (.int .i64 3), .t 42, .t 45]), none⟩, ⟨0, (.op (.store (.t 10) (.t 46) 4 true)), none⟩] [0, 1, 2, 3, 4, 11, 12, 13, 14, 15, 41, 42, 43, 44, 45, 46])
          .ret)
          .skip))
        (.seq (.reg none [⟨47, (.op (.fa (.t 12) 1)), none⟩, ⟨48, (.op (.load (.t 47) 2 true)), none⟩, ⟨49, (.op (.mv (.t 2))), none⟩, ⟨50, (.callL n_value_ValidType [.t 48, .t 49]), none⟩, ⟨51, (.op (.un .not (.t 50))), none⟩] [12, 41, 47, 48, 49, 50])
        (.cond (.t 51)
          (.seq (.reg none [⟨52, (.op (.mv (.t 3))), none⟩, ⟨53, (.op (.mv (.t 4))), none⟩, ⟨54, (.op (.mv (.t 11))), none⟩, ⟨55, (.op (.bin .add (.t 53) (.t 54))), none⟩, ⟨56, (.callL n_law_bad [.k (.int .i64 8), .k (.int .i64 3), .t 52, .t 55]), none⟩, ⟨0, (.op (.store (.t 10) (.t 56) 4 true)), none⟩] [0, 1, 2, 3, 4, 11, 13, 14, 15, 51, 52, 53, 54, 55, 56])
          .ret)
          .skip))))))
      (.reg none [⟨57, (.op (.bin .add (.t 15) (.k (.int .i64 1)))), none⟩, ⟨15, (.op (.mv (.t 57))), none⟩] [11, 51, 57])))))))
  (.seq (.reg none [⟨58, (.op (.build [(.int .i64 0), (.int .i64 0), (.int .i64 0), (.int .i64 0)] [] [])), none⟩, ⟨0, (.op (.store (.t 10) (.t 58) 4 true)), none⟩] [0, 1, 2, 3, 4, 13, 14, 15, 16, 58])
  .ret)))
theorem k_law_fields : fnOk Tryz.prog Tryz.f72 c_law_fields 59 5 [.c 10 4 true] = true := by kernel_rfl
theorem u_law_fields : Tryz.prog.funcs[n_law_fields]? = some Tryz.f72 := Tryz.func72
/-- guerdon/law.rule -/
def c_law_rule : FC :=
  (.seq (.reg none [⟨3, (.op (.box (.t 0))), none⟩, ⟨5, (.op (.box (.t 2))), none⟩, ⟨6, (.op (.mv (.k (.int .i64 0)))), none⟩] [0, 2, 6])
  (.seq (.seq (.reg none [⟨13, (.op (.load (.t 3) 5 true)), none⟩, ⟨14, (.op (.mv (.t 1))), none⟩, ⟨15, (.callL n_law_named [.t 13, .t 14]), none⟩, ⟨7, (.op (.mvP true (.t 15))), none⟩] [13, 14, 15])
  (.seq (.reg none [⟨16, (.op (.mv (.t 7))), none⟩, ⟨17, (.op (.bin .neq (.t 16) (.k (.int .i64 0)))), none⟩] [16])
  (.cond (.t 17)
    (.seq (.reg none [⟨18, (.op (.mv (.t 7))), none⟩, ⟨6, (.op (.mv (.t 18))), none⟩] [1, 3, 5, 7, 17, 18])
    .ret)
    .skip)))
  (.seq (.reg none [⟨19, (.op (.fa (.t 3) 4)), none⟩, ⟨20, (.op (.load (.t 19) 1 false)), none⟩, ⟨21, (.op (.mv (.t 1))), none⟩, ⟨22, (.op (.ia (.t 20) (.t 21) 9)), none⟩, ⟨23, (.op (.load (.t 22) 9 true)), none⟩, ⟨8, (.op (.alloc [(.str []), (.int .i64 0), (.int .i64 0), (.int .i64 0), (.int .i64 0), (.int .i64 0), (.sl true []), (.sl true []), (.str [])])), none⟩, ⟨0, (.op (.store (.t 8) (.t 23) 9 true)), none⟩] [7, 17, 19, 20, 21, 22, 23])
  (.seq (.reg none [⟨9, (.op (.mv (.k (.int .i64 0)))), none⟩] [])
  (.seq (.seq (.reg none [⟨24, (.op (.fa (.t 3) 4)), none⟩, ⟨25, (.op (.load (.t 24) 1 false)), none⟩, ⟨26, (.op (.mv (.t 1))), none⟩, ⟨27, (.op (.subSl (.t 25) none (some (.t 26)) 9)), none⟩, ⟨28, (.op (.len (.t 27))), none⟩, ⟨29, (.op (.mv (.k (.int .i64 0)))), none⟩] [1])
  (.block 0 (.loop (.seq (.reg none [⟨30, (.op (.bin .lss (.t 29) (.t 28))), none⟩] [])
      (.seq (.cond (.t 30)
        .skip
        (.exit 0))
      (.seq (.block 1 (.seq (.reg none [⟨31, (.op (.ia (.t 27) (.t 29) 9)), none⟩, ⟨32, (.op (.load (.t 31) 9 true)), none⟩, ⟨11, (.op (.alloc [(.str []), (.int .i64 0), (.int .i64 0), (.int .i64 0), (.int .i64 0), (.int .i64 0), (.sl true []), (.sl true []), (.str [])])), none⟩, ⟨0, (.op (.store (.t 11) (.t 32) 9 true)), none⟩] [30, 31, 32])
        (.seq (.reg none [⟨33, (.op (.fa (.t 11) 1)), none⟩, ⟨34, (.op (.load (.t 33) 1 false)), none⟩, ⟨35, (.op (.fa (.t 8) 1)), none⟩, ⟨36, (.op (.load (.t 35) 1 false)), none⟩, ⟨37, (.op (.bin .eql (.t 34) (.t 36))), none⟩] [11, 33, 34, 35, 36])
        (.cond (.t 37)
          (.reg none [⟨38, (.op (.mv (.t 9))), none⟩, ⟨39, (.op (.bin .add (.t 38) (.k (.int .i64 1)))), none⟩, ⟨9, (.op (.mv (.t 39))), none⟩] [37, 38, 39])
          .skip))))
      (.reg none [⟨40, (.op (.bin .add (.t 29) (.k (.int .i64 1)))), none⟩, ⟨29, (.op (.mv (.t 40))), none⟩] [37, 40])))))))
  (.seq (.block 2 (.seq (.reg none [⟨42, (.op (.fa (.t 8) 3)), none⟩, ⟨43, (.op (.load (.t 42) 1 false)), none⟩, ⟨44, (.op (.bin .lss (.t 43) (.k (.int .i64 0)))), none⟩, ⟨45, (.op (.mv (.t 44))), none⟩, ⟨46, (.op (.fa (.t 8) 3)), some (45, false)⟩, ⟨47, (.op (.load (.t 46) 1 false)), some (45, false)⟩, ⟨48, (.op (.bin .gtr (.t 47) (.k (.int .i64 9)))), some (45, false)⟩, ⟨49, (.op (.pick (.t 45) (.k (.bool true)) (.t 48))), none⟩, ⟨50, (.op (.mv (.t 49))), none⟩, ⟨51, (.op (.fa (.t 8) 4)), some (50, false)⟩, ⟨52, (.op (.fa (.t 51) 0)), some (50, false)⟩, ⟨53, (.op (.load (.t 52) 1 false)), some (50, false)⟩, ⟨54, (.op (.bin .lss (.t 53) (.k (.int .i64 0)))), some (50, false)⟩, ⟨55, (.op (.pick (.t 50) (.k (.bool true)) (.t 54))), none⟩, ⟨56, (.op (.mv (.t 55))), none⟩, ⟨57, (.op (.fa (.t 8) 4)), some (56, false)⟩, ⟨58, (.op (.fa (.t 57) 0)), some (56, false)⟩, ⟨59, (.op (.load (.t 58) 1 false)), some (56, false)⟩, ⟨60, (.op (.fa (.t 8) 4)), some (56, false)⟩, ⟨61, (.op (.fa (.t 60) 1)), some (56, false)⟩, ⟨62, (.op (.load (.t 61) 1 false)), some (56, false)⟩, ⟨63, (.op (.bin .geq (.t 59) (.t 62))), some (56, false)⟩, ⟨64, (.op (.pick (.t 56) (.k (.bool true)) (.t 63))), none⟩, ⟨65, (.op (.mv (.t 64))), none⟩, ⟨66, (.op (.fa (.t 8) 4)), some (65, false)⟩, ⟨67, (.op (.fa (.t 66) 1)), some (65, false)⟩, ⟨68, (.op (.load (.t 67) 1 false)), some (65, false)⟩, ⟨69, (.op (.bin .gtr (.t 68) (.k (.int .i64 109573)))), some (65, false)⟩, ⟨70, (.op (.pick (.t 65) (.k (.bool true)) (.t 69))), none⟩, ⟨41, (.op (.mv (.t 70))), none⟩] [24, 25, 26, 27, 28, 29, 30, 42, 43, 44, 45, 46, 47, 48, 49, 50, 51, 52, 53, 54, 55, 56, 57, 58, 59, 60, 61, 62, 63, 64, 65, 66, 67, 68, 69, 70])
    (.cond (.t 41)
      (.seq (.reg none [⟨6, (.op (.mv (.k (.int .i64 3)))), none⟩] [3, 5, 8, 9, 41])
      .ret)
      (.seq (.reg none [⟨72, (.op (.mv (.t 9))), none⟩, ⟨73, (.op (.bin .geq (.t 72) (.k (.int .i64 8)))), none⟩, ⟨71, (.op (.mv (.t 73))), none⟩] [9, 41, 72, 73])
      (.cond (.t 71)
        (.seq (.reg none [⟨6, (.op (.mv (.k (.int .i64 4)))), none⟩] [3, 5, 8, 71])
        .ret)
        (.seq (.reg none [⟨75, (.op (.fa (.t 8) 8)), none⟩, ⟨76, (.op (.load (.t 75) 1 false)), none⟩, ⟨77, (.callL n_law_source [.t 76]), none⟩, ⟨78, (.op (.un .not (.t 77))), none⟩, ⟨74, (.op (.mv (.t 78))), none⟩] [71, 75, 76, 77, 78])
        (.cond (.t 74)
          (.seq (.reg none [⟨6, (.op (.mv (.k (.int .i64 2)))), none⟩] [3, 5, 8, 74])
          .ret)
          .skip)))))))
  (.seq (.seq (.reg none [⟨79, (.op (.fa (.t 8) 6)), none⟩, ⟨80, (.op (.load (.t 79) 1 false)), none⟩, ⟨81, (.op (.len (.t 80))), none⟩, ⟨82, (.op (.bin .gtr (.t 81) (.k (.int .i64 0)))), none⟩] [74, 79, 80, 81])
  (.cond (.t 82)
    (.seq (.reg none [⟨83, (.op (.fa (.t 8) 6)), none⟩, ⟨84, (.op (.load (.t 83) 1 false)), none⟩, ⟨85, (.op (.load (.t 5) 6 true)), none⟩, ⟨86, (.op (.build [(.int .i64 0), (.int .i64 0)] [(0, 1)] [.k (.int .i64 1)])), none⟩, ⟨87, (.callL n_law_expression [.t 84, .t 85, .t 86]), none⟩, ⟨12, (.op (.mvP true (.t 87))), none⟩] [82, 83, 84, 85, 86, 87])
    (.seq (.reg none [⟨88, (.op (.mv (.t 12))), none⟩, ⟨89, (.op (.bin .neq (.t 88) (.k (.int .i64 0)))), none⟩] [88])
    (.cond (.t 89)
      (.seq (.reg none [⟨90, (.op (.mv (.t 12))), none⟩, ⟨6, (.op (.mv (.t 90))), none⟩] [3, 5, 8, 12, 89, 90])
      .ret)
      .skip)))
    .skip))
  (.seq (.reg (some 12) [⟨91, (.op (.fa (.t 8) 7)), none⟩, ⟨92, (.op (.load (.t 91) 1 false)), none⟩, ⟨93, (.op (.load (.t 5) 6 true)), none⟩, ⟨94, (.op (.fa (.t 3) 3)), none⟩, ⟨95, (.op (.load (.t 94) 1 false)), none⟩, ⟨96, (.op (.fa (.t 8) 1)), none⟩, ⟨97, (.op (.load (.t 96) 1 false)), none⟩, ⟨98, (.op (.ia (.t 95) (.t 97) 3)), none⟩, ⟨99, (.op (.fa (.t 98) 1)), none⟩, ⟨100, (.op (.load (.t 99) 2 true)), none⟩, ⟨101, (.callL n_law_expression [.t 92, .t 93, .t 100]), none⟩, ⟨6, (.op (.mv (.t 101))), none⟩] [3, 5, 8, 12, 82, 89, 91, 92, 93, 94, 95, 96, 97, 98, 99, 100, 101])
  .ret))))))))
theorem k_law_rule : fnOk Tryz.prog Tryz.f73 c_law_rule 102 3 [.t 6] = true := by kernel_rfl
theorem u_law_rule : Tryz.prog.funcs[n_law_rule]? = some Tryz.f73 := Tryz.func73
/-- slices.Contains[[]int,int] -/
def c_slices_Contains_int_int : FC :=
  (.seq (.reg none [⟨4, (.op (.mv (.k (.bool false)))), none⟩] [4])
  (.seq (.reg none [⟨5, (.op (.mv (.t 0))), none⟩, ⟨6, (.op (.mv (.t 1))), none⟩, ⟨7, (.callL n_slices_Index_int_int [.t 5, .t 6]), none⟩, ⟨8, (.op (.bin .geq (.t 7) (.k (.int .i64 0)))), none⟩, ⟨4, (.op (.mv (.t 8))), none⟩] [0, 1, 5, 6, 7, 8])
  .ret))
theorem k_slices_Contains_int_int : fnOk Tryz.prog Tryz.f74 c_slices_Contains_int_int 9 2 [.t 4] = true := by kernel_rfl
theorem u_slices_Contains_int_int : Tryz.prog.funcs[n_slices_Contains_int_int]? = some Tryz.f74 := Tryz.func74
/-- guerdon/deps.Transitive -/
def c_deps_Transitive : FC :=
  (.seq (.reg none [⟨2, (.op (.box (.t 0))), none⟩, ⟨4, (.op (.mv (.k (.arr [])))), none⟩] [0, 4])
  (.seq (.seq (.reg none [⟨10, (.op (.load (.t 2) 5 true)), none⟩, ⟨11, (.op (.mv (.t 1))), none⟩, ⟨12, (.callL n_deps_valid [.t 10, .t 11]), none⟩, ⟨13, (.op (.un .not (.t 12))), none⟩] [10, 11, 12])
  (.cond (.t 13)
    (.seq (.reg none [⟨4, (.op (.mv (.k (.arr [])))), none⟩] [1, 2, 13])
    .ret)
    .skip))
  (.seq (.reg none [⟨14, (.op (.fa (.t 2) 3)), none⟩, ⟨15, (.op (.load (.t 14) 1 false)), none⟩, ⟨16, (.op (.len (.t 15))), none⟩, ⟨17, (.op (.makeSl [(.bool false)] 1 (.t 16) (.t 16))), none⟩, ⟨5, (.op (.mvP true (.t 17))), none⟩] [13, 14, 15, 16, 17])
  (.seq (.seq (.reg none [⟨18, (.op (.load (.t 2) 5 true)), none⟩, ⟨19, (.op (.mv (.t 1))), none⟩, ⟨20, (.callL n_deps_Direct [.t 18, .t 19]), none⟩, ⟨6, (.op (.mvP true (.t 20))), none⟩] [1, 18, 19, 20])
  (.block 0 (.loop (.seq (.seq (.reg none [⟨21, (.op (.mv (.t 6))), none⟩, ⟨22, (.op (.len (.t 21))), none⟩, ⟨23, (.op (.bin .gtr (.t 22) (.k (.int .i64 0)))), none⟩] [21, 22])
      (.cond (.t 23)
        .skip
        (.exit 0)))
      (.seq (.block 1 (.seq (.reg none [⟨26, (.op (.mv (.t 5))), none⟩, ⟨27, (.op (.mv (.t 6))), none⟩, ⟨28, (.op (.ia (.t 27) (.k (.int .i64 0)) 1)), none⟩, ⟨29, (.op (.load (.t 28) 1 false)), none⟩, ⟨30, (.op (.ia (.t 26) (.t 29) 1)), none⟩, ⟨31, (.op (.load (.t 30) 1 false)), none⟩, ⟨32, (.op (.un .not (.t 31))), none⟩] [23, 26, 27, 28, 29, 30, 31])
        (.cond (.t 32)
          (.seq (.reg none [⟨33, (.op (.mv (.t 5))), none⟩, ⟨34, (.op (.mv (.t 6))), none⟩, ⟨35, (.op (.ia (.t 34) (.k (.int .i64 0)) 1)), none⟩, ⟨36, (.op (.load (.t 35) 1 false)), none⟩, ⟨37, (.op (.ia (.t 33) (.t 36) 1)), none⟩, ⟨0, (.op (.store (.t 37) (.k (.bool true)) 1 true)), none⟩] [32, 33, 34, 35, 36, 37])
          (.reg (some 6) [⟨38, (.op (.mv (.t 6))), none⟩, ⟨39, (.op (.load (.t 2) 5 true)), none⟩, ⟨40, (.op (.mv (.t 6))), none⟩, ⟨41, (.op (.ia (.t 40) (.k (.int .i64 0)) 1)), none⟩, ⟨42, (.op (.load (.t 41) 1 false)), none⟩, ⟨43, (.callL n_deps_Direct [.t 39, .t 42]), none⟩, ⟨44, (.op (.app (.t 38) (.t 43) 1 8)), none⟩, ⟨6, (.op (.mvP true (.t 44))), none⟩] [38, 39, 40, 41, 42, 43, 44]))
          .skip)))
      (.reg none [⟨24, (.op (.mv (.t 6))), none⟩, ⟨25, (.op (.subSl (.t 24) (some (.k (.int .i64 1))) none 1)), none⟩, ⟨6, (.op (.mvP true (.t 25))), none⟩] [24, 25, 32]))))))
  (.seq (.reg none [⟨7, (.op (.mv (.k (.arr [])))), none⟩] [2, 6, 23])
  (.seq (.seq (.reg none [⟨45, (.op (.mv (.t 5))), none⟩, ⟨46, (.op (.len (.t 45))), none⟩, ⟨47, (.op (.mv (.k (.int .i64 0)))), none⟩] [])
  (.block 2 (.loop (.seq (.reg none [⟨48, (.op (.bin .lss (.t 47) (.t 46))), none⟩] [])
      (.seq (.cond (.t 48)
        .skip
        (.exit 2))
      (.seq (.block 3 (.seq (.reg none [⟨49, (.op (.mv (.t 47))), none⟩, ⟨50, (.op (.ia (.t 45) (.t 47) 1)), none⟩, ⟨51, (.op (.load (.t 50) 1 false)), none⟩, ⟨8, (.op (.mv (.t 49))), none⟩, ⟨9, (.op (.mv (.t 51))), none⟩] [48, 49, 50, 51])
        (.seq (.reg none [⟨52, (.op (.mv (.t 9))), none⟩] [9])
        (.cond (.t 52)
          (.reg none [⟨53, (.op (.mv (.t 7))), none⟩, ⟨54, (.op (.mv (.t 8))), none⟩, ⟨55, (.op (.buildSl [(.int .i64 0)] 1 [0] [.t 54])), none⟩, ⟨56, (.op (.app (.t 53) (.t 55) 1 8)), none⟩, ⟨7, (.op (.mvP true (.t 56))), none⟩] [8, 52, 53, 54, 55, 56])
          .skip))))
      (.reg none [⟨57, (.op (.bin .add (.t 47) (.k (.int .i64 1)))), none⟩, ⟨47, (.op (.mv (.t 57))), none⟩] [8, 52, 57])))))))
  (.seq (.reg none [⟨58, (.op (.mv (.t 7))), none⟩, ⟨4, (.op (.mv (.t 58))), none⟩] [5, 45, 46, 47, 48])
  .ret)))))))
theorem k_deps_Transitive : fnOk Tryz.prog Tryz.f75 c_deps_Transitive 59 2 [.t 4] = true := by kernel_rfl
theorem u_deps_Transitive : Tryz.prog.funcs[n_deps_Transitive]? = some Tryz.f75 := Tryz.func75
/-- guerdon/guerdonref08.IsIdentifier -/
def c_ref08_IsIdentifier : FC :=
  (.seq (.reg none [⟨2, (.op (.mv (.k (.bool false)))), none⟩] [2])
  (.seq (.seq (.reg none [⟨6, (.op (.mv (.t 0))), none⟩, ⟨7, (.op (.lenS (.t 6))), none⟩, ⟨8, (.op (.bin .eql (.t 7) (.k (.int .i64 0)))), none⟩, ⟨9, (.op (.mv (.t 8))), none⟩, ⟨10, (.op (.mv (.t 0))), some (9, false)⟩, ⟨11, (.op (.lenS (.t 10))), some (9, false)⟩, ⟨12, (.op (.bin .gtr (.t 11) (.k (.int .i64 16)))), some (9, false)⟩, ⟨13, (.op (.pick (.t 9) (.k (.bool true)) (.t 12))), none⟩, ⟨14, (.op (.mv (.t 13))), none⟩, ⟨15, (.op (.mv (.t 0))), some (14, false)⟩, ⟨16, (.op (.index (.t 15) (.k (.int .i64 0)))), some (14, false)⟩, ⟨17, (.callL n_ref08_lower [.t 16]), some (14, false)⟩, ⟨18, (.op (.un .not (.t 17))), some (14, false)⟩, ⟨19, (.op (.pick (.t 14) (.k (.bool true)) (.t 18))), none⟩] [6, 7, 8, 9, 10, 11, 12, 13, 14, 15, 16, 17, 18])
  (.cond (.t 19)
    (.seq (.reg none [⟨2, (.op (.mv (.k (.bool false)))), none⟩] [0, 19])
    .ret)
    .skip))
  (.seq (.seq (.reg none [⟨3, (.op (.mv (.k (.int .i64 0)))), none⟩] [19])
  (.block 0 (.loop (.seq (.seq (.reg none [⟨20, (.op (.mv (.t 3))), none⟩, ⟨21, (.op (.mv (.t 0))), none⟩, ⟨22, (.op (.lenS (.t 21))), none⟩, ⟨23, (.op (.bin .lss (.t 20) (.t 22))), none⟩] [20, 21, 22])
      (.cond (.t 23)
        .skip
        (.exit 0)))
      (.seq (.block 1 (.seq (.reg none [⟨26, (.op (.mv (.t 0))), none⟩, ⟨27, (.op (.mv (.t 3))), none⟩, ⟨28, (.op (.index (.t 26) (.t 27))), none⟩, ⟨29, (.callL n_ref08_word [.t 28]), none⟩, ⟨30, (.op (.un .not (.t 29))), none⟩] [23, 26, 27, 28, 29])
        (.cond (.t 30)
          (.seq (.reg none [⟨2, (.op (.mv (.k (.bool false)))), none⟩] [0, 3, 30])
          .ret)
          .skip)))
      (.reg none [⟨24, (.op (.mv (.t 3))), none⟩, ⟨25, (.op (.bin .add (.t 24) (.k (.int .i64 1)))), none⟩, ⟨3, (.op (.mv (.t 25))), none⟩] [24, 25, 30]))))))
  (.seq (.reg none [⟨31, (.callL n_ref08_Reserved []), none⟩, ⟨4, (.op (.mvP true (.t 31))), none⟩] [3, 23, 31])
  (.seq (.seq (.reg none [⟨5, (.op (.mv (.k (.int .i64 0)))), none⟩] [])
  (.block 2 (.loop (.seq (.seq (.reg none [⟨32, (.op (.mv (.t 5))), none⟩, ⟨33, (.op (.mv (.t 4))), none⟩, ⟨34, (.op (.len (.t 33))), none⟩, ⟨35, (.op (.bin .lss (.t 32) (.t 34))), none⟩] [32, 33, 34])
      (.cond (.t 35)
        .skip
        (.exit 2)))
      (.seq (.block 3 (.seq (.reg none [⟨38, (.op (.mv (.t 4))), none⟩, ⟨39, (.op (.mv (.t 5))), none⟩, ⟨40, (.op (.ia (.t 38) (.t 39) 1)), none⟩, ⟨41, (.op (.load (.t 40) 1 false)), none⟩, ⟨42, (.op (.mv (.t 0))), none⟩, ⟨43, (.op (.bin .eql (.t 41) (.t 42))), none⟩] [35, 38, 39, 40, 41, 42])
        (.cond (.t 43)
          (.seq (.reg none [⟨2, (.op (.mv (.k (.bool false)))), none⟩] [0, 4, 5, 43])
          .ret)
          .skip)))
      (.reg none [⟨36, (.op (.mv (.t 5))), none⟩, ⟨37, (.op (.bin .add (.t 36) (.k (.int .i64 1)))), none⟩, ⟨5, (.op (.mv (.t 37))), none⟩] [36, 37, 43]))))))
  (.seq (.reg none [⟨2, (.op (.mv (.k (.bool true)))), none⟩] [0, 4, 5, 35])
  .ret))))))
theorem k_ref08_IsIdentifier : fnOk Tryz.prog Tryz.f76 c_ref08_IsIdentifier 44 1 [.t 2] = true := by kernel_rfl
theorem u_ref08_IsIdentifier : Tryz.prog.funcs[n_ref08_IsIdentifier]? = some Tryz.f76 := Tryz.func76
/-- guerdon/guerdonref17.nameTaken -/
def c_ref17_nameTaken : FC :=
  (.seq (.reg none [⟨4, (.op (.box (.t 0))), none⟩, ⟨8, (.op (.mv (.k (.bool false)))), none⟩] [0, 8])
  (.seq (.seq (.reg none [⟨9, (.op (.mv (.k (.int .i64 0)))), none⟩] [])
  (.block 0 (.loop (.seq (.seq (.reg none [⟨12, (.op (.mv (.t 9))), none⟩, ⟨13, (.op (.fa (.t 4) 0)), none⟩, ⟨14, (.op (.load (.t 13) 1 false)), none⟩, ⟨15, (.op (.len (.t 14))), none⟩, ⟨16, (.op (.bin .lss (.t 12) (.t 15))), none⟩] [12, 13, 14, 15])
      (.cond (.t 16)
        .skip
        (.exit 0)))
      (.seq (.block 1 (.seq (.reg none [⟨19, (.op (.mv (.t 1))), none⟩, ⟨20, (.op (.bin .gtr (.t 19) (.k (.int .i64 1)))), none⟩, ⟨21, (.op (.mv (.t 20))), none⟩, ⟨22, (.op (.mv (.t 9))), some (21, false)⟩, ⟨23, (.op (.mv (.t 2))), some (21, false)⟩, ⟨24, (.op (.bin .lss (.t 22) (.t 23))), some (21, false)⟩, ⟨25, (.op (.pick (.t 21) (.k (.bool true)) (.t 24))), none⟩, ⟨26, (.op (.mv (.t 25))), none⟩, ⟨27, (.op (.fa (.t 4) 0)), some (26, true)⟩, ⟨28, (.op (.load (.t 27) 1 false)), some (26, true)⟩, ⟨29, (.op (.mv (.t 9))), some (26, true)⟩, ⟨30, (.op (.ia (.t 28) (.t 29) 2)), some (26, true)⟩, ⟨31, (.op (.fa (.t 30) 0)), some (26, true)⟩, ⟨32, (.op (.load (.t 31) 1 false)), some (26, true)⟩, ⟨33, (.op (.mv (.t 3))), some (26, true)⟩, ⟨34, (.op (.bin .eql (.t 32) (.t 33))), some (26, true)⟩, ⟨35, (.op (.pick (.t 26) (.t 34) (.k (.bool false)))), none⟩] [16, 19, 20, 21, 22, 23, 24, 25, 26, 27, 28, 29, 30, 31, 32, 33, 34])
        (.cond (.t 35)
          (.seq (.reg none [⟨8, (.op (.mv (.k (.bool true)))), none⟩] [1, 2, 3, 4, 9, 35])
          .ret)
          .skip)))
      (.reg none [⟨17, (.op (.mv (.t 9))), none⟩, ⟨18, (.op (.bin .add (.t 17) (.k (.int .i64 1)))), none⟩, ⟨9, (.op (.mv (.t 18))), none⟩] [17, 18, 35]))))))
  (.seq (.seq (.reg none [⟨10, (.op (.mv (.k (.int .i64 0)))), none⟩] [9, 16])
  (.block 2 (.loop (.seq (.seq (.reg none [⟨36, (.op (.mv (.t 10))), none⟩, ⟨37, (.op (.fa (.t 4) 1)), none⟩, ⟨38, (.op (.load (.t 37) 1 false)), none⟩, ⟨39, (.op (.len (.t 38))), none⟩, ⟨40, (.op (.bin .lss (.t 36) (.t 39))), none⟩] [36, 37, 38, 39])
      (.cond (.t 40)
        .skip
        (.exit 2)))
      (.seq (.block 3 (.seq (.reg none [⟨43, (.op (.mv (.t 1))), none⟩, ⟨44, (.op (.bin .gtr (.t 43) (.k (.int .i64 2)))), none⟩, ⟨45, (.op (.mv (.t 44))), none⟩, ⟨46, (.op (.mv (.t 1))), some (45, false)⟩, ⟨47, (.op (.bin .eql (.t 46) (.k (.int .i64 2)))), some (45, false)⟩, ⟨48, (.op (.mv (.t 47))), some (45, false)⟩, ⟨49, (.op (.mv (.t 10))), some (48, true)⟩, ⟨50, (.op (.mv (.t 2))), some (48, true)⟩, ⟨51, (.op (.bin .lss (.t 49) (.t 50))), some (48, true)⟩, ⟨52, (.op (.pick (.t 48) (.t 51) (.k (.bool false)))), some (45, false)⟩, ⟨53, (.op (.pick (.t 45) (.k (.bool true)) (.t 52))), none⟩, ⟨54, (.op (.mv (.t 53))), none⟩, ⟨55, (.op (.fa (.t 4) 1)), some (54, true)⟩, ⟨56, (.op (.load (.t 55) 1 false)), some (54, true)⟩, ⟨57, (.op (.mv (.t 10))), some (54, true)⟩, ⟨58, (.op (.ia (.t 56) (.t 57) 6)), some (54, true)⟩, ⟨59, (.op (.fa (.t 58) 0)), some (54, true)⟩, ⟨60, (.op (.load (.t 59) 1 false)), some (54, true)⟩, ⟨61, (.op (.mv (.t 3))), some (54, true)⟩, ⟨62, (.op (.bin .eql (.t 60) (.t 61))), some (54, true)⟩, ⟨63, (.op (.pick (.t 54) (.t 62) (.k (.bool false)))), none⟩] [40, 43, 44, 45, 46, 47, 48, 49, 50, 51, 52, 53, 54, 55, 56, 57, 58, 59, 60, 61, 62])
        (.cond (.t 63)
          (.seq (.reg none [⟨8, (.op (.mv (.k (.bool true)))), none⟩] [1, 2, 3, 4, 10, 63])
          .ret)
          .skip)))
      (.reg none [⟨41, (.op (.mv (.t 10))), none⟩, ⟨42, (.op (.bin .add (.t 41) (.k (.int .i64 1)))), none⟩, ⟨10, (.op (.mv (.t 42))), none⟩] [41, 42, 63]))))))
  (.seq (.seq (.reg none [⟨11, (.op (.mv (.k (.int .i64 0)))), none⟩] [10, 40])
  (.block 4 (.loop (.seq (.seq (.reg none [⟨64, (.op (.mv (.t 11))), none⟩, ⟨65, (.op (.fa (.t 4) 2)), none⟩, ⟨66, (.op (.load (.t 65) 1 false)), none⟩, ⟨67, (.op (.len (.t 66))), none⟩, ⟨68, (.op (.bin .lss (.t 64) (.t 67))), none⟩] [64, 65, 66, 67])
      (.cond (.t 68)
        .skip
        (.exit 4)))
      (.seq (.block 5 (.seq (.reg none [⟨71, (.op (.mv (.t 1))), none⟩, ⟨72, (.op (.bin .eql (.t 71) (.k (.int .i64 3)))), none⟩, ⟨73, (.op (.mv (.t 72))), none⟩, ⟨74, (.op (.mv (.t 11))), some (73, true)⟩, ⟨75, (.op (.mv (.t 2))), some (73, true)⟩, ⟨76, (.op (.bin .lss (.t 74) (.t 75))), some (73, true)⟩, ⟨77, (.op (.pick (.t 73) (.t 76) (.k (.bool false)))), none⟩, ⟨78, (.op (.mv (.t 77))), none⟩, ⟨79, (.op (.fa (.t 4) 2)), some (78, true)⟩, ⟨80, (.op (.load (.t 79) 1 false)), some (78, true)⟩, ⟨81, (.op (.mv (.t 11))), some (78, true)⟩, ⟨82, (.op (.ia (.t 80) (.t 81) 5)), some (78, true)⟩, ⟨83, (.op (.fa (.t 82) 0)), some (78, true)⟩, ⟨84, (.op (.load (.t 83) 1 false)), some (78, true)⟩, ⟨85, (.op (.mv (.t 3))), some (78, true)⟩, ⟨86, (.op (.bin .eql (.t 84) (.t 85))), some (78, true)⟩, ⟨87, (.op (.pick (.t 78) (.t 86) (.k (.bool false)))), none⟩] [68, 71, 72, 73, 74, 75, 76, 77, 78, 79, 80, 81, 82, 83, 84, 85, 86])
        (.cond (.t 87)
          (.seq (.reg none [⟨8, (.op (.mv (.k (.bool true)))), none⟩] [1, 2, 3, 4, 11, 87])
          .ret)
          .skip)))
      (.reg none [⟨69, (.op (.mv (.t 11))), none⟩, ⟨70, (.op (.bin .add (.t 69) (.k (.int .i64 1)))), none⟩, ⟨11, (.op (.mv (.t 70))), none⟩] [69, 70, 87]))))))
  (.seq (.reg none [⟨8, (.op (.mv (.k (.bool false)))), none⟩] [1, 2, 3, 4, 11, 68])
  .ret)))))
theorem k_ref17_nameTaken : fnOk Tryz.prog Tryz.f77 c_ref17_nameTaken 88 4 [.t 8] = true := by kernel_rfl
theorem u_ref17_nameTaken : Tryz.prog.funcs[n_ref17_nameTaken]? = some Tryz.f77 := Tryz.func77
/-- guerdon/guerdonref12.Validate -/
def c_ref12_Validate : FC :=
  (.seq (.reg none [⟨2, (.op (.box (.t 0))), none⟩, ⟨4, (.op (.mv (.k (.int .i64 0)))), none⟩, ⟨5, (.op (.mv (.k (.int .i64 0)))), none⟩] [0, 4, 5])
  (.seq (.seq (.reg none [⟨8, (.op (.fa (.t 2) 5)), none⟩, ⟨9, (.op (.load (.t 8) 1 false)), none⟩, ⟨10, (.op (.len (.t 9))), none⟩, ⟨11, (.op (.bin .gtr (.t 10) (.k (.int .i64 64)))), none⟩] [8, 9, 10])
  (.cond (.t 11)
    (.seq (.reg none [⟨4, (.op (.mv (.k (.int .i64 64)))), none⟩, ⟨5, (.op (.mv (.k (.int .i64 4)))), none⟩] [1, 2, 11])
    .ret)
    .skip))
  (.seq (.seq (.reg none [⟨12, (.op (.fa (.t 2) 1)), none⟩, ⟨13, (.op (.load (.t 12) 2 true)), none⟩, ⟨14, (.op (.mv (.t 1))), none⟩, ⟨15, (.callL n_ref09_ValidType [.t 13, .t 14]), none⟩, ⟨16, (.op (.un .not (.t 15))), none⟩, ⟨17, (.op (.mv (.t 16))), none⟩, ⟨18, (.op (.fa (.t 2) 3)), some (17, false)⟩, ⟨19, (.op (.load (.t 18) 2 true)), some (17, false)⟩, ⟨20, (.op (.mv (.t 1))), some (17, false)⟩, ⟨21, (.callL n_ref09_ValidType [.t 19, .t 20]), some (17, false)⟩, ⟨22, (.op (.un .not (.t 21))), some (17, false)⟩, ⟨23, (.op (.pick (.t 17) (.k (.bool true)) (.t 22))), none⟩] [11, 12, 13, 14, 15, 16, 17, 18, 19, 20, 21, 22])
  (.cond (.t 23)
    (.seq (.reg none [⟨4, (.op (.mv (.k (.int .i64 (-1))))), none⟩, ⟨5, (.op (.mv (.k (.int .i64 8)))), none⟩] [1, 2, 23])
    .ret)
    .skip))
  (.seq (.seq (.reg none [⟨6, (.op (.mv (.k (.int .i64 0)))), none⟩] [23])
  (.block 0 (.loop (.seq (.seq (.reg none [⟨24, (.op (.mv (.t 6))), none⟩, ⟨25, (.op (.fa (.t 2) 5)), none⟩, ⟨26, (.op (.load (.t 25) 1 false)), none⟩, ⟨27, (.op (.len (.t 26))), none⟩, ⟨28, (.op (.bin .lss (.t 24) (.t 27))), none⟩] [24, 25, 26, 27])
      (.cond (.t 28)
        .skip
        (.exit 0)))
      (.seq (.block 1 (.seq (.seq (.reg (some 8) [⟨31, (.op (.fa (.t 2) 5)), none⟩, ⟨32, (.op (.load (.t 31) 1 false)), none⟩, ⟨33, (.op (.mv (.t 6))), none⟩, ⟨34, (.op (.ia (.t 32) (.t 33) 5)), none⟩, ⟨35, (.op (.load (.t 34) 5 true)), none⟩, ⟨36, (.op (.load (.t 2) 6 true)), none⟩, ⟨37, (.op (.mv (.t 1))), none⟩, ⟨38, (.callL n_ref12_wrong [.t 35, .t 36, .t 37]), none⟩] [28, 31, 32, 33, 34, 35, 36, 37])
        (.cond (.t 38)
          (.seq (.reg none [⟨39, (.op (.mv (.t 6))), none⟩, ⟨4, (.op (.mv (.t 39))), none⟩, ⟨5, (.op (.mv (.k (.int .i64 3)))), none⟩] [1, 2, 6, 38, 39])
          .ret)
          .skip))
        (.seq (.reg none [⟨7, (.op (.mv (.k (.int .i64 0)))), none⟩] [38])
        (.block 2 (.loop (.seq (.seq (.reg none [⟨40, (.op (.mv (.t 7))), none⟩, ⟨41, (.op (.mv (.t 6))), none⟩, ⟨42, (.op (.bin .lss (.t 40) (.t 41))), none⟩] [40, 41])
            (.cond (.t 42)
              .skip
              (.exit 2)))
            (.seq (.block 3 (.seq (.reg (some 11) [⟨45, (.op (.fa (.t 2) 5)), none⟩, ⟨46, (.op (.load (.t 45) 1 false)), none⟩, ⟨47, (.op (.mv (.t 7))), none⟩, ⟨48, (.op (.ia (.t 46) (.t 47) 5)), none⟩, ⟨49, (.op (.load (.t 48) 5 true)), none⟩, ⟨50, (.op (.fa (.t 2) 5)), none⟩, ⟨51, (.op (.load (.t 50) 1 false)), none⟩, ⟨52, (.op (.mv (.t 6))), none⟩, ⟨53, (.op (.ia (.t 51) (.t 52) 5)), none⟩, ⟨54, (.op (.load (.t 53) 5 true)), none⟩, ⟨55, (.callL n_ref12_conflict [.t 49, .t 54]), none⟩] [42, 45, 46, 47, 48, 49, 50, 51, 52, 53, 54])
              (.cond (.t 55)
                (.seq (.reg none [⟨56, (.op (.mv (.t 6))), none⟩, ⟨4, (.op (.mv (.t 56))), none⟩, ⟨5, (.op (.mv (.k (.int .i64 11)))), none⟩] [1, 2, 6, 7, 55, 56])
                .ret)
                .skip)))
            (.reg none [⟨43, (.op (.mv (.t 7))), none⟩, ⟨44, (.op (.bin .add (.t 43) (.k (.int .i64 1)))), none⟩, ⟨7, (.op (.mv (.t 44))), none⟩] [43, 44, 55]))))))))
      (.reg none [⟨29, (.op (.mv (.t 6))), none⟩, ⟨30, (.op (.bin .add (.t 29) (.k (.int .i64 1)))), none⟩, ⟨6, (.op (.mv (.t 30))), none⟩] [7, 29, 30, 42]))))))
  (.seq (.reg none [⟨4, (.op (.mv (.k (.int .i64 0)))), none⟩, ⟨5, (.op (.mv (.k (.int .i64 0)))), none⟩] [1, 2, 6, 28])
  .ret)))))
theorem k_ref12_Validate : fnOk Tryz.prog Tryz.f78 c_ref12_Validate 57 2 [.t 4, .t 5] = true := by kernel_rfl
theorem u_ref12_Validate : Tryz.prog.funcs[n_ref12_Validate]? = some Tryz.f78 := Tryz.func78
/-- guerdon/guerdonref17.fieldError -/
def c_ref17_fieldError : FC :=
  (.seq (.reg none [⟨2, (.op (.box (.t 0))), none⟩, ⟨4, (.op (.alloc [(.int .i64 0), (.int .i64 0), (.int .i64 0), (.int .i64 0)])), none⟩] [0])
  (.seq (.reg none [⟨10, (.op (.fa (.t 2) 2)), none⟩, ⟨11, (.op (.load (.t 10) 1 false)), none⟩, ⟨12, (.op (.mv (.t 1))), none⟩, ⟨13, (.op (.ia (.t 11) (.t 12) 5)), none⟩, ⟨14, (.op (.load (.t 13) 5 true)), none⟩, ⟨5, (.op (.alloc [(.str []), (.int .i64 0), (.sl true []), (.sl true []), (.sl true [])])), none⟩, ⟨0, (.op (.store (.t 5) (.t 14) 5 true)), none⟩] [10, 11, 12, 13, 14])
  (.seq (.seq (.reg none [⟨6, (.op (.mv (.k (.int .i64 0)))), none⟩] [])
  (.block 0 (.loop (.seq (.seq (.reg none [⟨15, (.op (.mv (.t 6))), none⟩, ⟨16, (.op (.fa (.t 5) 2)), none⟩, ⟨17, (.op (.load (.t 16) 1 false)), none⟩, ⟨18, (.op (.len (.t 17))), none⟩, ⟨19, (.op (.bin .lss (.t 15) (.t 18))), none⟩] [15, 16, 17, 18])
      (.cond (.t 19)
        .skip
        (.exit 0)))
      (.seq (.block 1 (.seq (.reg none [⟨22, (.op (.mv (.t 1))), none⟩, ⟨23, (.op (.mv (.t 6))), none⟩, ⟨24, (.op (.bin .add (.k (.int .i64 100)) (.t 23))), none⟩, ⟨25, (.op (.build [(.int .i64 0), (.int .i64 0), (.int .i64 0), (.int .i64 0)] [(1, 1), (2, 1), (3, 1)] [.k (.int .i64 3), .t 22, .t 24])), none⟩, ⟨7, (.op (.alloc [(.int .i64 0), (.int .i64 0), (.int .i64 0), (.int .i64 0)])), none⟩, ⟨0, (.op (.store (.t 7) (.t 25) 4 true)), none⟩] [19, 22, 23, 24, 25])
        (.seq (.seq (.reg none [⟨26, (.op (.fa (.t 5) 2)), none⟩, ⟨27, (.op (.load (.t 26) 1 false)), none⟩, ⟨28, (.op (.mv (.t 6))), none⟩, ⟨29, (.op (.ia (.t 27) (.t 28) 3)), none⟩, ⟨30, (.op (.fa (.t 29) 0)), none⟩, ⟨31, (.op (.load (.t 30) 1 false)), none⟩, ⟨32, (.callL n_ref08_IsIdentifier [.t 31]), none⟩, ⟨33, (.op (.un .not (.t 32))), none⟩] [26, 27, 28, 29, 30, 31, 32])
        (.cond (.t 33)
          (.reg none [⟨34, (.op (.fa (.t 7) 0)), none⟩, ⟨0, (.op (.store (.t 34) (.k (.int .i64 2)) 1 true)), none⟩] [33, 34])
          (.seq (.reg (some 10) [⟨35, (.op (.fa (.t 5) 2)), none⟩, ⟨36, (.op (.load (.t 35) 1 false)), none⟩, ⟨37, (.op (.mv (.t 6))), none⟩, ⟨38, (.op (.fa (.t 5) 2)), none⟩, ⟨39, (.op (.load (.t 38) 1 false)), none⟩, ⟨40, (.op (.mv (.t 6))), none⟩, ⟨41, (.op (.ia (.t 39) (.t 40) 3)), none⟩, ⟨42, (.op (.fa (.t 41) 0)), none⟩, ⟨43, (.op (.load (.t 42) 1 false)), none⟩, ⟨44, (.callL n_ref17_hasField [.t 36, .t 37, .t 43]), none⟩] [33, 35, 36, 37, 38, 39, 40, 41, 42, 43])
          (.cond (.t 44)
            (.reg none [⟨45, (.op (.fa (.t 7) 0)), none⟩, ⟨0, (.op (.store (.t 45) (.k (.int .i64 7)) 1 true)), none⟩] [44, 45])
            (.seq (.reg (some 10) [⟨46, (.op (.fa (.t 5) 2)), none⟩, ⟨47, (.op (.load (.t 46) 1 false)), none⟩, ⟨48, (.op (.mv (.t 6))), none⟩, ⟨49, (.op (.ia (.t 47) (.t 48) 3)), none⟩, ⟨50, (.op (.fa (.t 49) 1)), none⟩, ⟨51, (.op (.load (.t 50) 2 true)), none⟩, ⟨52, (.op (.fa (.t 2) 0)), none⟩, ⟨53, (.op (.load (.t 52) 1 false)), none⟩, ⟨54, (.callL n_ref09_ValidType [.t 51, .t 53]), none⟩, ⟨55, (.op (.un .not (.t 54))), none⟩] [44, 46, 47, 48, 49, 50, 51, 52, 53, 54])
            (.cond (.t 55)
              (.reg none [⟨56, (.op (.fa (.t 7) 0)), none⟩, ⟨0, (.op (.store (.t 56) (.k (.int .i64 8)) 1 true)), none⟩] [55, 56])
              .skip))))))
        (.seq (.reg none [⟨57, (.op (.fa (.t 7) 0)), none⟩, ⟨58, (.op (.load (.t 57) 1 false)), none⟩, ⟨59, (.op (.bin .neq (.t 58) (.k (.int .i64 0)))), none⟩] [55, 57, 58])
        (.cond (.t 59)
          (.seq (.reg none [⟨60, (.op (.load (.t 7) 4 true)), none⟩, ⟨0, (.op (.store (.t 4) (.t 60) 4 true)), none⟩] [1, 2, 5, 6, 7, 59, 60])
          .ret)
          .skip)))))
      (.reg none [⟨20, (.op (.mv (.t 6))), none⟩, ⟨21, (.op (.bin .add (.t 20) (.k (.int .i64 1)))), none⟩, ⟨6, (.op (.mv (.t 21))), none⟩] [7, 20, 21, 59]))))))
  (.seq (.seq (.reg none [⟨8, (.op (.mv (.k (.int .i64 0)))), none⟩] [6, 19])
  (.block 2 (.loop (.seq (.seq (.reg none [⟨61, (.op (.mv (.t 8))), none⟩, ⟨62, (.op (.fa (.t 5) 3)), none⟩, ⟨63, (.op (.load (.t 62) 1 false)), none⟩, ⟨64, (.op (.len (.t 63))), none⟩, ⟨65, (.op (.bin .lss (.t 61) (.t 64))), none⟩] [61, 62, 63, 64])
      (.cond (.t 65)
        .skip
        (.exit 2)))
      (.seq (.block 3 (.seq (.reg none [⟨68, (.op (.mv (.t 1))), none⟩, ⟨69, (.op (.mv (.t 8))), none⟩, ⟨70, (.op (.bin .add (.k (.int .i64 200)) (.t 69))), none⟩, ⟨71, (.op (.build [(.int .i64 0), (.int .i64 0), (.int .i64 0), (.int .i64 0)] [(1, 1), (2, 1), (3, 1)] [.k (.int .i64 3), .t 68, .t 70])), none⟩, ⟨9, (.op (.alloc [(.int .i64 0), (.int .i64 0), (.int .i64 0), (.int .i64 0)])), none⟩, ⟨0, (.op (.store (.t 9) (.t 71) 4 true)), none⟩] [65, 68, 69, 70, 71])
        (.seq (.seq (.reg none [⟨72, (.op (.fa (.t 5) 3)), none⟩, ⟨73, (.op (.load (.t 72) 1 false)), none⟩, ⟨74, (.op (.mv (.t 8))), none⟩, ⟨75, (.op (.ia (.t 73) (.t 74) 3)), none⟩, ⟨76, (.op (.fa (.t 75) 0)), none⟩, ⟨77, (.op (.load (.t 76) 1 false)), none⟩, ⟨78, (.callL n_ref08_IsIdentifier [.t 77]), none⟩, ⟨79, (.op (.un .not (.t 78))), none⟩] [72, 73, 74, 75, 76, 77, 78])
        (.cond (.t 79)
          (.reg none [⟨80, (.op (.fa (.t 9) 0)), none⟩, ⟨0, (.op (.store (.t 80) (.k (.int .i64 2)) 1 true)), none⟩] [79, 80])
          (.seq (.reg (some 24) [⟨81, (.op (.fa (.t 5) 2)), none⟩, ⟨82, (.op (.load (.t 81) 1 false)), none⟩, ⟨83, (.op (.fa (.t 5) 2)), none⟩, ⟨84, (.op (.load (.t 83) 1 false)), none⟩, ⟨85, (.op (.len (.t 84))), none⟩, ⟨86, (.op (.fa (.t 5) 3)), none⟩, ⟨87, (.op (.load (.t 86) 1 false)), none⟩, ⟨88, (.op (.mv (.t 8))), none⟩, ⟨89, (.op (.ia (.t 87) (.t 88) 3)), none⟩, ⟨90, (.op (.fa (.t 89) 0)), none⟩, ⟨91, (.op (.load (.t 90) 1 false)), none⟩, ⟨92, (.callL n_ref17_hasField [.t 82, .t 85, .t 91]), none⟩, ⟨93, (.op (.mv (.t 92))), none⟩, ⟨94, (.op (.fa (.t 5) 3)), some (93, false)⟩, ⟨95, (.op (.load (.t 94) 1 false)), some (93, false)⟩, ⟨96, (.op (.mv (.t 8))), some (93, false)⟩, ⟨97, (.op (.fa (.t 5) 3)), some (93, false)⟩, ⟨98, (.op (.load (.t 97) 1 false)), some (93, false)⟩, ⟨99, (.op (.mv (.t 8))), some (93, false)⟩, ⟨100, (.op (.ia (.t 98) (.t 99) 3)), some (93, false)⟩, ⟨101, (.op (.fa (.t 100) 0)), some (93, false)⟩, ⟨102, (.op (.load (.t 101) 1 false)), some (93, false)⟩, ⟨103, (.callL n_ref17_hasField [.t 95, .t 96, .t 102]), some (93, false)⟩, ⟨104, (.op (.pick (.t 93) (.k (.bool true)) (.t 103))), none⟩] [79, 81, 82, 83, 84, 85, 86, 87, 88, 89, 90, 91, 92, 93, 94, 95, 96, 97, 98, 99, 100, 101, 102, 103])
          (.cond (.t 104)
            (.reg none [⟨105, (.op (.fa (.t 9) 0)), none⟩, ⟨0, (.op (.store (.t 105) (.k (.int .i64 7)) 1 true)), none⟩] [104, 105])
            (.seq (.reg (some 10) [⟨106, (.op (.fa (.t 5) 3)), none⟩, ⟨107, (.op (.load (.t 106) 1 false)), none⟩, ⟨108, (.op (.mv (.t 8))), none⟩, ⟨109, (.op (.ia (.t 107) (.t 108) 3)), none⟩, ⟨110, (.op (.fa (.t 109) 1)), none⟩, ⟨111, (.op (.load (.t 110) 2 true)), none⟩, ⟨112, (.op (.fa (.t 2) 0)), none⟩, ⟨113, (.op (.load (.t 112) 1 false)), none⟩, ⟨114, (.callL n_ref09_ValidType [.t 111, .t 113]), none⟩, ⟨115, (.op (.un .not (.t 114))), none⟩] [104, 106, 107, 108, 109, 110, 111, 112, 113, 114])
            (.cond (.t 115)
              (.reg none [⟨116, (.op (.fa (.t 9) 0)), none⟩, ⟨0, (.op (.store (.t 116) (.k (.int .i64 8)) 1 true)), none⟩] [115, 116])
              .skip))))))
        (.seq (.reg none [⟨117, (.op (.fa (.t 9) 0)), none⟩, ⟨118, (.op (.load (.t 117) 1 false)), none⟩, ⟨119, (.op (.bin .neq (.t 118) (.k (.int .i64 0)))), none⟩] [115, 117, 118])
        (.cond (.t 119)
          (.seq (.reg none [⟨120, (.op (.load (.t 9) 4 true)), none⟩, ⟨0, (.op (.store (.t 4) (.t 120) 4 true)), none⟩] [1, 2, 5, 8, 9, 119, 120])
          .ret)
          .skip)))))
      (.reg none [⟨66, (.op (.mv (.t 8))), none⟩, ⟨67, (.op (.bin .add (.t 66) (.k (.int .i64 1)))), none⟩, ⟨8, (.op (.mv (.t 67))), none⟩] [9, 66, 67, 119]))))))
  (.seq (.reg none [⟨121, (.op (.build [(.int .i64 0), (.int .i64 0), (.int .i64 0), (.int .i64 0)] [] [])), none⟩, ⟨0, (.op (.store (.t 4) (.t 121) 4 true)), none⟩] [1, 2, 5, 8, 65, 121])
  .ret)))))
theorem k_ref17_fieldError : fnOk Tryz.prog Tryz.f79 c_ref17_fieldError 122 2 [.c 4 4 true] = true := by kernel_rfl
theorem u_ref17_fieldError : Tryz.prog.funcs[n_ref17_fieldError]? = some Tryz.f79 := Tryz.func79
/-- guerdon/guerdonref17.ruleError -/
def c_ref17_ruleError : FC :=
  (.seq (.reg none [⟨3, (.op (.box (.t 0))), none⟩, ⟨6, (.op (.mv (.k (.int .i64 0)))), none⟩] [0, 6])
  (.seq (.reg none [⟨13, (.op (.fa (.t 3) 2)), none⟩, ⟨14, (.op (.load (.t 13) 1 false)), none⟩, ⟨15, (.op (.mv (.t 1))), none⟩, ⟨16, (.op (.ia (.t 14) (.t 15) 5)), none⟩, ⟨17, (.op (.load (.t 16) 5 true)), none⟩, ⟨7, (.op (.alloc [(.str []), (.int .i64 0), (.sl true []), (.sl true []), (.sl true [])])), none⟩, ⟨0, (.op (.store (.t 7) (.t 17) 5 true)), none⟩] [13, 14, 15, 16, 17])
  (.seq (.reg none [⟨18, (.op (.fa (.t 7) 4)), none⟩, ⟨19, (.op (.load (.t 18) 1 false)), none⟩, ⟨20, (.op (.mv (.t 2))), none⟩, ⟨21, (.op (.ia (.t 19) (.t 20) 9)), none⟩, ⟨22, (.op (.load (.t 21) 9 true)), none⟩, ⟨8, (.op (.alloc [(.str []), (.int .i64 0), (.int .i64 0), (.int .i64 0), (.int .i64 0), (.int .i64 0), (.sl true []), (.sl true []), (.str [])])), none⟩, ⟨0, (.op (.store (.t 8) (.t 22) 9 true)), none⟩] [18, 19, 20, 21, 22])
  (.seq (.seq (.reg none [⟨23, (.op (.fa (.t 8) 0)), none⟩, ⟨24, (.op (.load (.t 23) 1 false)), none⟩, ⟨25, (.callL n_ref08_IsIdentifier [.t 24]), none⟩, ⟨26, (.op (.un .not (.t 25))), none⟩] [23, 24, 25])
  (.cond (.t 26)
    (.seq (.reg none [⟨6, (.op (.mv (.k (.int .i64 2)))), none⟩] [1, 2, 3, 7, 8, 26])
    .ret)
    .skip))
  (.seq (.reg none [⟨9, (.op (.mv (.k (.int .i64 0)))), none⟩] [26])
  (.seq (.seq (.reg none [⟨10, (.op (.mv (.k (.int .i64 0)))), none⟩] [])
  (.block 0 (.loop (.seq (.seq (.reg none [⟨27, (.op (.mv (.t 10))), none⟩, ⟨28, (.op (.mv (.t 2))), none⟩, ⟨29, (.op (.bin .lss (.t 27) (.t 28))), none⟩] [27, 28])
      (.cond (.t 29)
        .skip
        (.exit 0)))
      (.seq (.block 1 (.seq (.seq (.reg (some 9) [⟨32, (.op (.fa (.t 7) 4)), none⟩, ⟨33, (.op (.load (.t 32) 1 false)), none⟩, ⟨34, (.op (.mv (.t 10))), none⟩, ⟨35, (.op (.ia (.t 33) (.t 34) 9)), none⟩, ⟨36, (.op (.fa (.t 35) 0)), none⟩, ⟨37, (.op (.load (.t 36) 1 false)), none⟩, ⟨38, (.op (.fa (.t 8) 0)), none⟩, ⟨39, (.op (.load (.t 38) 1 false)), none⟩, ⟨40, (.op (.bin .eql (.t 37) (.t 39))), none⟩] [29, 32, 33, 34, 35, 36, 37, 38, 39])
        (.cond (.t 40)
          (.seq (.reg none [⟨6, (.op (.mv (.k (.int .i64 7)))), none⟩] [1, 2, 3, 7, 8, 9, 10, 40])
          .ret)
          .skip))
        (.seq (.reg (some 9) [⟨41, (.op (.fa (.t 7) 4)), none⟩, ⟨42, (.op (.load (.t 41) 1 false)), none⟩, ⟨43, (.op (.mv (.t 10))), none⟩, ⟨44, (.op (.ia (.t 42) (.t 43) 9)), none⟩, ⟨45, (.op (.fa (.t 44) 1)), none⟩, ⟨46, (.op (.load (.t 45) 1 false)), none⟩, ⟨47, (.op (.fa (.t 8) 1)), none⟩, ⟨48, (.op (.load (.t 47) 1 false)), none⟩, ⟨49, (.op (.bin .eql (.t 46) (.t 48))), none⟩] [40, 41, 42, 43, 44, 45, 46, 47, 48])
        (.cond (.t 49)
          (.reg none [⟨50, (.op (.mv (.t 9))), none⟩, ⟨51, (.op (.bin .add (.t 50) (.k (.int .i64 1)))), none⟩, ⟨9, (.op (.mv (.t 51))), none⟩] [49, 50, 51])
          .skip))))
      (.reg none [⟨30, (.op (.mv (.t 10))), none⟩, ⟨31, (.op (.bin .add (.t 30) (.k (.int .i64 1)))), none⟩, ⟨10, (.op (.mv (.t 31))), none⟩] [30, 31, 49]))))))
  (.seq (.seq (.reg none [⟨52, (.op (.fa (.t 8) 1)), none⟩, ⟨53, (.op (.load (.t 52) 1 false)), none⟩, ⟨54, (.op (.bin .lss (.t 53) (.k (.int .i64 0)))), none⟩, ⟨55, (.op (.mv (.t 54))), none⟩, ⟨56, (.op (.fa (.t 8) 1)), some (55, false)⟩, ⟨57, (.op (.load (.t 56) 1 false)), some (55, false)⟩, ⟨58, (.op (.fa (.t 7) 3)), some (55, false)⟩, ⟨59, (.op (.load (.t 58) 1 false)), some (55, false)⟩, ⟨60, (.op (.len (.t 59))), some (55, false)⟩, ⟨61, (.op (.bin .geq (.t 57) (.t 60))), some (55, false)⟩, ⟨62, (.op (.pick (.t 55) (.k (.bool true)) (.t 61))), none⟩] [10, 29, 52, 53, 54, 55, 56, 57, 58, 59, 60, 61])
  (.cond (.t 62)
    (.seq (.reg none [⟨6, (.op (.mv (.k (.int .i64 6)))), none⟩] [1, 2, 3, 7, 8, 9, 62])
    .ret)
    .skip))
  (.seq (.seq (.reg (some 26) [⟨63, (.op (.fa (.t 8) 2)), none⟩, ⟨64, (.op (.load (.t 63) 1 false)), none⟩, ⟨65, (.op (.bin .neq (.t 64) (.k (.int .i64 (-1))))), none⟩, ⟨66, (.op (.mv (.t 65))), none⟩, ⟨67, (.op (.fa (.t 8) 2)), some (66, true)⟩, ⟨68, (.op (.load (.t 67) 1 false)), some (66, true)⟩, ⟨69, (.op (.bin .lss (.t 68) (.k (.int .i64 0)))), some (66, true)⟩, ⟨70, (.op (.mv (.t 69))), some (66, true)⟩, ⟨71, (.op (.fa (.t 8) 2)), some (70, false)⟩, ⟨72, (.op (.load (.t 71) 1 false)), some (70, false)⟩, ⟨73, (.op (.mv (.t 2))), some (70, false)⟩, ⟨74, (.op (.bin .geq (.t 72) (.t 73))), some (70, false)⟩, ⟨75, (.op (.pick (.t 70) (.k (.bool true)) (.t 74))), some (66, true)⟩, ⟨76, (.op (.mv (.t 75))), some (66, true)⟩, ⟨77, (.op (.fa (.t 7) 4)), some (76, false)⟩, ⟨78, (.op (.load (.t 77) 1 false)), some (76, false)⟩, ⟨79, (.op (.fa (.t 8) 2)), some (76, false)⟩, ⟨80, (.op (.load (.t 79) 1 false)), some (76, false)⟩, ⟨81, (.op (.ia (.t 78) (.t 80) 9)), some (76, false)⟩, ⟨82, (.op (.fa (.t 81) 1)), some (76, false)⟩, ⟨83, (.op (.load (.t 82) 1 false)), some (76, false)⟩, ⟨84, (.op (.fa (.t 8) 1)), some (76, false)⟩, ⟨85, (.op (.load (.t 84) 1 false)), some (76, false)⟩, ⟨86, (.op (.bin .neq (.t 83) (.t 85))), some (76, false)⟩, ⟨87, (.op (.pick (.t 76) (.k (.bool true)) (.t 86))), some (66, true)⟩, ⟨88, (.op (.pick (.t 66) (.t 87) (.k (.bool false)))), none⟩] [2, 62, 63, 64, 65, 66, 67, 68, 69, 70, 71, 72, 73, 74, 75, 76, 77, 78, 79, 80, 81, 82, 83, 84, 85, 86, 87])
  (.cond (.t 88)
    (.seq (.reg none [⟨6, (.op (.mv (.k (.int .i64 9)))), none⟩] [1, 3, 7, 8, 9, 88])
    .ret)
    .skip))
  (.seq (.seq (.reg none [⟨89, (.op (.fa (.t 8) 3)), none⟩, ⟨90, (.op (.load (.t 89) 1 false)), none⟩, ⟨91, (.op (.bin .lss (.t 90) (.k (.int .i64 0)))), none⟩, ⟨92, (.op (.mv (.t 91))), none⟩, ⟨93, (.op (.fa (.t 8) 3)), some (92, false)⟩, ⟨94, (.op (.load (.t 93) 1 false)), some (92, false)⟩, ⟨95, (.op (.bin .gtr (.t 94) (.k (.int .i64 9)))), some (92, false)⟩, ⟨96, (.op (.pick (.t 92) (.k (.bool true)) (.t 95))), none⟩, ⟨97, (.op (.mv (.t 96))), none⟩, ⟨98, (.op (.fa (.t 8) 4)), some (97, false)⟩, ⟨99, (.op (.load (.t 98) 2 true)), some (97, false)⟩, ⟨100, (.callL n_ref05_Valid [.t 99]), some (97, false)⟩, ⟨101, (.op (.un .not (.t 100))), some (97, false)⟩, ⟨102, (.op (.pick (.t 97) (.k (.bool true)) (.t 101))), none⟩, ⟨103, (.op (.mv (.t 102))), none⟩, ⟨104, (.op (.fa (.t 8) 4)), some (103, false)⟩, ⟨105, (.op (.fa (.t 104) 0)), some (103, false)⟩, ⟨106, (.op (.load (.t 105) 1 false)), some (103, false)⟩, ⟨107, (.op (.fa (.t 8) 4)), some (103, false)⟩, ⟨108, (.op (.fa (.t 107) 1)), some (103, false)⟩, ⟨109, (.op (.load (.t 108) 1 false)), some (103, false)⟩, ⟨110, (.op (.bin .eql (.t 106) (.t 109))), some (103, false)⟩, ⟨111, (.op (.pick (.t 103) (.k (.bool true)) (.t 110))), none⟩] [88, 89, 90, 91, 92, 93, 94, 95, 96, 97, 98, 99, 100, 101, 102, 103, 104, 105, 106, 107, 108, 109, 110])
  (.cond (.t 111)
    (.seq (.reg none [⟨6, (.op (.mv (.k (.int .i64 3)))), none⟩] [1, 3, 7, 8, 9, 111])
    .ret)
    .skip))
  (.seq (.seq (.reg none [⟨112, (.op (.mv (.t 9))), none⟩, ⟨113, (.op (.bin .geq (.t 112) (.k (.int .i64 8)))), none⟩] [9, 111, 112])
  (.cond (.t 113)
    (.seq (.reg none [⟨6, (.op (.mv (.k (.int .i64 4)))), none⟩] [1, 3, 7, 8, 113])
    .ret)
    .skip))
  (.seq (.seq (.reg none [⟨114, (.op (.fa (.t 8) 8)), none⟩, ⟨115, (.op (.load (.t 114) 1 false)), none⟩, ⟨116, (.callL n_ref17_plainText [.t 115]), none⟩, ⟨117, (.op (.un .not (.t 116))), none⟩] [113, 114, 115, 116])
  (.cond (.t 117)
    (.seq (.reg none [⟨6, (.op (.mv (.k (.int .i64 2)))), none⟩] [1, 3, 7, 8, 117])
    .ret)
    .skip))
  (.seq (.reg none [⟨118, (.op (.loadM true (.t 3) 3 true)), none⟩, ⟨119, (.op (.mv (.t 1))), none⟩, ⟨120, (.callL n_ref17_Signature [.t 118, .t 119]), none⟩, ⟨11, (.op (.alloc [(.sl true []), (.sl true []), (.sl true []), (.sl true []), (.sl true []), (.bool false)])), none⟩, ⟨0, (.op (.storeS (.t 11) (.t 120) 6)), none⟩] [1, 3, 117, 118, 119, 120])
  (.seq (.seq (.reg none [⟨121, (.op (.fa (.t 8) 6)), none⟩, ⟨122, (.op (.load (.t 121) 1 false)), none⟩, ⟨123, (.op (.len (.t 122))), none⟩, ⟨124, (.op (.bin .gtr (.t 123) (.k (.int .i64 0)))), none⟩] [121, 122, 123])
  (.cond (.t 124)
    (.seq (.reg none [⟨125, (.op (.fa (.t 8) 6)), none⟩, ⟨126, (.op (.load (.t 125) 1 false)), none⟩, ⟨127, (.op (.load (.t 11) 6 true)), none⟩, ⟨128, (.op (.build [(.int .i64 0), (.int .i64 0)] [(0, 1)] [.k (.int .i64 1)])), none⟩, ⟨129, (.callL n_ref17_exprError [.t 126, .t 127, .t 128]), none⟩, ⟨12, (.op (.mvP true (.t 129))), none⟩] [124, 125, 126, 127, 128, 129])
    (.seq (.reg none [⟨130, (.op (.mv (.t 12))), none⟩, ⟨131, (.op (.bin .neq (.t 130) (.k (.int .i64 0)))), none⟩] [130])
    (.cond (.t 131)
      (.seq (.reg none [⟨132, (.op (.mv (.t 12))), none⟩, ⟨6, (.op (.mv (.t 132))), none⟩] [7, 8, 11, 12, 131, 132])
      .ret)
      .skip)))
    .skip))
  (.seq (.reg (some 12) [⟨133, (.op (.fa (.t 8) 7)), none⟩, ⟨134, (.op (.load (.t 133) 1 false)), none⟩, ⟨135, (.op (.load (.t 11) 6 true)), none⟩, ⟨136, (.op (.fa (.t 7) 3)), none⟩, ⟨137, (.op (.load (.t 136) 1 false)), none⟩, ⟨138, (.op (.fa (.t 8) 1)), none⟩, ⟨139, (.op (.load (.t 138) 1 false)), none⟩, ⟨140, (.op (.ia (.t 137) (.t 139) 3)), none⟩, ⟨141, (.op (.fa (.t 140) 1)), none⟩, ⟨142, (.op (.load (.t 141) 2 true)), none⟩, ⟨143, (.callL n_ref17_exprError [.t 134, .t 135, .t 142]), none⟩, ⟨6, (.op (.mv (.t 143))), none⟩] [7, 8, 11, 12, 124, 131, 133, 134, 135, 136, 137, 138, 139, 140, 141, 142, 143])
  .ret))))))))))))))
theorem k_ref17_ruleError : fnOk Tryz.prog Tryz.f80 c_ref17_ruleError 144 3 [.t 6] = true := by kernel_rfl
theorem u_ref17_ruleError : Tryz.prog.funcs[n_ref17_ruleError]? = some Tryz.f80 := Tryz.func80
/-- guerdon/guerdonref16.Transitive -/
def c_ref16_Transitive : FC :=
  (.seq (.reg none [⟨2, (.op (.box (.t 0))), none⟩, ⟨4, (.op (.mv (.k (.arr [])))), none⟩] [0, 4])
  (.seq (.reg none [⟨11, (.op (.load (.t 2) 5 true)), none⟩, ⟨12, (.op (.mv (.t 1))), none⟩, ⟨13, (.callL n_ref16_Direct [.t 11, .t 12]), none⟩, ⟨5, (.op (.mvP true (.t 13))), none⟩] [1, 11, 12, 13])
  (.seq (.seq (.reg none [⟨6, (.op (.mv (.k (.int .i64 0)))), none⟩] [])
  (.block 0 (.loop (.seq (.seq (.reg none [⟨14, (.op (.mv (.t 6))), none⟩, ⟨15, (.op (.fa (.t 2) 3)), none⟩, ⟨16, (.op (.load (.t 15) 1 false)), none⟩, ⟨17, (.op (.len (.t 16))), none⟩, ⟨18, (.op (.bin .lss (.t 14) (.t 17))), none⟩] [14, 15, 16, 17])
      (.cond (.t 18)
        .skip
        (.exit 0)))
      (.seq (.block 1 (.seq (.reg none [⟨21, (.op (.mv (.t 5))), none⟩, ⟨7, (.op (.mv (.t 21))), none⟩] [18])
        (.seq (.reg none [⟨8, (.op (.mv (.k (.int .i64 0)))), none⟩] [])
        (.block 2 (.loop (.seq (.seq (.reg none [⟨22, (.op (.mv (.t 8))), none⟩, ⟨23, (.op (.mv (.t 7))), none⟩, ⟨24, (.op (.len (.t 23))), none⟩, ⟨25, (.op (.bin .lss (.t 22) (.t 24))), none⟩] [22, 23, 24])
            (.cond (.t 25)
              .skip
              (.exit 2)))
            (.seq (.block 3 (.seq (.reg (some 6) [⟨28, (.op (.load (.t 2) 5 true)), none⟩, ⟨29, (.op (.mv (.t 7))), none⟩, ⟨30, (.op (.mv (.t 8))), none⟩, ⟨31, (.op (.ia (.t 29) (.t 30) 1)), none⟩, ⟨32, (.op (.load (.t 31) 1 false)), none⟩, ⟨33, (.callL n_ref16_Direct [.t 28, .t 32]), none⟩, ⟨9, (.op (.mvP true (.t 33))), none⟩] [25, 28, 29, 30, 31, 32, 33])
              (.seq (.reg none [⟨10, (.op (.mv (.k (.int .i64 0)))), none⟩] [])
              (.block 4 (.loop (.seq (.seq (.reg none [⟨34, (.op (.mv (.t 10))), none⟩, ⟨35, (.op (.mv (.t 9))), none⟩, ⟨36, (.op (.len (.t 35))), none⟩, ⟨37, (.op (.bin .lss (.t 34) (.t 36))), none⟩] [34, 35, 36])
                  (.cond (.t 37)
                    .skip
                    (.exit 4)))
                  (.seq (.block 5 (.reg none [⟨40, (.op (.mv (.t 5))), none⟩, ⟨41, (.op (.mv (.t 9))), none⟩, ⟨42, (.op (.mv (.t 10))), none⟩, ⟨43, (.op (.ia (.t 41) (.t 42) 1)), none⟩, ⟨44, (.op (.load (.t 43) 1 false)), none⟩, ⟨45, (.callB n_ref16_insert [.t 40, .t 44]), none⟩, ⟨5, (.op (.mvP true (.t 45))), none⟩] [37, 40, 41, 42, 43, 44, 45]))
                  (.reg none [⟨38, (.op (.mv (.t 10))), none⟩, ⟨39, (.op (.bin .add (.t 38) (.k (.int .i64 1)))), none⟩, ⟨10, (.op (.mv (.t 39))), none⟩] [38, 39]))))))))
            (.reg none [⟨26, (.op (.mv (.t 8))), none⟩, ⟨27, (.op (.bin .add (.t 26) (.k (.int .i64 1)))), none⟩, ⟨8, (.op (.mv (.t 27))), none⟩] [9, 10, 26, 27, 37]))))))))
      (.reg none [⟨19, (.op (.mv (.t 6))), none⟩, ⟨20, (.op (.bin .add (.t 19) (.k (.int .i64 1)))), none⟩, ⟨6, (.op (.mv (.t 20))), none⟩] [7, 8, 19, 20, 21, 25]))))))
  (.seq (.reg none [⟨46, (.op (.mv (.t 5))), none⟩, ⟨4, (.op (.mv (.t 46))), none⟩] [2, 6, 18])
  .ret))))
theorem k_ref16_Transitive : fnOk Tryz.prog Tryz.f81 c_ref16_Transitive 47 2 [.t 4] = true := by kernel_rfl
theorem u_ref16_Transitive : Tryz.prog.funcs[n_ref16_Transitive]? = some Tryz.f81 := Tryz.func81
/-- guerdon/guerdonsame.Enum -/
def c_same_Enum : FC :=
  (.seq (.reg none [⟨2, (.op (.box (.t 0))), none⟩, ⟨3, (.op (.box (.t 1))), none⟩, ⟨4, (.op (.mv (.k (.bool false)))), none⟩] [0, 1, 4])
  (.seq (.reg none [⟨5, (.op (.fa (.t 2) 0)), none⟩, ⟨6, (.op (.load (.t 5) 1 false)), none⟩, ⟨7, (.op (.fa (.t 3) 0)), none⟩, ⟨8, (.op (.load (.t 7) 1 false)), none⟩, ⟨9, (.op (.bin .eql (.t 6) (.t 8))), none⟩, ⟨10, (.op (.mv (.t 9))), none⟩, ⟨11, (.op (.fa (.t 2) 1)), some (10, true)⟩, ⟨12, (.op (.load (.t 11) 1 false)), some (10, true)⟩, ⟨13, (.op (.fa (.t 3) 1)), some (10, true)⟩, ⟨14, (.op (.load (.t 13) 1 false)), some (10, true)⟩, ⟨15, (.callL n_same_Strings [.t 12, .t 14]), some (10, true)⟩, ⟨16, (.op (.pick (.t 10) (.t 15) (.k (.bool false)))), none⟩, ⟨4, (.op (.mv (.t 16))), none⟩] [2, 3, 5, 6, 7, 8, 9, 10, 11, 12, 13, 14, 15, 16])
  .ret))
theorem k_same_Enum : fnOk Tryz.prog Tryz.f82 c_same_Enum 17 2 [.t 4] = true := by kernel_rfl
theorem u_same_Enum : Tryz.prog.funcs[n_same_Enum]? = some Tryz.f82 := Tryz.func82
/-- guerdon/guerdonsame.Table -/
def c_same_Table : FC :=
  (.seq (.reg none [⟨2, (.op (.box (.t 0))), none⟩, ⟨3, (.op (.box (.t 1))), none⟩, ⟨4, (.op (.mv (.k (.bool false)))), none⟩] [0, 1, 4])
  (.seq (.reg none [⟨5, (.op (.fa (.t 2) 0)), none⟩, ⟨6, (.op (.load (.t 5) 1 false)), none⟩, ⟨7, (.op (.fa (.t 3) 0)), none⟩, ⟨8, (.op (.load (.t 7) 1 false)), none⟩, ⟨9, (.op (.bin .eql (.t 6) (.t 8))), none⟩, ⟨10, (.op (.mv (.t 9))), none⟩, ⟨11, (.op (.fa (.t 2) 1)), some (10, true)⟩, ⟨12, (.op (.load (.t 11) 2 true)), some (10, true)⟩, ⟨13, (.op (.fa (.t 3) 1)), some (10, true)⟩, ⟨14, (.op (.load (.t 13) 2 true)), some (10, true)⟩, ⟨15, (.op (.eqS false [0, 0] (.t 12) (.t 14))), some (10, true)⟩, ⟨16, (.op (.pick (.t 10) (.t 15) (.k (.bool false)))), none⟩, ⟨17, (.op (.mv (.t 16))), none⟩, ⟨18, (.op (.fa (.t 2) 3)), some (17, true)⟩, ⟨19, (.op (.load (.t 18) 2 true)), some (17, true)⟩, ⟨20, (.op (.fa (.t 3) 3)), some (17, true)⟩, ⟨21, (.op (.load (.t 20) 2 true)), some (17, true)⟩, ⟨22, (.op (.eqS false [0, 0] (.t 19) (.t 21))), some (17, true)⟩, ⟨23, (.op (.pick (.t 17) (.t 22) (.k (.bool false)))), none⟩, ⟨24, (.op (.mv (.t 23))), none⟩, ⟨25, (.op (.fa (.t 2) 5)), some (24, true)⟩, ⟨26, (.op (.load (.t 25) 1 false)), some (24, true)⟩, ⟨27, (.op (.fa (.t 3) 5)), some (24, true)⟩, ⟨28, (.op (.load (.t 27) 1 false)), some (24, true)⟩, ⟨29, (.callL n_same_Rows [.t 26, .t 28]), some (24, true)⟩, ⟨30, (.op (.pick (.t 24) (.t 29) (.k (.bool false)))), none⟩, ⟨4, (.op (.mv (.t 30))), none⟩] [2, 3, 5, 6, 7, 8, 9, 10, 11, 12, 13, 14, 15, 16, 17, 18, 19, 20, 21, 22, 23, 24, 25, 26, 27, 28, 29, 30])
  .ret))
theorem k_same_Table : fnOk Tryz.prog Tryz.f83 c_same_Table 31 2 [.t 4] = true := by kernel_rfl
theorem u_same_Table : Tryz.prog.funcs[n_same_Table]? = some Tryz.f83 := Tryz.func83
/-- slices.Clone[[]guerdon/api.Row,guerdon/api.Row] -/
def c_slices_Clone_api_Row_api_Row : FC :=
  (.seq (.reg none [⟨2, (.op (.mv (.k (.arr [])))), none⟩] [2])
  (.seq (.seq (.reg none [⟨3, (.op (.mv (.t 0))), none⟩, ⟨4, (.isNil false (.t 3)), none⟩] [3])
  (.cond (.t 4)
    (.seq (.reg none [⟨2, (.op (.mv (.k (.arr [])))), none⟩] [0, 4])
    .ret)
    .skip))
  (.seq (.reg none [⟨5, (.op (.buildSl [(.int .i64 0), (.int .i64 0), (.int .i64 0), (.int .i64 0), (.int .i64 0)] 0 [] [])), none⟩, ⟨6, (.op (.mv (.t 0))), none⟩, ⟨7, (.op (.app (.t 5) (.t 6) 5 40)), none⟩, ⟨2, (.op (.mvP true (.t 7))), none⟩] [0, 4, 5, 6, 7])
  .ret)))
theorem k_slices_Clone_api_Row_api_Row : fnOk Tryz.prog Tryz.f84 c_slices_Clone_api_Row_api_Row 8 1 [.t 2] = true := by kernel_rfl
theorem u_slices_Clone_api_Row_api_Row : Tryz.prog.funcs[n_slices_Clone_api_Row_api_Row]? = some Tryz.f84 := Tryz.func84
end Go.Fx.Tryz
