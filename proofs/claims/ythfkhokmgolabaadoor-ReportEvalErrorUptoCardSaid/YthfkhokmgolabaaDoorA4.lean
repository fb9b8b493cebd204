/- Part of a proof: see the last text of the claim. -/
import Derived.Test.YthfkhokmgolabaaDoorA3
import Derived.Test.YthfkhokmgolabaaDoorProg
import Derived.KernelRfl
import Derived.Shelf.Strings.Builder1
import Derived.Shelf.Strings.Builder2
import Derived.Shelf.Strings.OnBuilder
import Derived.Shelf.Small.Wraps
import Derived.Shelf.Strings.BuilderF
import Derived.Shelf.Strings.BuilderK
import Derived.Shelf.Strings.Builder2Cap
import Derived.Shelf.Strconv.Itoa0
import Derived.Shelf.Strconv.Itoa1
import Derived.Shelf.LaysM
import Derived.Shelf.Strconv.Itoa2
import Derived.Shelf.Strconv.Itoa3
import Derived.Shelf.Strings.Prefix
import Derived.Shelf.Bits.Mul64
import Derived.Shelf.Strings.Repeat
import Derived.Lib.ItoaLen
import Derived.Lib.ItoaMem
set_option linter.unusedVariables false
namespace Go.Fx.Tryd
open Go Go.Fm Go.Proofs
abbrev n_law54_ReportResult : FuncId := 3
abbrev n_law54_ReportEvalError : FuncId := 4
abbrev n_law54_ReportBalances : FuncId := 5
abbrev n_law54_ReportPostings : FuncId := 6
abbrev n_same_SmallLaw : FuncId := 7
abbrev n_law54_few : FuncId := 8
abbrev n_law54_awake : FuncId := 9
abbrev n_same_Strings : FuncId := 10
abbrev n_report_Result : FuncId := 11
abbrev n_ref54_Result : FuncId := 12
abbrev n_report_EvalError : FuncId := 13
abbrev n_ref54_EvalError : FuncId := 14
abbrev n_ref38_Within : FuncId := 15
abbrev n_report_Balances : FuncId := 16
abbrev n_ref54_Balances : FuncId := 17
abbrev n_ref01_Fields : FuncId := 18
abbrev n_ref01_ParseFixed : FuncId := 19
abbrev n_report_Postings : FuncId := 20
abbrev n_ref54_Postings : FuncId := 21
abbrev n_same_smallScope : FuncId := 22
abbrev n_same_TinyLaw : FuncId := 23
abbrev n_report_scopeAt : FuncId := 24
abbrev n_report_lines : FuncId := 25
abbrev n_report_memberScope : FuncId := 26
abbrev n_numtext_FormatInt : FuncId := 27
abbrev n_ref54_scopeAt : FuncId := 28
abbrev n_ref54_lines : FuncId := 29
abbrev n_ref01_FormatInt : FuncId := 30
abbrev n_report_defName : FuncId := 31
abbrev n_report_ruleName : FuncId := 32
abbrev n_strings_Join : FuncId := 33
abbrev n_ref54_defName : FuncId := 34
abbrev n_ref54_ruleName : FuncId := 35
abbrev n_report_monthText : FuncId := 36
abbrev n_report_amount : FuncId := 37
abbrev n_balance_Arrears : FuncId := 38
abbrev n_balance_Overpayment : FuncId := 39
abbrev n_ref54_monthText : FuncId := 40
abbrev n_ref54_amount : FuncId := 41
abbrev n_ref38_Arrears : FuncId := 42
abbrev n_ref38_Overpayment : FuncId := 43
abbrev n_ref01_clamp : FuncId := 44
abbrev n_ref01_ParseInt : FuncId := 45
abbrev n_ref01_sign : FuncId := 46
abbrev n_ref01_allDigits : FuncId := 47
abbrev n_ref01_number : FuncId := 48
abbrev n_value_Format : FuncId := 49
abbrev n_report_or : FuncId := 50
abbrev n_report_kind : FuncId := 51
abbrev n_ref54_valueText : FuncId := 52
abbrev n_ref54_kindText : FuncId := 53
abbrev n_strconv_Itoa : FuncId := 54
abbrev n_ref01_digits : FuncId := 55
abbrev n_month_Format : FuncId := 59
abbrev n_numtext_FormatFixed : FuncId := 60
abbrev n_ref07_Format : FuncId := 61
abbrev n_ref01_FormatFixed : FuncId := 62
abbrev n_value_ValidType : FuncId := 63
abbrev n_value_typeOf : FuncId := 64
abbrev n_value_Valid : FuncId := 65
abbrev n_date_Format : FuncId := 66
abbrev n_ref09_Format : FuncId := 67
abbrev n_month_valid : FuncId := 71
abbrev n_numtext_clamp : FuncId := 72
abbrev n_strings_CutPrefix : FuncId := 73
abbrev n_strings_Repeat : FuncId := 74
abbrev n_ref07_valid : FuncId := 75
abbrev n_value_within : FuncId := 76
abbrev n_date_valid : FuncId := 77
abbrev n_date_ToYMD : FuncId := 78
abbrev n_date_pad : FuncId := 79
abbrev n_ref09_ValidType : FuncId := 80
abbrev n_ref09_Type : FuncId := 81
abbrev n_ref09_Valid : FuncId := 82
abbrev n_ref04_Format : FuncId := 83
abbrev n_value_Bounds : FuncId := 91
abbrev n_date_daysInYear : FuncId := 92
abbrev n_date_DaysInMonth : FuncId := 93
abbrev n_ref09_In : FuncId := 94
abbrev n_ref04_Valid : FuncId := 95
abbrev n_ref04_ToYMD : FuncId := 96
abbrev n_ref04_pad : FuncId := 97
abbrev n_date_IsLeap : FuncId := 105
abbrev n_ref09_Bounds : FuncId := 106
abbrev n_ref04_daysInYear : FuncId := 107
abbrev n_ref04_DaysInMonth : FuncId := 108
abbrev n_ref04_IsLeap : FuncId := 114
/-- guerdon/guerdonsame.Strings -/
def c_same_Strings : FC :=
  (.seq (.reg none [⟨4, (.op (.mv (.k (.bool false)))), none⟩] [4])
  (.seq (.seq (.reg none [⟨6, (.op (.mv (.t 0))), none⟩, ⟨7, (.op (.len (.t 6))), none⟩, ⟨8, (.op (.mv (.t 1))), none⟩, ⟨9, (.op (.len (.t 8))), none⟩, ⟨10, (.op (.bin .neq (.t 7) (.t 9))), none⟩] [6, 7, 8, 9])
  (.cond (.t 10)
    (.seq (.reg none [⟨4, (.op (.mv (.k (.bool false)))), none⟩] [0, 1, 10])
    .ret)
    .skip))
  (.seq (.seq (.reg none [⟨5, (.op (.mv (.k (.int .i64 0)))), none⟩] [10])
  (.block 0 (.loop (.seq (.seq (.reg none [⟨11, (.op (.mv (.t 5))), none⟩, ⟨12, (.op (.mv (.t 0))), none⟩, ⟨13, (.op (.len (.t 12))), none⟩, ⟨14, (.op (.bin .lss (.t 11) (.t 13))), none⟩, ⟨15, (.op (.mv (.t 14))), none⟩, ⟨16, (.op (.mv (.t 5))), some (15, true)⟩, ⟨17, (.op (.mv (.t 1))), some (15, true)⟩, ⟨18, (.op (.len (.t 17))), some (15, true)⟩, ⟨19, (.op (.bin .lss (.t 16) (.t 18))), some (15, true)⟩, ⟨20, (.op (.pick (.t 15) (.t 19) (.k (.bool false)))), none⟩] [11, 12, 13, 14, 15, 16, 17, 18, 19])
      (.cond (.t 20)
        .skip
        (.exit 0)))
      (.seq (.block 1 (.seq (.reg (some 9) [⟨23, (.op (.mv (.t 0))), none⟩, ⟨24, (.op (.mv (.t 5))), none⟩, ⟨25, (.op (.ia (.t 23) (.t 24) 1)), none⟩, ⟨26, (.op (.load (.t 25) 1 false)), none⟩, ⟨27, (.op (.mv (.t 1))), none⟩, ⟨28, (.op (.mv (.t 5))), none⟩, ⟨29, (.op (.ia (.t 27) (.t 28) 1)), none⟩, ⟨30, (.op (.load (.t 29) 1 false)), none⟩, ⟨31, (.op (.bin .neq (.t 26) (.t 30))), none⟩] [20, 23, 24, 25, 26, 27, 28, 29, 30])
        (.cond (.t 31)
          (.seq (.reg none [⟨4, (.op (.mv (.k (.bool false)))), none⟩] [0, 1, 5, 31])
          .ret)
          .skip)))
      (.reg none [⟨21, (.op (.mv (.t 5))), none⟩, ⟨22, (.op (.bin .add (.t 21) (.k (.int .i64 1)))), none⟩, ⟨5, (.op (.mv (.t 22))), none⟩] [21, 22, 31]))))))
  (.seq (.reg none [⟨4, (.op (.mv (.k (.bool true)))), none⟩] [0, 1, 5, 20])
  .ret))))
theorem k_same_Strings : fnOk Tryd.prog Tryd.f10 c_same_Strings 32 2 [.t 4] = true := by kernel_rfl
theorem u_same_Strings : Tryd.prog.funcs[n_same_Strings]? = some Tryd.f10 := Tryd.func10
/-- guerdon/report.scopeAt -/
def c_report_scopeAt : FC :=
  (.seq (.reg none [⟨2, (.op (.box (.t 0))), none⟩, ⟨4, (.op (.alloc [(.str []), (.int .i64 0), (.sl true []), (.sl true []), (.sl true [])])), none⟩, ⟨5, (.op (.mv (.k (.bool false)))), none⟩] [0, 5])
  (.seq (.seq (.reg none [⟨6, (.op (.mv (.t 1))), none⟩, ⟨7, (.op (.bin .lss (.t 6) (.k (.int .i64 0)))), none⟩, ⟨8, (.op (.mv (.t 7))), none⟩, ⟨9, (.op (.mv (.t 1))), some (8, false)⟩, ⟨10, (.op (.fa (.t 2) 2)), some (8, false)⟩, ⟨11, (.op (.load (.t 10) 1 false)), some (8, false)⟩, ⟨12, (.op (.len (.t 11))), some (8, false)⟩, ⟨13, (.op (.bin .geq (.t 9) (.t 12))), some (8, false)⟩, ⟨14, (.op (.pick (.t 8) (.k (.bool true)) (.t 13))), none⟩] [6, 7, 8, 9, 10, 11, 12, 13])
  (.cond (.t 14)
    (.seq (.reg none [⟨15, (.op (.build [(.str []), (.int .i64 0), (.sl true []), (.sl true []), (.sl true [])] [(1, 1)] [.k (.int .i64 (-1))])), none⟩, ⟨0, (.op (.store (.t 4) (.t 15) 5 true)), none⟩, ⟨5, (.op (.mv (.k (.bool false)))), none⟩] [1, 2, 14, 15])
    .ret)
    .skip))
  (.seq (.reg none [⟨16, (.op (.fa (.t 2) 2)), none⟩, ⟨17, (.op (.load (.t 16) 1 false)), none⟩, ⟨18, (.op (.mv (.t 1))), none⟩, ⟨19, (.op (.ia (.t 17) (.t 18) 5)), none⟩, ⟨20, (.op (.load (.t 19) 5 true)), none⟩, ⟨0, (.op (.store (.t 4) (.t 20) 5 true)), none⟩, ⟨5, (.op (.mv (.k (.bool true)))), none⟩] [1, 2, 14, 16, 17, 18, 19, 20])
  .ret)))
theorem k_report_scopeAt : fnOk Tryd.prog Tryd.f24 c_report_scopeAt 21 2 [.c 4 5 true, .t 5] = true := by kernel_rfl
theorem u_report_scopeAt : Tryd.prog.funcs[n_report_scopeAt]? = some Tryd.f24 := Tryd.func24
/-- guerdon/report.memberScope -/
def c_report_memberScope : FC :=
  (.seq (.reg none [⟨2, (.op (.box (.t 0))), none⟩, ⟨4, (.op (.alloc [(.str []), (.int .i64 0), (.sl true []), (.sl true []), (.sl true [])])), none⟩] [0])
  (.seq (.reg none [⟨10, (.op (.load (.t 2) 3 true)), none⟩, ⟨11, (.op (.mv (.t 1))), none⟩, ⟨12, (.callL n_report_scopeAt [.t 10, .t 11]), none⟩, ⟨9, (.op (.mvP true (.t 12))), none⟩, ⟨13, (.op (.extract 9 0)), none⟩, ⟨14, (.op (.extract 9 1)), none⟩, ⟨5, (.op (.alloc [(.str []), (.int .i64 0), (.sl true []), (.sl true []), (.sl true [])])), none⟩, ⟨0, (.op (.store (.t 5) (.t 13) 5 true)), none⟩, ⟨6, (.op (.mvP true (.t 14))), none⟩] [1, 9, 10, 11, 12, 13, 14])
  (.seq (.seq (.reg none [⟨15, (.op (.mv (.t 6))), none⟩, ⟨16, (.op (.un .not (.t 15))), none⟩] [6, 15])
  (.cond (.t 16)
    (.seq (.reg none [⟨17, (.op (.load (.t 5) 5 true)), none⟩, ⟨0, (.op (.store (.t 4) (.t 17) 5 true)), none⟩] [2, 5, 16, 17])
    .ret)
    .skip))
  (.seq (.reg none [⟨19, (.op (.load (.t 2) 3 true)), none⟩, ⟨20, (.op (.fa (.t 5) 1)), none⟩, ⟨21, (.op (.load (.t 20) 1 false)), none⟩, ⟨22, (.callL n_report_scopeAt [.t 19, .t 21]), none⟩, ⟨18, (.op (.mvP true (.t 22))), none⟩, ⟨23, (.op (.extract 18 0)), none⟩, ⟨24, (.op (.extract 18 1)), none⟩, ⟨7, (.op (.alloc [(.str []), (.int .i64 0), (.sl true []), (.sl true []), (.sl true [])])), none⟩, ⟨0, (.op (.store (.t 7) (.t 23) 5 true)), none⟩, ⟨8, (.op (.mvP true (.t 24))), none⟩] [2, 5, 8, 16, 18, 19, 20, 21, 22, 23, 24])
  (.seq (.reg none [⟨25, (.op (.load (.t 7) 5 true)), none⟩, ⟨0, (.op (.store (.t 4) (.t 25) 5 true)), none⟩] [7, 25])
  .ret)))))
theorem k_report_memberScope : fnOk Tryd.prog Tryd.f26 c_report_memberScope 26 2 [.c 4 5 true] = true := by kernel_rfl
theorem u_report_memberScope : Tryd.prog.funcs[n_report_memberScope]? = some Tryd.f26 := Tryd.func26
/-- guerdon/numtext.FormatInt -/
def c_numtext_FormatInt : FC :=
  (.seq (.reg none [⟨2, (.op (.mv (.k (.str [])))), none⟩] [2])
  (.seq (.reg none [⟨3, (.op (.mv (.t 0))), none⟩, ⟨4, (.callL n_strconv_Itoa [.t 3]), none⟩, ⟨2, (.op (.mvP true (.t 4))), none⟩] [0, 3, 4])
  .ret))
theorem k_numtext_FormatInt : fnOk Tryd.prog Tryd.f27 c_numtext_FormatInt 5 1 [.t 2] = true := by kernel_rfl
theorem u_numtext_FormatInt : Tryd.prog.funcs[n_numtext_FormatInt]? = some Tryd.f27 := Tryd.func27
/-- guerdon/guerdonref54.scopeAt -/
def c_ref54_scopeAt : FC :=
  (.seq (.reg none [⟨2, (.op (.box (.t 0))), none⟩, ⟨4, (.op (.alloc [(.str []), (.int .i64 0), (.sl true []), (.sl true []), (.sl true [])])), none⟩] [0])
  (.seq (.seq (.reg none [⟨5, (.op (.mv (.t 1))), none⟩, ⟨6, (.op (.bin .lss (.t 5) (.k (.int .i64 0)))), none⟩, ⟨7, (.op (.mv (.t 6))), none⟩, ⟨8, (.op (.mv (.t 1))), some (7, false)⟩, ⟨9, (.op (.fa (.t 2) 2)), some (7, false)⟩, ⟨10, (.op (.load (.t 9) 1 false)), some (7, false)⟩, ⟨11, (.op (.len (.t 10))), some (7, false)⟩, ⟨12, (.op (.bin .geq (.t 8) (.t 11))), some (7, false)⟩, ⟨13, (.op (.pick (.t 7) (.k (.bool true)) (.t 12))), none⟩] [5, 6, 7, 8, 9, 10, 11, 12])
  (.cond (.t 13)
    (.seq (.reg none [⟨14, (.op (.build [(.str []), (.int .i64 0), (.sl true []), (.sl true []), (.sl true [])] [(1, 1)] [.k (.int .i64 (-1))])), none⟩, ⟨0, (.op (.store (.t 4) (.t 14) 5 true)), none⟩] [1, 2, 13, 14])
    .ret)
    .skip))
  (.seq (.reg none [⟨15, (.op (.fa (.t 2) 2)), none⟩, ⟨16, (.op (.load (.t 15) 1 false)), none⟩, ⟨17, (.op (.mv (.t 1))), none⟩, ⟨18, (.op (.ia (.t 16) (.t 17) 5)), none⟩, ⟨19, (.op (.load (.t 18) 5 true)), none⟩, ⟨0, (.op (.store (.t 4) (.t 19) 5 true)), none⟩] [1, 2, 13, 15, 16, 17, 18, 19])
  .ret)))
theorem k_ref54_scopeAt : fnOk Tryd.prog Tryd.f28 c_ref54_scopeAt 20 2 [.c 4 5 true] = true := by kernel_rfl
theorem u_ref54_scopeAt : Tryd.prog.funcs[n_ref54_scopeAt]? = some Tryd.f28 := Tryd.func28
/-- guerdon/guerdonref01.FormatInt -/
def c_ref01_FormatInt : FC :=
  (.seq (.reg none [⟨2, (.op (.mv (.k (.str [])))), none⟩] [2])
  (.seq (.seq (.reg none [⟨3, (.op (.mv (.t 0))), none⟩, ⟨4, (.op (.bin .lss (.t 3) (.k (.int .i64 0)))), none⟩] [3])
  (.cond (.t 4)
    (.seq (.reg none [⟨5, (.op (.mv (.t 0))), none⟩, ⟨6, (.op (.bin .add (.t 5) (.k (.int .i64 1)))), none⟩, ⟨7, (.op (.un .neg (.t 6))), none⟩, ⟨8, (.op (.cv .u64 (.t 7))), none⟩, ⟨9, (.op (.bin .add (.t 8) (.k (.int .u64 1)))), none⟩, ⟨10, (.callL n_ref01_digits [.t 9]), none⟩, ⟨11, (.op (.bin .add (.k (.str [45])) (.t 10))), none⟩, ⟨2, (.op (.mv (.t 11))), none⟩] [0, 4, 5, 6, 7, 8, 9, 10, 11])
    .ret)
    .skip))
  (.seq (.reg none [⟨12, (.op (.mv (.t 0))), none⟩, ⟨13, (.op (.cv .u64 (.t 12))), none⟩, ⟨14, (.callL n_ref01_digits [.t 13]), none⟩, ⟨2, (.op (.mvP true (.t 14))), none⟩] [0, 4, 12, 13, 14])
  .ret)))
theorem k_ref01_FormatInt : fnOk Tryd.prog Tryd.f30 c_ref01_FormatInt 15 1 [.t 2] = true := by kernel_rfl
theorem u_ref01_FormatInt : Tryd.prog.funcs[n_ref01_FormatInt]? = some Tryd.f30 := Tryd.func30
/-- guerdon/report.defName -/
def c_report_defName : FC :=
  (.seq (.reg none [⟨2, (.op (.box (.t 0))), none⟩, ⟨4, (.op (.mv (.k (.str [])))), none⟩] [0, 4])
  (.seq (.seq (.reg none [⟨5, (.op (.mv (.t 1))), none⟩, ⟨6, (.op (.bin .lss (.t 5) (.k (.int .i64 0)))), none⟩, ⟨7, (.op (.mv (.t 6))), none⟩, ⟨8, (.op (.mv (.t 1))), some (7, false)⟩, ⟨9, (.op (.fa (.t 2) 3)), some (7, false)⟩, ⟨10, (.op (.load (.t 9) 1 false)), some (7, false)⟩, ⟨11, (.op (.len (.t 10))), some (7, false)⟩, ⟨12, (.op (.bin .geq (.t 8) (.t 11))), some (7, false)⟩, ⟨13, (.op (.pick (.t 7) (.k (.bool true)) (.t 12))), none⟩] [5, 6, 7, 8, 9, 10, 11, 12])
  (.cond (.t 13)
    (.seq (.reg none [⟨4, (.op (.mv (.k (.str [63])))), none⟩] [1, 2, 13])
    .ret)
    .skip))
  (.seq (.reg none [⟨14, (.op (.fa (.t 2) 3)), none⟩, ⟨15, (.op (.load (.t 14) 1 false)), none⟩, ⟨16, (.op (.mv (.t 1))), none⟩, ⟨17, (.op (.ia (.t 15) (.t 16) 3)), none⟩, ⟨18, (.op (.fa (.t 17) 0)), none⟩, ⟨19, (.op (.load (.t 18) 1 false)), none⟩, ⟨4, (.op (.mv (.t 19))), none⟩] [1, 2, 13, 14, 15, 16, 17, 18, 19])
  .ret)))
theorem k_report_defName : fnOk Tryd.prog Tryd.f31 c_report_defName 20 2 [.t 4] = true := by kernel_rfl
theorem u_report_defName : Tryd.prog.funcs[n_report_defName]? = some Tryd.f31 := Tryd.func31
/-- guerdon/report.ruleName -/
def c_report_ruleName : FC :=
  (.seq (.reg none [⟨2, (.op (.box (.t 0))), none⟩, ⟨4, (.op (.mv (.k (.str [])))), none⟩] [0, 4])
  (.seq (.seq (.reg none [⟨5, (.op (.mv (.t 1))), none⟩, ⟨6, (.op (.bin .lss (.t 5) (.k (.int .i64 0)))), none⟩, ⟨7, (.op (.mv (.t 6))), none⟩, ⟨8, (.op (.mv (.t 1))), some (7, false)⟩, ⟨9, (.op (.fa (.t 2) 4)), some (7, false)⟩, ⟨10, (.op (.load (.t 9) 1 false)), some (7, false)⟩, ⟨11, (.op (.len (.t 10))), some (7, false)⟩, ⟨12, (.op (.bin .geq (.t 8) (.t 11))), some (7, false)⟩, ⟨13, (.op (.pick (.t 7) (.k (.bool true)) (.t 12))), none⟩] [5, 6, 7, 8, 9, 10, 11, 12])
  (.cond (.t 13)
    (.seq (.reg none [⟨4, (.op (.mv (.k (.str [63])))), none⟩] [1, 2, 13])
    .ret)
    .skip))
  (.seq (.reg none [⟨14, (.op (.fa (.t 2) 4)), none⟩, ⟨15, (.op (.load (.t 14) 1 false)), none⟩, ⟨16, (.op (.mv (.t 1))), none⟩, ⟨17, (.op (.ia (.t 15) (.t 16) 9)), none⟩, ⟨18, (.op (.fa (.t 17) 0)), none⟩, ⟨19, (.op (.load (.t 18) 1 false)), none⟩, ⟨4, (.op (.mv (.t 19))), none⟩] [1, 2, 13, 14, 15, 16, 17, 18, 19])
  .ret)))
theorem k_report_ruleName : fnOk Tryd.prog Tryd.f32 c_report_ruleName 20 2 [.t 4] = true := by kernel_rfl
theorem u_report_ruleName : Tryd.prog.funcs[n_report_ruleName]? = some Tryd.f32 := Tryd.func32
/-- guerdon/guerdonref54.defName -/
def c_ref54_defName : FC :=
  (.seq (.reg none [⟨2, (.op (.box (.t 0))), none⟩, ⟨4, (.op (.mv (.k (.str [])))), none⟩] [0, 4])
  (.seq (.seq (.reg none [⟨5, (.op (.mv (.t 1))), none⟩, ⟨6, (.op (.bin .lss (.t 5) (.k (.int .i64 0)))), none⟩, ⟨7, (.op (.mv (.t 6))), none⟩, ⟨8, (.op (.mv (.t 1))), some (7, false)⟩, ⟨9, (.op (.fa (.t 2) 3)), some (7, false)⟩, ⟨10, (.op (.load (.t 9) 1 false)), some (7, false)⟩, ⟨11, (.op (.len (.t 10))), some (7, false)⟩, ⟨12, (.op (.bin .geq (.t 8) (.t 11))), some (7, false)⟩, ⟨13, (.op (.pick (.t 7) (.k (.bool true)) (.t 12))), none⟩] [5, 6, 7, 8, 9, 10, 11, 12])
  (.cond (.t 13)
    (.seq (.reg none [⟨4, (.op (.mv (.k (.str [63])))), none⟩] [1, 2, 13])
    .ret)
    .skip))
  (.seq (.reg none [⟨14, (.op (.fa (.t 2) 3)), none⟩, ⟨15, (.op (.load (.t 14) 1 false)), none⟩, ⟨16, (.op (.mv (.t 1))), none⟩, ⟨17, (.op (.ia (.t 15) (.t 16) 3)), none⟩, ⟨18, (.op (.fa (.t 17) 0)), none⟩, ⟨19, (.op (.load (.t 18) 1 false)), none⟩, ⟨4, (.op (.mv (.t 19))), none⟩] [1, 2, 13, 14, 15, 16, 17, 18, 19])
  .ret)))
theorem k_ref54_defName : fnOk Tryd.prog Tryd.f34 c_ref54_defName 20 2 [.t 4] = true := by kernel_rfl
theorem u_ref54_defName : Tryd.prog.funcs[n_ref54_defName]? = some Tryd.f34 := Tryd.func34
/-- guerdon/guerdonref54.ruleName -/
def c_ref54_ruleName : FC :=
  (.seq (.reg none [⟨2, (.op (.box (.t 0))), none⟩, ⟨4, (.op (.mv (.k (.str [])))), none⟩] [0, 4])
  (.seq (.seq (.reg none [⟨5, (.op (.mv (.t 1))), none⟩, ⟨6, (.op (.bin .lss (.t 5) (.k (.int .i64 0)))), none⟩, ⟨7, (.op (.mv (.t 6))), none⟩, ⟨8, (.op (.mv (.t 1))), some (7, false)⟩, ⟨9, (.op (.fa (.t 2) 4)), some (7, false)⟩, ⟨10, (.op (.load (.t 9) 1 false)), some (7, false)⟩, ⟨11, (.op (.len (.t 10))), some (7, false)⟩, ⟨12, (.op (.bin .geq (.t 8) (.t 11))), some (7, false)⟩, ⟨13, (.op (.pick (.t 7) (.k (.bool true)) (.t 12))), none⟩] [5, 6, 7, 8, 9, 10, 11, 12])
  (.cond (.t 13)
    (.seq (.reg none [⟨4, (.op (.mv (.k (.str [63])))), none⟩] [1, 2, 13])
    .ret)
    .skip))
  (.seq (.reg none [⟨14, (.op (.fa (.t 2) 4)), none⟩, ⟨15, (.op (.load (.t 14) 1 false)), none⟩, ⟨16, (.op (.mv (.t 1))), none⟩, ⟨17, (.op (.ia (.t 15) (.t 16) 9)), none⟩, ⟨18, (.op (.fa (.t 17) 0)), none⟩, ⟨19, (.op (.load (.t 18) 1 false)), none⟩, ⟨4, (.op (.mv (.t 19))), none⟩] [1, 2, 13, 14, 15, 16, 17, 18, 19])
  .ret)))
theorem k_ref54_ruleName : fnOk Tryd.prog Tryd.f35 c_ref54_ruleName 20 2 [.t 4] = true := by kernel_rfl
theorem u_ref54_ruleName : Tryd.prog.funcs[n_ref54_ruleName]? = some Tryd.f35 := Tryd.func35
/-- guerdon/report.monthText -/
def c_report_monthText : FC :=
  (.seq (.reg none [⟨2, (.op (.mv (.k (.str [])))), none⟩] [2])
  (.seq (.reg none [⟨4, (.op (.mv (.t 0))), none⟩, ⟨5, (.callL n_month_Format [.t 4]), none⟩, ⟨3, (.op (.mvP true (.t 5))), none⟩] [0, 4, 5])
  (.seq (.reg none [⟨6, (.op (.mv (.t 3))), none⟩, ⟨7, (.op (.mv (.t 3))), none⟩, ⟨8, (.op (.bin .neq (.t 7) (.k (.str [])))), none⟩, ⟨9, (.callL n_report_or [.t 6, .t 8]), none⟩, ⟨2, (.op (.mvP true (.t 9))), none⟩] [3, 6, 7, 8, 9])
  .ret)))
theorem k_report_monthText : fnOk Tryd.prog Tryd.f36 c_report_monthText 10 1 [.t 2] = true := by kernel_rfl
theorem u_report_monthText : Tryd.prog.funcs[n_report_monthText]? = some Tryd.f36 := Tryd.func36
/-- guerdon/report.amount -/
def c_report_amount : FC :=
  (.seq (.reg none [⟨2, (.op (.mv (.k (.str [])))), none⟩] [2])
  (.seq (.reg none [⟨3, (.op (.mv (.t 0))), none⟩, ⟨4, (.callL n_numtext_FormatFixed [.t 3, .k (.int .i64 2)]), none⟩, ⟨2, (.op (.mvP true (.t 4))), none⟩] [0, 3, 4])
  .ret))
theorem k_report_amount : fnOk Tryd.prog Tryd.f37 c_report_amount 5 1 [.t 2] = true := by kernel_rfl
theorem u_report_amount : Tryd.prog.funcs[n_report_amount]? = some Tryd.f37 := Tryd.func37
/-- guerdon/balance.Arrears -/
def c_balance_Arrears : FC :=
  (.seq (.reg none [⟨1, (.op (.box (.t 0))), none⟩, ⟨2, (.op (.mv (.k (.int .i64 0)))), none⟩] [0, 2])
  (.seq (.reg none [⟨3, (.op (.fa (.t 1) 1)), none⟩, ⟨4, (.op (.load (.t 3) 1 false)), none⟩, ⟨5, (.op (.fa (.t 1) 2)), none⟩, ⟨6, (.op (.load (.t 5) 1 false)), none⟩, ⟨7, (.op (.bin .sub (.t 4) (.t 6))), none⟩, ⟨8, (.op (.mm true (.t 7) (.k (.int .i64 0)))), none⟩, ⟨2, (.op (.mvP true (.t 8))), none⟩] [1, 3, 4, 5, 6, 7, 8])
  .ret))
theorem k_balance_Arrears : fnOk Tryd.prog Tryd.f38 c_balance_Arrears 9 1 [.t 2] = true := by kernel_rfl
theorem u_balance_Arrears : Tryd.prog.funcs[n_balance_Arrears]? = some Tryd.f38 := Tryd.func38
/-- guerdon/balance.Overpayment -/
def c_balance_Overpayment : FC :=
  (.seq (.reg none [⟨1, (.op (.box (.t 0))), none⟩, ⟨2, (.op (.mv (.k (.int .i64 0)))), none⟩] [0, 2])
  (.seq (.reg none [⟨3, (.op (.fa (.t 1) 2)), none⟩, ⟨4, (.op (.load (.t 3) 1 false)), none⟩, ⟨5, (.op (.fa (.t 1) 1)), none⟩, ⟨6, (.op (.load (.t 5) 1 false)), none⟩, ⟨7, (.op (.bin .sub (.t 4) (.t 6))), none⟩, ⟨8, (.op (.fa (.t 1) 3)), none⟩, ⟨9, (.op (.load (.t 8) 1 false)), none⟩, ⟨10, (.op (.bin .sub (.t 7) (.t 9))), none⟩, ⟨11, (.op (.mm true (.t 10) (.k (.int .i64 0)))), none⟩, ⟨2, (.op (.mvP true (.t 11))), none⟩] [1, 3, 4, 5, 6, 7, 8, 9, 10, 11])
  .ret))
theorem k_balance_Overpayment : fnOk Tryd.prog Tryd.f39 c_balance_Overpayment 12 1 [.t 2] = true := by kernel_rfl
theorem u_balance_Overpayment : Tryd.prog.funcs[n_balance_Overpayment]? = some Tryd.f39 := Tryd.func39
/-- guerdon/guerdonref54.monthText -/
def c_ref54_monthText : FC :=
  (.seq (.reg none [⟨2, (.op (.mv (.k (.str [])))), none⟩] [2])
  (.seq (.reg none [⟨4, (.op (.mv (.t 0))), none⟩, ⟨5, (.callL n_ref07_Format [.t 4]), none⟩, ⟨3, (.op (.mvP true (.t 5))), none⟩] [0, 4, 5])
  (.seq (.seq (.reg none [⟨6, (.op (.mv (.t 3))), none⟩, ⟨7, (.op (.bin .eql (.t 6) (.k (.str [])))), none⟩] [6])
  (.cond (.t 7)
    (.seq (.reg none [⟨2, (.op (.mv (.k (.str [63])))), none⟩] [3, 7])
    .ret)
    .skip))
  (.seq (.reg none [⟨8, (.op (.mv (.t 3))), none⟩, ⟨2, (.op (.mv (.t 8))), none⟩] [3, 7, 8])
  .ret))))
theorem k_ref54_monthText : fnOk Tryd.prog Tryd.f40 c_ref54_monthText 9 1 [.t 2] = true := by kernel_rfl
theorem u_ref54_monthText : Tryd.prog.funcs[n_ref54_monthText]? = some Tryd.f40 := Tryd.func40
/-- guerdon/guerdonref54.amount -/
def c_ref54_amount : FC :=
  (.seq (.reg none [⟨2, (.op (.mv (.k (.str [])))), none⟩] [2])
  (.seq (.reg none [⟨3, (.op (.mv (.t 0))), none⟩, ⟨4, (.callL n_ref01_FormatFixed [.t 3, .k (.int .i64 2)]), none⟩, ⟨2, (.op (.mvP true (.t 4))), none⟩] [0, 3, 4])
  .ret))
theorem k_ref54_amount : fnOk Tryd.prog Tryd.f41 c_ref54_amount 5 1 [.t 2] = true := by kernel_rfl
theorem u_ref54_amount : Tryd.prog.funcs[n_ref54_amount]? = some Tryd.f41 := Tryd.func41
/-- guerdon/guerdonref38.Arrears -/
def c_ref38_Arrears : FC :=
  (.seq (.reg none [⟨1, (.op (.box (.t 0))), none⟩, ⟨2, (.op (.mv (.k (.int .i64 0)))), none⟩] [0, 2])
  (.seq (.reg none [⟨3, (.op (.fa (.t 1) 1)), none⟩, ⟨4, (.op (.load (.t 3) 1 false)), none⟩, ⟨5, (.op (.fa (.t 1) 2)), none⟩, ⟨6, (.op (.load (.t 5) 1 false)), none⟩, ⟨7, (.op (.bin .sub (.t 4) (.t 6))), none⟩, ⟨8, (.op (.mm true (.t 7) (.k (.int .i64 0)))), none⟩, ⟨2, (.op (.mvP true (.t 8))), none⟩] [1, 3, 4, 5, 6, 7, 8])
  .ret))
theorem k_ref38_Arrears : fnOk Tryd.prog Tryd.f42 c_ref38_Arrears 9 1 [.t 2] = true := by kernel_rfl
theorem u_ref38_Arrears : Tryd.prog.funcs[n_ref38_Arrears]? = some Tryd.f42 := Tryd.func42
/-- guerdon/guerdonref38.Overpayment -/
def c_ref38_Overpayment : FC :=
  (.seq (.reg none [⟨1, (.op (.box (.t 0))), none⟩, ⟨2, (.op (.mv (.k (.int .i64 0)))), none⟩] [0, 2])
  (.seq (.reg none [⟨3, (.op (.fa (.t 1) 2)), none⟩, ⟨4, (.op (.load (.t 3) 1 false)), none⟩, ⟨5, (.op (.fa (.t 1) 1)), none⟩, ⟨6, (.op (.load (.t 5) 1 false)), none⟩, ⟨7, (.op (.bin .sub (.t 4) (.t 6))), none⟩, ⟨8, (.op (.fa (.t 1) 3)), none⟩, ⟨9, (.op (.load (.t 8) 1 false)), none⟩, ⟨10, (.op (.bin .sub (.t 7) (.t 9))), none⟩, ⟨11, (.op (.mm true (.t 10) (.k (.int .i64 0)))), none⟩, ⟨2, (.op (.mvP true (.t 11))), none⟩] [1, 3, 4, 5, 6, 7, 8, 9, 10, 11])
  .ret))
theorem k_ref38_Overpayment : fnOk Tryd.prog Tryd.f43 c_ref38_Overpayment 12 1 [.t 2] = true := by kernel_rfl
theorem u_ref38_Overpayment : Tryd.prog.funcs[n_ref38_Overpayment]? = some Tryd.f43 := Tryd.func43
/-- guerdon/guerdonref01.clamp -/
def c_ref01_clamp : FC :=
  (.seq (.reg none [⟨2, (.op (.mv (.k (.int .i64 0)))), none⟩] [2])
  (.seq (.reg none [⟨3, (.op (.mv (.t 0))), none⟩, ⟨4, (.op (.mm true (.t 3) (.k (.int .i64 0)))), none⟩, ⟨5, (.op (.mm false (.t 4) (.k (.int .i64 9)))), none⟩, ⟨2, (.op (.mvP true (.t 5))), none⟩] [0, 3, 4, 5])
  .ret))
theorem k_ref01_clamp : fnOk Tryd.prog Tryd.f44 c_ref01_clamp 6 1 [.t 2] = true := by kernel_rfl
theorem u_ref01_clamp : Tryd.prog.funcs[n_ref01_clamp]? = some Tryd.f44 := Tryd.func44
/-- guerdon/guerdonref01.sign -/
def c_ref01_sign : FC :=
  (.seq (.reg none [⟨2, (.op (.mv (.k (.str [])))), none⟩, ⟨3, (.op (.mv (.k (.bool false)))), none⟩] [2, 3])
  (.seq (.seq (.reg none [⟨4, (.op (.mv (.t 0))), none⟩, ⟨5, (.op (.lenS (.t 4))), none⟩, ⟨6, (.op (.bin .gtr (.t 5) (.k (.int .i64 0)))), none⟩, ⟨7, (.op (.mv (.t 6))), none⟩, ⟨8, (.op (.mv (.t 0))), some (7, true)⟩, ⟨9, (.op (.index (.t 8) (.k (.int .i64 0)))), some (7, true)⟩, ⟨10, (.op (.bin .eql (.t 9) (.k (.int .u8 45)))), some (7, true)⟩, ⟨11, (.op (.pick (.t 7) (.t 10) (.k (.bool false)))), none⟩] [4, 5, 6, 7, 8, 9, 10])
  (.cond (.t 11)
    (.seq (.reg none [⟨12, (.op (.mv (.t 0))), none⟩, ⟨13, (.op (.subStr (.t 12) (some (.k (.int .i64 1))) none)), none⟩, ⟨2, (.op (.mv (.t 13))), none⟩, ⟨3, (.op (.mv (.k (.bool true)))), none⟩] [0, 11, 12, 13])
    .ret)
    .skip))
  (.seq (.reg none [⟨14, (.op (.mv (.t 0))), none⟩, ⟨2, (.op (.mv (.t 14))), none⟩, ⟨3, (.op (.mv (.k (.bool false)))), none⟩] [0, 11, 14])
  .ret)))
theorem k_ref01_sign : fnOk Tryd.prog Tryd.f46 c_ref01_sign 15 1 [.t 2, .t 3] = true := by kernel_rfl
theorem u_ref01_sign : Tryd.prog.funcs[n_ref01_sign]? = some Tryd.f46 := Tryd.func46
/-- guerdon/guerdonref01.allDigits -/
def c_ref01_allDigits : FC :=
  (.seq (.reg none [⟨2, (.op (.mv (.k (.bool false)))), none⟩] [2])
  (.seq (.seq (.reg none [⟨3, (.op (.mv (.k (.int .i64 0)))), none⟩] [])
  (.block 0 (.loop (.seq (.seq (.reg none [⟨4, (.op (.mv (.t 3))), none⟩, ⟨5, (.op (.mv (.t 0))), none⟩, ⟨6, (.op (.lenS (.t 5))), none⟩, ⟨7, (.op (.bin .lss (.t 4) (.t 6))), none⟩] [4, 5, 6])
      (.cond (.t 7)
        .skip
        (.exit 0)))
      (.seq (.block 1 (.seq (.reg none [⟨10, (.op (.mv (.t 0))), none⟩, ⟨11, (.op (.mv (.t 3))), none⟩, ⟨12, (.op (.index (.t 10) (.t 11))), none⟩, ⟨13, (.op (.bin .lss (.t 12) (.k (.int .u8 48)))), none⟩, ⟨14, (.op (.mv (.t 13))), none⟩, ⟨15, (.op (.mv (.t 0))), some (14, false)⟩, ⟨16, (.op (.mv (.t 3))), some (14, false)⟩, ⟨17, (.op (.index (.t 15) (.t 16))), some (14, false)⟩, ⟨18, (.op (.bin .gtr (.t 17) (.k (.int .u8 57)))), some (14, false)⟩, ⟨19, (.op (.pick (.t 14) (.k (.bool true)) (.t 18))), none⟩] [7, 10, 11, 12, 13, 14, 15, 16, 17, 18])
        (.cond (.t 19)
          (.seq (.reg none [⟨2, (.op (.mv (.k (.bool false)))), none⟩] [0, 3, 19])
          .ret)
          .skip)))
      (.reg none [⟨8, (.op (.mv (.t 3))), none⟩, ⟨9, (.op (.bin .add (.t 8) (.k (.int .i64 1)))), none⟩, ⟨3, (.op (.mv (.t 9))), none⟩] [8, 9, 19]))))))
  (.seq (.reg none [⟨20, (.op (.mv (.t 0))), none⟩, ⟨21, (.op (.lenS (.t 20))), none⟩, ⟨22, (.op (.bin .gtr (.t 21) (.k (.int .i64 0)))), none⟩, ⟨2, (.op (.mv (.t 22))), none⟩] [0, 3, 7, 20, 21, 22])
  .ret)))
theorem k_ref01_allDigits : fnOk Tryd.prog Tryd.f47 c_ref01_allDigits 23 1 [.t 2] = true := by kernel_rfl
theorem u_ref01_allDigits : Tryd.prog.funcs[n_ref01_allDigits]? = some Tryd.f47 := Tryd.func47
/-- guerdon/guerdonref01.number -/
def c_ref01_number : FC :=
  (.seq (.reg none [⟨4, (.op (.mv (.k (.int .i64 0)))), none⟩, ⟨5, (.op (.mv (.k (.int .i64 0)))), none⟩] [4, 5])
  (.seq (.seq (.reg none [⟨8, (.op (.mv (.t 0))), none⟩, ⟨9, (.op (.lenS (.t 8))), none⟩, ⟨10, (.op (.bin .gtr (.t 9) (.k (.int .i64 19)))), none⟩] [8, 9])
  (.cond (.t 10)
    (.seq (.reg none [⟨4, (.op (.mv (.k (.int .i64 0)))), none⟩, ⟨5, (.op (.mv (.k (.int .i64 3)))), none⟩] [0, 1, 10])
    .ret)
    .skip))
  (.seq (.reg none [⟨6, (.op (.mv (.k (.int .u64 0)))), none⟩] [10])
  (.seq (.seq (.reg none [⟨7, (.op (.mv (.k (.int .i64 0)))), none⟩] [])
  (.block 0 (.loop (.seq (.seq (.reg none [⟨11, (.op (.mv (.t 7))), none⟩, ⟨12, (.op (.mv (.t 0))), none⟩, ⟨13, (.op (.lenS (.t 12))), none⟩, ⟨14, (.op (.bin .lss (.t 11) (.t 13))), none⟩] [11, 12, 13])
      (.cond (.t 14)
        .skip
        (.exit 0)))
      (.seq (.block 1 (.reg none [⟨17, (.op (.mv (.t 6))), none⟩, ⟨18, (.op (.bin .mul (.k (.int .u64 10)) (.t 17))), none⟩, ⟨19, (.op (.mv (.t 0))), none⟩, ⟨20, (.op (.mv (.t 7))), none⟩, ⟨21, (.op (.index (.t 19) (.t 20))), none⟩, ⟨22, (.op (.bin .sub (.t 21) (.k (.int .u8 48)))), none⟩, ⟨23, (.op (.cv .u64 (.t 22))), none⟩, ⟨24, (.op (.bin .add (.t 18) (.t 23))), none⟩, ⟨6, (.op (.mv (.t 24))), none⟩] [14, 17, 18, 19, 20, 21, 22, 23, 24]))
      (.reg none [⟨15, (.op (.mv (.t 7))), none⟩, ⟨16, (.op (.bin .add (.t 15) (.k (.int .i64 1)))), none⟩, ⟨7, (.op (.mv (.t 16))), none⟩] [15, 16]))))))
  (.seq (.seq (.reg none [⟨25, (.op (.mv (.t 6))), none⟩, ⟨26, (.op (.bin .gtr (.t 25) (.k (.int .u64 4611686018427387904)))), none⟩] [0, 7, 14, 25])
  (.cond (.t 26)
    (.seq (.reg none [⟨4, (.op (.mv (.k (.int .i64 0)))), none⟩, ⟨5, (.op (.mv (.k (.int .i64 3)))), none⟩] [1, 6, 26])
    .ret)
    .skip))
  (.seq (.seq (.reg none [⟨27, (.op (.mv (.t 1))), none⟩] [1, 26])
  (.cond (.t 27)
    (.seq (.reg none [⟨28, (.op (.mv (.t 6))), none⟩, ⟨29, (.op (.cv .i64 (.t 28))), none⟩, ⟨30, (.op (.un .neg (.t 29))), none⟩, ⟨4, (.op (.mv (.t 30))), none⟩, ⟨5, (.op (.mv (.k (.int .i64 0)))), none⟩] [6, 27, 28, 29, 30])
    .ret)
    .skip))
  (.seq (.reg none [⟨31, (.op (.mv (.t 6))), none⟩, ⟨32, (.op (.cv .i64 (.t 31))), none⟩, ⟨4, (.op (.mv (.t 32))), none⟩, ⟨5, (.op (.mv (.k (.int .i64 0)))), none⟩] [6, 27, 31, 32])
  .ret)))))))
theorem k_ref01_number : fnOk Tryd.prog Tryd.f48 c_ref01_number 33 2 [.t 4, .t 5] = true := by kernel_rfl
theorem u_ref01_number : Tryd.prog.funcs[n_ref01_number]? = some Tryd.f48 := Tryd.func48
/-- guerdon/report.or -/
def c_report_or : FC :=
  (.seq (.reg none [⟨4, (.op (.mv (.k (.str [])))), none⟩] [4])
  (.seq (.seq (.reg none [⟨5, (.op (.mv (.t 1))), none⟩, ⟨6, (.op (.un .not (.t 5))), none⟩] [1, 5])
  (.cond (.t 6)
    (.seq (.reg none [⟨4, (.op (.mv (.k (.str [63])))), none⟩] [0, 6])
    .ret)
    .skip))
  (.seq (.reg none [⟨7, (.op (.mv (.t 0))), none⟩, ⟨4, (.op (.mv (.t 7))), none⟩] [0, 6, 7])
  .ret)))
theorem k_report_or : fnOk Tryd.prog Tryd.f50 c_report_or 8 2 [.t 4] = true := by kernel_rfl
theorem u_report_or : Tryd.prog.funcs[n_report_or]? = some Tryd.f50 := Tryd.func50
/-- guerdon/report.kind -/
def c_report_kind : FC :=
  (.seq (.reg none [⟨2, (.op (.mv (.k (.str [])))), none⟩] [2])
  (.seq (.seq (.reg none [⟨3, (.op (.mv (.t 0))), none⟩] [0])
  (.block 0 (.seq (.reg none [⟨5, (.op (.bin .eql (.t 3) (.k (.int .i64 1)))), none⟩, ⟨4, (.op (.mv (.t 5))), none⟩] [5])
    (.cond (.t 4)
      (.seq (.reg none [⟨2, (.op (.mv (.k (.str [112, 97, 121, 109, 101, 110, 116])))), none⟩] [3, 4])
      .ret)
      (.seq (.reg none [⟨7, (.op (.bin .eql (.t 3) (.k (.int .i64 2)))), none⟩, ⟨6, (.op (.mv (.t 7))), none⟩] [4, 7])
      (.cond (.t 6)
        (.seq (.reg none [⟨2, (.op (.mv (.k (.str [114, 101, 99, 111, 118, 101, 114, 121])))), none⟩] [3, 6])
        .ret)
        (.seq (.reg none [⟨9, (.op (.bin .eql (.t 3) (.k (.int .i64 3)))), none⟩, ⟨8, (.op (.mv (.t 9))), none⟩] [6, 9])
        (.cond (.t 8)
          (.seq (.reg none [⟨2, (.op (.mv (.k (.str [114, 101, 112, 97, 121, 109, 101, 110, 116])))), none⟩] [3, 8])
          .ret)
          (.seq (.reg none [⟨11, (.op (.bin .eql (.t 3) (.k (.int .i64 4)))), none⟩, ⟨10, (.op (.mv (.t 11))), none⟩] [3, 8, 11])
          (.cond (.t 10)
            (.seq (.reg none [⟨2, (.op (.mv (.k (.str [119, 97, 105, 118, 101, 114])))), none⟩] [10])
            .ret)
            .skip))))))))))
  (.seq (.reg none [⟨2, (.op (.mv (.k (.str [63])))), none⟩] [10])
  .ret)))
theorem k_report_kind : fnOk Tryd.prog Tryd.f51 c_report_kind 12 1 [.t 2] = true := by kernel_rfl
theorem u_report_kind : Tryd.prog.funcs[n_report_kind]? = some Tryd.f51 := Tryd.func51
/-- guerdon/guerdonref54.valueText -/
def c_ref54_valueText : FC :=
  (.seq (.reg none [⟨2, (.op (.box (.t 0))), none⟩, ⟨4, (.op (.mv (.k (.str [])))), none⟩] [0, 4])
  (.seq (.reg none [⟨8, (.op (.load (.t 2) 3 true)), none⟩, ⟨9, (.op (.mv (.t 1))), none⟩, ⟨10, (.callL n_ref09_Format [.t 8, .t 9]), none⟩, ⟨7, (.op (.mvP true (.t 10))), none⟩, ⟨11, (.op (.extract 7 0)), none⟩, ⟨12, (.op (.extract 7 1)), none⟩, ⟨5, (.op (.mvP true (.t 11))), none⟩, ⟨6, (.op (.mvP true (.t 12))), none⟩] [1, 2, 7, 8, 9, 10, 11, 12])
  (.seq (.seq (.reg none [⟨13, (.op (.mv (.t 6))), none⟩, ⟨14, (.op (.bin .neq (.t 13) (.k (.int .i64 0)))), none⟩] [6, 13])
  (.cond (.t 14)
    (.seq (.reg none [⟨4, (.op (.mv (.k (.str [63])))), none⟩] [5, 14])
    .ret)
    .skip))
  (.seq (.reg none [⟨15, (.op (.mv (.t 5))), none⟩, ⟨4, (.op (.mv (.t 15))), none⟩] [5, 14, 15])
  .ret))))
theorem k_ref54_valueText : fnOk Tryd.prog Tryd.f52 c_ref54_valueText 16 2 [.t 4] = true := by kernel_rfl
theorem u_ref54_valueText : Tryd.prog.funcs[n_ref54_valueText]? = some Tryd.f52 := Tryd.func52
/-- guerdon/guerdonref54.kindText -/
def c_ref54_kindText : FC :=
  (.seq (.reg none [⟨2, (.op (.mv (.k (.str [])))), none⟩] [2])
  (.seq (.seq (.reg none [⟨3, (.op (.mv (.t 0))), none⟩] [0])
  (.block 0 (.seq (.reg none [⟨5, (.op (.bin .eql (.t 3) (.k (.int .i64 1)))), none⟩, ⟨4, (.op (.mv (.t 5))), none⟩] [5])
    (.cond (.t 4)
      (.seq (.reg none [⟨2, (.op (.mv (.k (.str [112, 97, 121, 109, 101, 110, 116])))), none⟩] [3, 4])
      .ret)
      (.seq (.reg none [⟨7, (.op (.bin .eql (.t 3) (.k (.int .i64 2)))), none⟩, ⟨6, (.op (.mv (.t 7))), none⟩] [4, 7])
      (.cond (.t 6)
        (.seq (.reg none [⟨2, (.op (.mv (.k (.str [114, 101, 99, 111, 118, 101, 114, 121])))), none⟩] [3, 6])
        .ret)
        (.seq (.reg none [⟨9, (.op (.bin .eql (.t 3) (.k (.int .i64 3)))), none⟩, ⟨8, (.op (.mv (.t 9))), none⟩] [6, 9])
        (.cond (.t 8)
          (.seq (.reg none [⟨2, (.op (.mv (.k (.str [114, 101, 112, 97, 121, 109, 101, 110, 116])))), none⟩] [3, 8])
          .ret)
          (.seq (.reg none [⟨11, (.op (.bin .eql (.t 3) (.k (.int .i64 4)))), none⟩, ⟨10, (.op (.mv (.t 11))), none⟩] [3, 8, 11])
          (.cond (.t 10)
            (.seq (.reg none [⟨2, (.op (.mv (.k (.str [119, 97, 105, 118, 101, 114])))), none⟩] [10])
            .ret)
            .skip))))))))))
  (.seq (.reg none [⟨2, (.op (.mv (.k (.str [63])))), none⟩] [10])
  .ret)))
theorem k_ref54_kindText : fnOk Tryd.prog Tryd.f53 c_ref54_kindText 12 1 [.t 2] = true := by kernel_rfl
theorem u_ref54_kindText : Tryd.prog.funcs[n_ref54_kindText]? = some Tryd.f53 := Tryd.func53
/-- guerdon/guerdonref01.digits -/
def c_ref01_digits : FC :=
  (.seq (.reg none [⟨2, (.op (.mv (.k (.str [])))), none⟩] [2])
  (.seq (.seq (.reg none [⟨3, (.op (.mv (.t 0))), none⟩, ⟨4, (.op (.bin .lss (.t 3) (.k (.int .u64 10)))), none⟩] [3])
  (.cond (.t 4)
    (.seq (.reg none [⟨5, (.op (.mv (.t 0))), none⟩, ⟨6, (.op (.bin .add (.k (.int .u64 48)) (.t 5))), none⟩, ⟨7, (.op (.cv .u8 (.t 6))), none⟩, ⟨8, (.op (.buildSl [(.int .u8 0)] 1 [0] [.t 7])), none⟩, ⟨9, (.op (.cvStr (.t 8))), none⟩, ⟨2, (.op (.mv (.t 9))), none⟩] [0, 4, 5, 6, 7, 8, 9])
    .ret)
    .skip))
  (.seq (.reg (some 11) [⟨10, (.op (.mv (.t 0))), none⟩, ⟨11, (.op (.bin .quo (.t 10) (.k (.int .u64 10)))), none⟩, ⟨12, (.callL n_ref01_digits [.t 11]), none⟩, ⟨13, (.op (.mv (.t 0))), none⟩, ⟨14, (.op (.bin .rem (.t 13) (.k (.int .u64 10)))), none⟩, ⟨15, (.op (.bin .add (.k (.int .u64 48)) (.t 14))), none⟩, ⟨16, (.op (.cv .u8 (.t 15))), none⟩, ⟨17, (.op (.buildSl [(.int .u8 0)] 1 [0] [.t 16])), none⟩, ⟨18, (.op (.cvStr (.t 17))), none⟩, ⟨19, (.op (.bin .add (.t 12) (.t 18))), none⟩, ⟨2, (.op (.mv (.t 19))), none⟩] [0, 4, 10, 11, 12, 13, 14, 15, 16, 17, 18, 19])
  .ret)))
theorem k_ref01_digits : fnOk Tryd.prog Tryd.f55 c_ref01_digits 20 1 [.t 2] = true := by kernel_rfl
theorem u_ref01_digits : Tryd.prog.funcs[n_ref01_digits]? = some Tryd.f55 := Tryd.func55
/-- guerdon/month.Format -/
def c_month_Format : FC :=
  (.seq (.reg none [⟨2, (.op (.mv (.k (.str [])))), none⟩] [2])
  (.seq (.seq (.reg none [⟨4, (.op (.mv (.t 0))), none⟩, ⟨5, (.callL n_month_valid [.t 4]), none⟩, ⟨6, (.op (.un .not (.t 5))), none⟩] [4, 5])
  (.cond (.t 6)
    (.seq (.reg none [⟨2, (.op (.mv (.k (.str [])))), none⟩] [0, 6])
    .ret)
    .skip))
  (.seq (.reg none [⟨7, (.op (.mv (.t 0))), none⟩, ⟨8, (.op (.bin .rem (.t 7) (.k (.int .i64 12)))), none⟩, ⟨9, (.op (.bin .add (.t 8) (.k (.int .i64 1)))), none⟩, ⟨10, (.callL n_numtext_FormatInt [.t 9]), none⟩, ⟨3, (.op (.mvP true (.t 10))), none⟩] [6, 7, 8, 9, 10])
  (.seq (.seq (.reg none [⟨11, (.op (.mv (.t 3))), none⟩, ⟨12, (.op (.lenS (.t 11))), none⟩, ⟨13, (.op (.bin .lss (.t 12) (.k (.int .i64 2)))), none⟩] [11, 12])
  (.cond (.t 13)
    (.reg none [⟨14, (.op (.mv (.t 3))), none⟩, ⟨15, (.op (.bin .add (.k (.str [48])) (.t 14))), none⟩, ⟨3, (.op (.mv (.t 15))), none⟩] [13, 14, 15])
    .skip))
  (.seq (.reg none [⟨16, (.op (.mv (.t 0))), none⟩, ⟨17, (.op (.bin .quo (.t 16) (.k (.int .i64 12)))), none⟩, ⟨18, (.op (.bin .add (.k (.int .i64 1900)) (.t 17))), none⟩, ⟨19, (.callL n_numtext_FormatInt [.t 18]), none⟩, ⟨20, (.op (.bin .add (.t 19) (.k (.str [45])))), none⟩, ⟨21, (.op (.mv (.t 3))), none⟩, ⟨22, (.op (.bin .add (.t 20) (.t 21))), none⟩, ⟨2, (.op (.mv (.t 22))), none⟩] [0, 3, 13, 16, 17, 18, 19, 20, 21, 22])
  .ret)))))
theorem k_month_Format : fnOk Tryd.prog Tryd.f59 c_month_Format 23 1 [.t 2] = true := by kernel_rfl
theorem u_month_Format : Tryd.prog.funcs[n_month_Format]? = some Tryd.f59 := Tryd.func59
/-- guerdon/numtext.FormatFixed -/
def c_numtext_FormatFixed : FC :=
  (.seq (.reg none [⟨4, (.op (.mv (.k (.str [])))), none⟩] [4])
  (.seq (.reg none [⟨9, (.op (.mv (.t 1))), none⟩, ⟨10, (.callL n_numtext_clamp [.t 9]), none⟩, ⟨1, (.op (.mvP true (.t 10))), none⟩] [9, 10])
  (.seq (.seq (.reg none [⟨11, (.op (.mv (.t 1))), none⟩, ⟨12, (.op (.bin .eql (.t 11) (.k (.int .i64 0)))), none⟩] [11])
  (.cond (.t 12)
    (.seq (.reg none [⟨13, (.op (.mv (.t 0))), none⟩, ⟨14, (.callL n_numtext_FormatInt [.t 13]), none⟩, ⟨4, (.op (.mvP true (.t 14))), none⟩] [0, 1, 12, 13, 14])
    .ret)
    .skip))
  (.seq (.reg none [⟨16, (.op (.mv (.t 0))), none⟩, ⟨17, (.callL n_numtext_FormatInt [.t 16]), none⟩, ⟨18, (.callL n_strings_CutPrefix [.t 17, .k (.str [45])]), none⟩, ⟨15, (.op (.mvP true (.t 18))), none⟩, ⟨19, (.op (.extract 15 0)), none⟩, ⟨20, (.op (.extract 15 1)), none⟩, ⟨5, (.op (.mvP true (.t 19))), none⟩, ⟨6, (.op (.mvP true (.t 20))), none⟩] [0, 12, 15, 16, 17, 18, 19, 20])
  (.seq (.seq (.reg none [⟨21, (.op (.mv (.t 1))), none⟩, ⟨22, (.op (.bin .add (.t 21) (.k (.int .i64 1)))), none⟩, ⟨23, (.op (.mv (.t 5))), none⟩, ⟨24, (.op (.lenS (.t 23))), none⟩, ⟨25, (.op (.bin .sub (.t 22) (.t 24))), none⟩, ⟨7, (.op (.mv (.t 25))), none⟩] [21, 22, 23, 24, 25])
  (.seq (.reg none [⟨26, (.op (.mv (.t 7))), none⟩, ⟨27, (.op (.bin .gtr (.t 26) (.k (.int .i64 0)))), none⟩] [26])
  (.cond (.t 27)
    (.reg none [⟨28, (.op (.mv (.t 7))), none⟩, ⟨29, (.callL n_strings_Repeat [.k (.str [48]), .t 28]), none⟩, ⟨30, (.op (.mv (.t 5))), none⟩, ⟨31, (.op (.bin .add (.t 29) (.t 30))), none⟩, ⟨5, (.op (.mv (.t 31))), none⟩] [7, 27, 28, 29, 30, 31])
    .skip)))
  (.seq (.reg (some 15) [⟨32, (.op (.mv (.t 5))), none⟩, ⟨33, (.op (.mv (.t 5))), none⟩, ⟨34, (.op (.lenS (.t 33))), none⟩, ⟨35, (.op (.mv (.t 1))), none⟩, ⟨36, (.op (.bin .sub (.t 34) (.t 35))), none⟩, ⟨37, (.op (.subStr (.t 32) none (some (.t 36)))), none⟩, ⟨38, (.op (.bin .add (.t 37) (.k (.str [46])))), none⟩, ⟨39, (.op (.mv (.t 5))), none⟩, ⟨40, (.op (.mv (.t 5))), none⟩, ⟨41, (.op (.lenS (.t 40))), none⟩, ⟨42, (.op (.mv (.t 1))), none⟩, ⟨43, (.op (.bin .sub (.t 41) (.t 42))), none⟩, ⟨44, (.op (.subStr (.t 39) (some (.t 43)) none)), none⟩, ⟨45, (.op (.bin .add (.t 38) (.t 44))), none⟩, ⟨8, (.op (.mv (.t 45))), none⟩] [1, 5, 7, 27, 32, 33, 34, 35, 36, 37, 38, 39, 40, 41, 42, 43, 44, 45])
  (.seq (.seq (.reg none [⟨46, (.op (.mv (.t 6))), none⟩] [6])
  (.cond (.t 46)
    (.seq (.reg none [⟨47, (.op (.mv (.t 8))), none⟩, ⟨48, (.op (.bin .add (.k (.str [45])) (.t 47))), none⟩, ⟨4, (.op (.mv (.t 48))), none⟩] [8, 46, 47, 48])
    .ret)
    .skip))
  (.seq (.reg none [⟨49, (.op (.mv (.t 8))), none⟩, ⟨4, (.op (.mv (.t 49))), none⟩] [8, 46, 49])
  .ret))))))))
theorem k_numtext_FormatFixed : fnOk Tryd.prog Tryd.f60 c_numtext_FormatFixed 50 2 [.t 4] = true := by kernel_rfl
theorem u_numtext_FormatFixed : Tryd.prog.funcs[n_numtext_FormatFixed]? = some Tryd.f60 := Tryd.func60
/-- guerdon/guerdonref07.Format -/
def c_ref07_Format : FC :=
  (.seq (.reg none [⟨2, (.op (.mv (.k (.str [])))), none⟩] [2])
  (.seq (.seq (.reg none [⟨4, (.op (.mv (.t 0))), none⟩, ⟨5, (.callL n_ref07_valid [.t 4]), none⟩, ⟨6, (.op (.un .not (.t 5))), none⟩] [4, 5])
  (.cond (.t 6)
    (.seq (.reg none [⟨2, (.op (.mv (.k (.str [])))), none⟩] [0, 6])
    .ret)
    .skip))
  (.seq (.reg none [⟨7, (.op (.mv (.t 0))), none⟩, ⟨8, (.op (.bin .rem (.t 7) (.k (.int .i64 12)))), none⟩, ⟨9, (.op (.bin .add (.t 8) (.k (.int .i64 1)))), none⟩, ⟨10, (.callL n_ref01_FormatInt [.t 9]), none⟩, ⟨3, (.op (.mvP true (.t 10))), none⟩] [6, 7, 8, 9, 10])
  (.seq (.seq (.reg none [⟨11, (.op (.mv (.t 3))), none⟩, ⟨12, (.op (.lenS (.t 11))), none⟩, ⟨13, (.op (.bin .lss (.t 12) (.k (.int .i64 2)))), none⟩] [11, 12])
  (.cond (.t 13)
    (.reg none [⟨14, (.op (.mv (.t 3))), none⟩, ⟨15, (.op (.bin .add (.k (.str [48])) (.t 14))), none⟩, ⟨3, (.op (.mv (.t 15))), none⟩] [13, 14, 15])
    .skip))
  (.seq (.reg none [⟨16, (.op (.mv (.t 0))), none⟩, ⟨17, (.op (.bin .quo (.t 16) (.k (.int .i64 12)))), none⟩, ⟨18, (.op (.bin .add (.k (.int .i64 1900)) (.t 17))), none⟩, ⟨19, (.callL n_ref01_FormatInt [.t 18]), none⟩, ⟨20, (.op (.bin .add (.t 19) (.k (.str [45])))), none⟩, ⟨21, (.op (.mv (.t 3))), none⟩, ⟨22, (.op (.bin .add (.t 20) (.t 21))), none⟩, ⟨2, (.op (.mv (.t 22))), none⟩] [0, 3, 13, 16, 17, 18, 19, 20, 21, 22])
  .ret)))))
theorem k_ref07_Format : fnOk Tryd.prog Tryd.f61 c_ref07_Format 23 1 [.t 2] = true := by kernel_rfl
theorem u_ref07_Format : Tryd.prog.funcs[n_ref07_Format]? = some Tryd.f61 := Tryd.func61
/-- guerdon/guerdonref01.FormatFixed -/
def c_ref01_FormatFixed : FC :=
  (.seq (.reg none [⟨4, (.op (.mv (.k (.str [])))), none⟩] [4])
  (.seq (.reg none [⟨8, (.op (.mv (.t 1))), none⟩, ⟨9, (.callL n_ref01_clamp [.t 8]), none⟩, ⟨5, (.op (.mvP true (.t 9))), none⟩] [1, 8, 9])
  (.seq (.seq (.reg none [⟨10, (.op (.mv (.t 5))), none⟩, ⟨11, (.op (.bin .eql (.t 10) (.k (.int .i64 0)))), none⟩] [10])
  (.cond (.t 11)
    (.seq (.reg none [⟨12, (.op (.mv (.t 0))), none⟩, ⟨13, (.callL n_ref01_FormatInt [.t 12]), none⟩, ⟨4, (.op (.mvP true (.t 13))), none⟩] [0, 5, 11, 12, 13])
    .ret)
    .skip))
  (.seq (.reg none [⟨15, (.op (.mv (.t 0))), none⟩, ⟨16, (.callL n_ref01_FormatInt [.t 15]), none⟩, ⟨17, (.callL n_ref01_sign [.t 16]), none⟩, ⟨14, (.op (.mvP true (.t 17))), none⟩, ⟨18, (.op (.extract 14 0)), none⟩, ⟨19, (.op (.extract 14 1)), none⟩, ⟨6, (.op (.mvP true (.t 18))), none⟩, ⟨7, (.op (.mvP true (.t 19))), none⟩] [0, 11, 14, 15, 16, 17, 18, 19])
  (.seq (.block 0 (.loop (.seq (.seq (.reg none [⟨20, (.op (.mv (.t 6))), none⟩, ⟨21, (.op (.lenS (.t 20))), none⟩, ⟨22, (.op (.mv (.t 5))), none⟩, ⟨23, (.op (.bin .leq (.t 21) (.t 22))), none⟩] [20, 21, 22])
      (.cond (.t 23)
        .skip
        (.exit 0)))
      (.block 1 (.reg none [⟨24, (.op (.mv (.t 6))), none⟩, ⟨25, (.op (.bin .add (.k (.str [48])) (.t 24))), none⟩, ⟨6, (.op (.mv (.t 25))), none⟩] [23, 24, 25])))))
  (.seq (.reg (some 14) [⟨26, (.op (.mv (.t 6))), none⟩, ⟨27, (.op (.mv (.t 6))), none⟩, ⟨28, (.op (.lenS (.t 27))), none⟩, ⟨29, (.op (.mv (.t 5))), none⟩, ⟨30, (.op (.bin .sub (.t 28) (.t 29))), none⟩, ⟨31, (.op (.subStr (.t 26) none (some (.t 30)))), none⟩, ⟨32, (.op (.bin .add (.t 31) (.k (.str [46])))), none⟩, ⟨33, (.op (.mv (.t 6))), none⟩, ⟨34, (.op (.mv (.t 6))), none⟩, ⟨35, (.op (.lenS (.t 34))), none⟩, ⟨36, (.op (.mv (.t 5))), none⟩, ⟨37, (.op (.bin .sub (.t 35) (.t 36))), none⟩, ⟨38, (.op (.subStr (.t 33) (some (.t 37)) none)), none⟩, ⟨39, (.op (.bin .add (.t 32) (.t 38))), none⟩, ⟨6, (.op (.mv (.t 39))), none⟩] [5, 23, 26, 27, 28, 29, 30, 31, 32, 33, 34, 35, 36, 37, 38, 39])
  (.seq (.seq (.reg none [⟨40, (.op (.mv (.t 7))), none⟩] [7])
  (.cond (.t 40)
    (.reg none [⟨41, (.op (.mv (.t 6))), none⟩, ⟨42, (.op (.bin .add (.k (.str [45])) (.t 41))), none⟩, ⟨6, (.op (.mv (.t 42))), none⟩] [40, 41, 42])
    .skip))
  (.seq (.reg none [⟨43, (.op (.mv (.t 6))), none⟩, ⟨4, (.op (.mv (.t 43))), none⟩] [6, 40, 43])
  .ret))))))))
theorem k_ref01_FormatFixed : fnOk Tryd.prog Tryd.f62 c_ref01_FormatFixed 44 2 [.t 4] = true := by kernel_rfl
theorem u_ref01_FormatFixed : Tryd.prog.funcs[n_ref01_FormatFixed]? = some Tryd.f62 := Tryd.func62
/-- guerdon/value.ValidType -/
def c_value_ValidType : FC :=
  (.seq (.reg none [⟨2, (.op (.box (.t 0))), none⟩, ⟨4, (.op (.mv (.k (.bool false)))), none⟩] [0, 4])
  (.seq (.seq (.reg none [⟨5, (.op (.fa (.t 2) 0)), none⟩, ⟨6, (.op (.load (.t 5) 1 false)), none⟩] [5])
  (.block 0 (.seq (.seq (.reg none [⟨8, (.op (.bin .eql (.t 6) (.k (.int .i64 1)))), none⟩, ⟨7, (.op (.mv (.t 8))), none⟩] [8])
    (.cond (.t 7)
      .skip
      (.seq (.reg none [⟨9, (.op (.bin .eql (.t 6) (.k (.int .i64 2)))), none⟩, ⟨7, (.op (.mv (.t 9))), none⟩] [9])
      (.cond (.t 7)
        .skip
        (.seq (.reg none [⟨10, (.op (.bin .eql (.t 6) (.k (.int .i64 3)))), none⟩, ⟨7, (.op (.mv (.t 10))), none⟩] [10])
        (.cond (.t 7)
          .skip
          (.seq (.reg none [⟨11, (.op (.bin .eql (.t 6) (.k (.int .i64 4)))), none⟩, ⟨7, (.op (.mv (.t 11))), none⟩] [11])
          (.cond (.t 7)
            .skip
            (.reg none [⟨12, (.op (.bin .eql (.t 6) (.k (.int .i64 5)))), none⟩, ⟨7, (.op (.mv (.t 12))), none⟩] [12])))))))))
    (.cond (.t 7)
      (.seq (.reg none [⟨13, (.op (.fa (.t 2) 1)), none⟩, ⟨14, (.op (.load (.t 13) 1 false)), none⟩, ⟨15, (.op (.bin .eql (.t 14) (.k (.int .i64 0)))), none⟩, ⟨4, (.op (.mv (.t 15))), none⟩] [1, 2, 6, 7, 13, 14, 15])
      .ret)
      (.seq (.reg none [⟨17, (.op (.bin .eql (.t 6) (.k (.int .i64 6)))), none⟩, ⟨16, (.op (.mv (.t 17))), none⟩] [6, 7, 17])
      (.cond (.t 16)
        (.seq (.reg none [⟨18, (.op (.fa (.t 2) 1)), none⟩, ⟨19, (.op (.load (.t 18) 1 false)), none⟩, ⟨20, (.op (.bin .geq (.t 19) (.k (.int .i64 0)))), none⟩, ⟨21, (.op (.mv (.t 20))), none⟩, ⟨22, (.op (.fa (.t 2) 1)), some (21, true)⟩, ⟨23, (.op (.load (.t 22) 1 false)), some (21, true)⟩, ⟨24, (.op (.mv (.t 1))), some (21, true)⟩, ⟨25, (.op (.len (.t 24))), some (21, true)⟩, ⟨26, (.op (.bin .lss (.t 23) (.t 25))), some (21, true)⟩, ⟨27, (.op (.pick (.t 21) (.t 26) (.k (.bool false)))), none⟩, ⟨4, (.op (.mv (.t 27))), none⟩] [1, 2, 16, 18, 19, 20, 21, 22, 23, 24, 25, 26, 27])
        .ret)
        .skip))))))
  (.seq (.reg none [⟨4, (.op (.mv (.k (.bool false)))), none⟩] [1, 2, 16])
  .ret)))
theorem k_value_ValidType : fnOk Tryd.prog Tryd.f63 c_value_ValidType 28 2 [.t 4] = true := by kernel_rfl
theorem u_value_ValidType : Tryd.prog.funcs[n_value_ValidType]? = some Tryd.f63 := Tryd.func63
/-- guerdon/value.typeOf -/
def c_value_typeOf : FC :=
  (.seq (.reg none [⟨1, (.op (.box (.t 0))), none⟩, ⟨2, (.op (.alloc [(.int .i64 0), (.int .i64 0)])), none⟩] [0])
  (.seq (.reg none [⟨3, (.op (.fa (.t 1) 0)), none⟩, ⟨4, (.op (.load (.t 3) 1 false)), none⟩, ⟨5, (.op (.fa (.t 1) 1)), none⟩, ⟨6, (.op (.load (.t 5) 1 false)), none⟩, ⟨7, (.op (.build [(.int .i64 0), (.int .i64 0)] [(0, 1), (1, 1)] [.t 4, .t 6])), none⟩, ⟨0, (.op (.store (.t 2) (.t 7) 2 true)), none⟩] [1, 3, 4, 5, 6, 7])
  .ret))
theorem k_value_typeOf : fnOk Tryd.prog Tryd.f64 c_value_typeOf 8 1 [.c 2 2 true] = true := by kernel_rfl
theorem u_value_typeOf : Tryd.prog.funcs[n_value_typeOf]? = some Tryd.f64 := Tryd.func64
/-- guerdon/value.Valid -/
def c_value_Valid : FC :=
  (.seq (.reg none [⟨2, (.op (.box (.t 0))), none⟩, ⟨4, (.op (.mv (.k (.bool false)))), none⟩] [0, 4])
  (.seq (.reg (some 6) [⟨5, (.op (.fa (.t 2) 2)), none⟩, ⟨6, (.op (.load (.t 5) 1 false)), none⟩, ⟨7, (.op (.load (.t 2) 3 true)), none⟩, ⟨8, (.callL n_value_typeOf [.t 7]), none⟩, ⟨9, (.op (.mv (.t 1))), none⟩, ⟨10, (.callL n_value_within [.t 6, .t 8, .t 9]), none⟩, ⟨4, (.op (.mvP true (.t 10))), none⟩] [1, 2, 5, 6, 7, 8, 9, 10])
  .ret))
theorem k_value_Valid : fnOk Tryd.prog Tryd.f65 c_value_Valid 11 2 [.t 4] = true := by kernel_rfl
theorem u_value_Valid : Tryd.prog.funcs[n_value_Valid]? = some Tryd.f65 := Tryd.func65
/-- guerdon/date.Format -/
def c_date_Format : FC :=
  (.seq (.reg none [⟨2, (.op (.mv (.k (.str [])))), none⟩] [2])
  (.seq (.seq (.reg none [⟨6, (.op (.mv (.t 0))), none⟩, ⟨7, (.callL n_date_valid [.t 6]), none⟩, ⟨8, (.op (.un .not (.t 7))), none⟩] [6, 7])
  (.cond (.t 8)
    (.seq (.reg none [⟨2, (.op (.mv (.k (.str [])))), none⟩] [0, 8])
    .ret)
    .skip))
  (.seq (.reg none [⟨10, (.op (.mv (.t 0))), none⟩, ⟨11, (.callL n_date_ToYMD [.t 10]), none⟩, ⟨9, (.op (.mvP true (.t 11))), none⟩, ⟨12, (.op (.extract 9 0)), none⟩, ⟨13, (.op (.extract 9 1)), none⟩, ⟨14, (.op (.extract 9 2)), none⟩, ⟨3, (.op (.mvP true (.t 12))), none⟩, ⟨4, (.op (.mvP true (.t 13))), none⟩, ⟨5, (.op (.mvP true (.t 14))), none⟩] [0, 8, 9, 10, 11, 12, 13, 14])
  (.seq (.reg none [⟨15, (.op (.mv (.t 3))), none⟩, ⟨16, (.callL n_date_pad [.t 15, .k (.int .i64 4)]), none⟩, ⟨17, (.op (.bin .add (.t 16) (.k (.str [45])))), none⟩, ⟨18, (.op (.mv (.t 4))), none⟩, ⟨19, (.callL n_date_pad [.t 18, .k (.int .i64 2)]), none⟩, ⟨20, (.op (.bin .add (.t 17) (.t 19))), none⟩, ⟨21, (.op (.bin .add (.t 20) (.k (.str [45])))), none⟩, ⟨22, (.op (.mv (.t 5))), none⟩, ⟨23, (.callL n_date_pad [.t 22, .k (.int .i64 2)]), none⟩, ⟨24, (.op (.bin .add (.t 21) (.t 23))), none⟩, ⟨2, (.op (.mv (.t 24))), none⟩] [3, 4, 5, 15, 16, 17, 18, 19, 20, 21, 22, 23, 24])
  .ret))))
theorem k_date_Format : fnOk Tryd.prog Tryd.f66 c_date_Format 25 1 [.t 2] = true := by kernel_rfl
theorem u_date_Format : Tryd.prog.funcs[n_date_Format]? = some Tryd.f66 := Tryd.func66
/-- guerdon/guerdonref09.Format -/
def c_ref09_Format : FC :=
  (.seq (.reg none [⟨2, (.op (.box (.t 0))), none⟩, ⟨4, (.op (.mv (.k (.str [])))), none⟩, ⟨5, (.op (.mv (.k (.int .i64 0)))), none⟩] [0, 4, 5])
  (.seq (.seq (.reg none [⟨6, (.op (.load (.t 2) 3 true)), none⟩, ⟨7, (.callL n_ref09_Type [.t 6]), none⟩, ⟨8, (.op (.mv (.t 1))), none⟩, ⟨9, (.callL n_ref09_ValidType [.t 7, .t 8]), none⟩, ⟨10, (.op (.un .not (.t 9))), none⟩] [6, 7, 8, 9])
  (.cond (.t 10)
    (.seq (.reg none [⟨4, (.op (.mv (.k (.str [])))), none⟩, ⟨5, (.op (.mv (.k (.int .i64 8)))), none⟩] [1, 2, 10])
    .ret)
    .skip))
  (.seq (.seq (.reg none [⟨11, (.op (.load (.t 2) 3 true)), none⟩, ⟨12, (.op (.mv (.t 1))), none⟩, ⟨13, (.callL n_ref09_Valid [.t 11, .t 12]), none⟩, ⟨14, (.op (.un .not (.t 13))), none⟩] [10, 11, 12, 13])
  (.cond (.t 14)
    (.seq (.reg none [⟨4, (.op (.mv (.k (.str [])))), none⟩, ⟨5, (.op (.mv (.k (.int .i64 3)))), none⟩] [1, 2, 14])
    .ret)
    .skip))
  (.seq (.seq (.reg none [⟨15, (.op (.fa (.t 2) 0)), none⟩, ⟨16, (.op (.load (.t 15) 1 false)), none⟩] [14, 15])
  (.block 0 (.seq (.reg none [⟨18, (.op (.bin .eql (.t 16) (.k (.int .i64 1)))), none⟩, ⟨17, (.op (.mv (.t 18))), none⟩] [18])
    (.cond (.t 17)
      (.seq (.seq (.reg none [⟨19, (.op (.fa (.t 2) 2)), none⟩, ⟨20, (.op (.load (.t 19) 1 false)), none⟩, ⟨21, (.op (.bin .eql (.t 20) (.k (.int .i64 0)))), none⟩] [1, 2, 16, 17, 19, 20])
      (.cond (.t 21)
        (.seq (.reg none [⟨4, (.op (.mv (.k (.str [102, 97, 108, 115, 101])))), none⟩, ⟨5, (.op (.mv (.k (.int .i64 0)))), none⟩] [21])
        .ret)
        .skip))
      (.seq (.reg none [⟨4, (.op (.mv (.k (.str [116, 114, 117, 101])))), none⟩, ⟨5, (.op (.mv (.k (.int .i64 0)))), none⟩] [21])
      .ret))
      (.seq (.reg none [⟨23, (.op (.bin .eql (.t 16) (.k (.int .i64 2)))), none⟩, ⟨22, (.op (.mv (.t 23))), none⟩] [17, 23])
      (.cond (.t 22)
        (.seq (.reg none [⟨24, (.op (.fa (.t 2) 2)), none⟩, ⟨25, (.op (.load (.t 24) 1 false)), none⟩, ⟨26, (.callL n_ref01_FormatInt [.t 25]), none⟩, ⟨4, (.op (.mvP true (.t 26))), none⟩, ⟨5, (.op (.mv (.k (.int .i64 0)))), none⟩] [1, 2, 16, 22, 24, 25, 26])
        .ret)
        (.seq (.reg none [⟨28, (.op (.bin .eql (.t 16) (.k (.int .i64 3)))), none⟩, ⟨27, (.op (.mv (.t 28))), none⟩] [22, 28])
        (.cond (.t 27)
          (.seq (.reg none [⟨29, (.op (.fa (.t 2) 2)), none⟩, ⟨30, (.op (.load (.t 29) 1 false)), none⟩, ⟨31, (.callL n_ref01_FormatFixed [.t 30, .k (.int .i64 2)]), none⟩, ⟨4, (.op (.mvP true (.t 31))), none⟩, ⟨5, (.op (.mv (.k (.int .i64 0)))), none⟩] [1, 2, 16, 27, 29, 30, 31])
          .ret)
          (.seq (.reg none [⟨33, (.op (.bin .eql (.t 16) (.k (.int .i64 4)))), none⟩, ⟨32, (.op (.mv (.t 33))), none⟩] [27, 33])
          (.cond (.t 32)
            (.seq (.reg none [⟨34, (.op (.fa (.t 2) 2)), none⟩, ⟨35, (.op (.load (.t 34) 1 false)), none⟩, ⟨36, (.callL n_ref01_FormatFixed [.t 35, .k (.int .i64 4)]), none⟩, ⟨37, (.op (.bin .add (.t 36) (.k (.str [37])))), none⟩, ⟨4, (.op (.mv (.t 37))), none⟩, ⟨5, (.op (.mv (.k (.int .i64 0)))), none⟩] [1, 2, 16, 32, 34, 35, 36, 37])
            .ret)
            (.seq (.reg none [⟨39, (.op (.bin .eql (.t 16) (.k (.int .i64 5)))), none⟩, ⟨38, (.op (.mv (.t 39))), none⟩] [16, 32, 39])
            (.cond (.t 38)
              (.seq (.reg none [⟨40, (.op (.fa (.t 2) 2)), none⟩, ⟨41, (.op (.load (.t 40) 1 false)), none⟩, ⟨42, (.callL n_ref04_Format [.t 41]), none⟩, ⟨4, (.op (.mvP true (.t 42))), none⟩, ⟨5, (.op (.mv (.k (.int .i64 0)))), none⟩] [1, 2, 38, 40, 41, 42])
              .ret)
              .skip))))))))))))
  (.seq (.reg (some 12) [⟨43, (.op (.mv (.t 1))), none⟩, ⟨44, (.op (.fa (.t 2) 1)), none⟩, ⟨45, (.op (.load (.t 44) 1 false)), none⟩, ⟨46, (.op (.ia (.t 43) (.t 45) 2)), none⟩, ⟨47, (.op (.fa (.t 46) 1)), none⟩, ⟨48, (.op (.load (.t 47) 1 false)), none⟩, ⟨49, (.op (.fa (.t 2) 2)), none⟩, ⟨50, (.op (.load (.t 49) 1 false)), none⟩, ⟨51, (.op (.ia (.t 48) (.t 50) 1)), none⟩, ⟨52, (.op (.load (.t 51) 1 false)), none⟩, ⟨4, (.op (.mv (.t 52))), none⟩, ⟨5, (.op (.mv (.k (.int .i64 0)))), none⟩] [1, 2, 38, 43, 44, 45, 46, 47, 48, 49, 50, 51, 52])
  .ret)))))
theorem k_ref09_Format : fnOk Tryd.prog Tryd.f67 c_ref09_Format 53 2 [.t 4, .t 5] = true := by kernel_rfl
theorem u_ref09_Format : Tryd.prog.funcs[n_ref09_Format]? = some Tryd.f67 := Tryd.func67
/-- guerdon/month.valid -/
def c_month_valid : FC :=
  (.seq (.reg none [⟨2, (.op (.mv (.k (.bool false)))), none⟩] [2])
  (.seq (.reg none [⟨3, (.op (.mv (.t 0))), none⟩, ⟨4, (.op (.bin .geq (.t 3) (.k (.int .i64 0)))), none⟩, ⟨5, (.op (.mv (.t 4))), none⟩, ⟨6, (.op (.mv (.t 0))), some (5, true)⟩, ⟨7, (.op (.bin .leq (.t 6) (.k (.int .i64 3599)))), some (5, true)⟩, ⟨8, (.op (.pick (.t 5) (.t 7) (.k (.bool false)))), none⟩, ⟨2, (.op (.mv (.t 8))), none⟩] [0, 3, 4, 5, 6, 7, 8])
  .ret))
theorem k_month_valid : fnOk Tryd.prog Tryd.f71 c_month_valid 9 1 [.t 2] = true := by kernel_rfl
theorem u_month_valid : Tryd.prog.funcs[n_month_valid]? = some Tryd.f71 := Tryd.func71
/-- guerdon/numtext.clamp -/
def c_numtext_clamp : FC :=
  (.seq (.reg none [⟨2, (.op (.mv (.k (.int .i64 0)))), none⟩] [2])
  (.seq (.reg none [⟨3, (.op (.mv (.t 0))), none⟩, ⟨4, (.op (.mm false (.t 3) (.k (.int .i64 9)))), none⟩, ⟨5, (.op (.mm true (.k (.int .i64 0)) (.t 4))), none⟩, ⟨2, (.op (.mvP true (.t 5))), none⟩] [0, 3, 4, 5])
  .ret))
theorem k_numtext_clamp : fnOk Tryd.prog Tryd.f72 c_numtext_clamp 6 1 [.t 2] = true := by kernel_rfl
theorem u_numtext_clamp : Tryd.prog.funcs[n_numtext_clamp]? = some Tryd.f72 := Tryd.func72
/-- guerdon/guerdonref07.valid -/
def c_ref07_valid : FC :=
  (.seq (.reg none [⟨2, (.op (.mv (.k (.bool false)))), none⟩] [2])
  (.seq (.reg none [⟨3, (.op (.mv (.t 0))), none⟩, ⟨4, (.op (.bin .geq (.t 3) (.k (.int .i64 0)))), none⟩, ⟨5, (.op (.mv (.t 4))), none⟩, ⟨6, (.op (.mv (.t 0))), some (5, true)⟩, ⟨7, (.op (.bin .leq (.t 6) (.k (.int .i64 3599)))), some (5, true)⟩, ⟨8, (.op (.pick (.t 5) (.t 7) (.k (.bool false)))), none⟩, ⟨2, (.op (.mv (.t 8))), none⟩] [0, 3, 4, 5, 6, 7, 8])
  .ret))
theorem k_ref07_valid : fnOk Tryd.prog Tryd.f75 c_ref07_valid 9 1 [.t 2] = true := by kernel_rfl
theorem u_ref07_valid : Tryd.prog.funcs[n_ref07_valid]? = some Tryd.f75 := Tryd.func75
/-- guerdon/value.within -/
def c_value_within : FC :=
  (.seq (.reg none [⟨4, (.op (.box (.t 1))), none⟩, ⟨6, (.op (.mv (.k (.bool false)))), none⟩] [1, 6])
  (.seq (.reg none [⟨10, (.op (.load (.t 4) 2 true)), none⟩, ⟨11, (.op (.mv (.t 2))), none⟩, ⟨12, (.callL n_value_Bounds [.t 10, .t 11]), none⟩, ⟨9, (.op (.mvP true (.t 12))), none⟩, ⟨13, (.op (.extract 9 0)), none⟩, ⟨14, (.op (.extract 9 1)), none⟩, ⟨7, (.op (.mvP true (.t 13))), none⟩, ⟨8, (.op (.mvP true (.t 14))), none⟩] [2, 4, 9, 10, 11, 12, 13, 14])
  (.seq (.reg none [⟨15, (.op (.mv (.t 7))), none⟩, ⟨16, (.op (.mv (.t 0))), none⟩, ⟨17, (.op (.bin .leq (.t 15) (.t 16))), none⟩, ⟨18, (.op (.mv (.t 17))), none⟩, ⟨19, (.op (.mv (.t 0))), some (18, true)⟩, ⟨20, (.op (.mv (.t 8))), some (18, true)⟩, ⟨21, (.op (.bin .leq (.t 19) (.t 20))), some (18, true)⟩, ⟨22, (.op (.pick (.t 18) (.t 21) (.k (.bool false)))), none⟩, ⟨6, (.op (.mv (.t 22))), none⟩] [0, 7, 8, 15, 16, 17, 18, 19, 20, 21, 22])
  .ret)))
theorem k_value_within : fnOk Tryd.prog Tryd.f76 c_value_within 23 3 [.t 6] = true := by kernel_rfl
theorem u_value_within : Tryd.prog.funcs[n_value_within]? = some Tryd.f76 := Tryd.func76
/-- guerdon/date.valid -/
def c_date_valid : FC :=
  (.seq (.reg none [⟨2, (.op (.mv (.k (.bool false)))), none⟩] [2])
  (.seq (.reg none [⟨3, (.op (.mv (.t 0))), none⟩, ⟨4, (.op (.bin .geq (.t 3) (.k (.int .i64 0)))), none⟩, ⟨5, (.op (.mv (.t 4))), none⟩, ⟨6, (.op (.mv (.t 0))), some (5, true)⟩, ⟨7, (.op (.bin .leq (.t 6) (.k (.int .i64 109572)))), some (5, true)⟩, ⟨8, (.op (.pick (.t 5) (.t 7) (.k (.bool false)))), none⟩, ⟨2, (.op (.mv (.t 8))), none⟩] [0, 3, 4, 5, 6, 7, 8])
  .ret))
theorem k_date_valid : fnOk Tryd.prog Tryd.f77 c_date_valid 9 1 [.t 2] = true := by kernel_rfl
theorem u_date_valid : Tryd.prog.funcs[n_date_valid]? = some Tryd.f77 := Tryd.func77
/-- guerdon/date.ToYMD -/
def c_date_ToYMD : FC :=
  (.seq (.reg none [⟨2, (.op (.mv (.k (.int .i64 0)))), none⟩, ⟨3, (.op (.mv (.k (.int .i64 0)))), none⟩, ⟨4, (.op (.mv (.k (.int .i64 0)))), none⟩] [2, 3, 4])
  (.seq (.seq (.reg none [⟨7, (.op (.mv (.t 0))), none⟩, ⟨8, (.callL n_date_valid [.t 7]), none⟩, ⟨9, (.op (.un .not (.t 8))), none⟩] [7, 8])
  (.cond (.t 9)
    (.seq (.reg none [⟨2, (.op (.mv (.k (.int .i64 0)))), none⟩, ⟨3, (.op (.mv (.k (.int .i64 0)))), none⟩, ⟨4, (.op (.mv (.k (.int .i64 0)))), none⟩] [0, 9])
    .ret)
    .skip))
  (.seq (.reg none [⟨5, (.op (.mv (.k (.int .i64 1900)))), none⟩, ⟨6, (.op (.mv (.k (.int .i64 1)))), none⟩] [9])
  (.seq (.block 0 (.loop (.seq (.seq (.reg none [⟨10, (.op (.mv (.t 0))), none⟩, ⟨11, (.op (.mv (.t 5))), none⟩, ⟨12, (.callL n_date_daysInYear [.t 11]), none⟩, ⟨13, (.op (.bin .geq (.t 10) (.t 12))), none⟩] [10, 11, 12])
      (.cond (.t 13)
        .skip
        (.exit 0)))
      (.block 1 (.seq (.reg none [⟨14, (.op (.mv (.t 0))), none⟩, ⟨15, (.op (.mv (.t 5))), none⟩, ⟨16, (.callL n_date_daysInYear [.t 15]), none⟩, ⟨17, (.op (.bin .sub (.t 14) (.t 16))), none⟩, ⟨0, (.op (.mv (.t 17))), none⟩] [13, 14, 15, 16, 17])
        (.reg none [⟨18, (.op (.mv (.t 5))), none⟩, ⟨19, (.op (.bin .add (.t 18) (.k (.int .i64 1)))), none⟩, ⟨5, (.op (.mv (.t 19))), none⟩] [18, 19]))))))
  (.seq (.block 2 (.loop (.seq (.seq (.reg none [⟨20, (.op (.mv (.t 0))), none⟩, ⟨21, (.op (.mv (.t 5))), none⟩, ⟨22, (.op (.mv (.t 6))), none⟩, ⟨23, (.callL n_date_DaysInMonth [.t 21, .t 22]), none⟩, ⟨24, (.op (.bin .geq (.t 20) (.t 23))), none⟩] [13, 20, 21, 22, 23])
      (.cond (.t 24)
        .skip
        (.exit 2)))
      (.block 3 (.seq (.reg none [⟨25, (.op (.mv (.t 0))), none⟩, ⟨26, (.op (.mv (.t 5))), none⟩, ⟨27, (.op (.mv (.t 6))), none⟩, ⟨28, (.callL n_date_DaysInMonth [.t 26, .t 27]), none⟩, ⟨29, (.op (.bin .sub (.t 25) (.t 28))), none⟩, ⟨0, (.op (.mv (.t 29))), none⟩] [24, 25, 26, 27, 28, 29])
        (.reg none [⟨30, (.op (.mv (.t 6))), none⟩, ⟨31, (.op (.bin .add (.t 30) (.k (.int .i64 1)))), none⟩, ⟨6, (.op (.mv (.t 31))), none⟩] [30, 31]))))))
  (.seq (.reg none [⟨32, (.op (.mv (.t 5))), none⟩, ⟨33, (.op (.mv (.t 6))), none⟩, ⟨34, (.op (.mv (.t 0))), none⟩, ⟨35, (.op (.bin .add (.t 34) (.k (.int .i64 1)))), none⟩, ⟨2, (.op (.mv (.t 32))), none⟩, ⟨3, (.op (.mv (.t 33))), none⟩, ⟨4, (.op (.mv (.t 35))), none⟩] [0, 5, 6, 24, 32, 33, 34, 35])
  .ret))))))
theorem k_date_ToYMD : fnOk Tryd.prog Tryd.f78 c_date_ToYMD 36 1 [.t 2, .t 3, .t 4] = true := by kernel_rfl
theorem u_date_ToYMD : Tryd.prog.funcs[n_date_ToYMD]? = some Tryd.f78 := Tryd.func78
/-- guerdon/date.pad -/
def c_date_pad : FC :=
  (.seq (.reg none [⟨4, (.op (.mv (.k (.str [])))), none⟩] [4])
  (.seq (.reg none [⟨6, (.op (.mv (.t 0))), none⟩, ⟨7, (.callL n_numtext_FormatInt [.t 6]), none⟩, ⟨5, (.op (.mvP true (.t 7))), none⟩] [0, 6, 7])
  (.seq (.reg none [⟨8, (.op (.mv (.t 1))), none⟩, ⟨9, (.op (.mv (.t 5))), none⟩, ⟨10, (.op (.lenS (.t 9))), none⟩, ⟨11, (.op (.bin .sub (.t 8) (.t 10))), none⟩, ⟨12, (.op (.mm true (.k (.int .i64 0)) (.t 11))), none⟩, ⟨13, (.callL n_strings_Repeat [.k (.str [48]), .t 12]), none⟩, ⟨14, (.op (.mv (.t 5))), none⟩, ⟨15, (.op (.bin .add (.t 13) (.t 14))), none⟩, ⟨4, (.op (.mv (.t 15))), none⟩] [1, 5, 8, 9, 10, 11, 12, 13, 14, 15])
  .ret)))
theorem k_date_pad : fnOk Tryd.prog Tryd.f79 c_date_pad 16 2 [.t 4] = true := by kernel_rfl
theorem u_date_pad : Tryd.prog.funcs[n_date_pad]? = some Tryd.f79 := Tryd.func79
/-- guerdon/guerdonref09.ValidType -/
def c_ref09_ValidType : FC :=
  (.seq (.reg none [⟨2, (.op (.box (.t 0))), none⟩, ⟨4, (.op (.mv (.k (.bool false)))), none⟩] [0, 4])
  (.seq (.seq (.reg none [⟨5, (.op (.fa (.t 2) 0)), none⟩, ⟨6, (.op (.load (.t 5) 1 false)), none⟩, ⟨7, (.op (.bin .eql (.t 6) (.k (.int .i64 6)))), none⟩] [5, 6])
  (.cond (.t 7)
    (.seq (.reg none [⟨8, (.op (.fa (.t 2) 1)), none⟩, ⟨9, (.op (.load (.t 8) 1 false)), none⟩, ⟨10, (.op (.bin .geq (.t 9) (.k (.int .i64 0)))), none⟩, ⟨11, (.op (.mv (.t 10))), none⟩, ⟨12, (.op (.fa (.t 2) 1)), some (11, true)⟩, ⟨13, (.op (.load (.t 12) 1 false)), some (11, true)⟩, ⟨14, (.op (.mv (.t 1))), some (11, true)⟩, ⟨15, (.op (.len (.t 14))), some (11, true)⟩, ⟨16, (.op (.bin .lss (.t 13) (.t 15))), some (11, true)⟩, ⟨17, (.op (.pick (.t 11) (.t 16) (.k (.bool false)))), none⟩, ⟨4, (.op (.mv (.t 17))), none⟩] [1, 2, 7, 8, 9, 10, 11, 12, 13, 14, 15, 16, 17])
    .ret)
    .skip))
  (.seq (.reg none [⟨18, (.op (.fa (.t 2) 0)), none⟩, ⟨19, (.op (.load (.t 18) 1 false)), none⟩, ⟨20, (.op (.bin .geq (.t 19) (.k (.int .i64 1)))), none⟩, ⟨21, (.op (.mv (.t 20))), none⟩, ⟨22, (.op (.fa (.t 2) 0)), some (21, true)⟩, ⟨23, (.op (.load (.t 22) 1 false)), some (21, true)⟩, ⟨24, (.op (.bin .leq (.t 23) (.k (.int .i64 5)))), some (21, true)⟩, ⟨25, (.op (.pick (.t 21) (.t 24) (.k (.bool false)))), none⟩, ⟨26, (.op (.mv (.t 25))), none⟩, ⟨27, (.op (.fa (.t 2) 1)), some (26, true)⟩, ⟨28, (.op (.load (.t 27) 1 false)), some (26, true)⟩, ⟨29, (.op (.bin .eql (.t 28) (.k (.int .i64 0)))), some (26, true)⟩, ⟨30, (.op (.pick (.t 26) (.t 29) (.k (.bool false)))), none⟩, ⟨4, (.op (.mv (.t 30))), none⟩] [1, 2, 7, 18, 19, 20, 21, 22, 23, 24, 25, 26, 27, 28, 29, 30])
  .ret)))
theorem k_ref09_ValidType : fnOk Tryd.prog Tryd.f80 c_ref09_ValidType 31 2 [.t 4] = true := by kernel_rfl
theorem u_ref09_ValidType : Tryd.prog.funcs[n_ref09_ValidType]? = some Tryd.f80 := Tryd.func80
/-- guerdon/guerdonref09.Type -/
def c_ref09_Type : FC :=
  (.seq (.reg none [⟨1, (.op (.box (.t 0))), none⟩, ⟨2, (.op (.alloc [(.int .i64 0), (.int .i64 0)])), none⟩] [0])
  (.seq (.reg none [⟨3, (.op (.fa (.t 1) 0)), none⟩, ⟨4, (.op (.load (.t 3) 1 false)), none⟩, ⟨5, (.op (.fa (.t 1) 1)), none⟩, ⟨6, (.op (.load (.t 5) 1 false)), none⟩, ⟨7, (.op (.build [(.int .i64 0), (.int .i64 0)] [(0, 1), (1, 1)] [.t 4, .t 6])), none⟩, ⟨0, (.op (.store (.t 2) (.t 7) 2 true)), none⟩] [1, 3, 4, 5, 6, 7])
  .ret))
theorem k_ref09_Type : fnOk Tryd.prog Tryd.f81 c_ref09_Type 8 1 [.c 2 2 true] = true := by kernel_rfl
theorem u_ref09_Type : Tryd.prog.funcs[n_ref09_Type]? = some Tryd.f81 := Tryd.func81
/-- guerdon/guerdonref09.Valid -/
def c_ref09_Valid : FC :=
  (.seq (.reg none [⟨2, (.op (.box (.t 0))), none⟩, ⟨4, (.op (.mv (.k (.bool false)))), none⟩] [0, 4])
  (.seq (.reg (some 13) [⟨5, (.op (.load (.t 2) 3 true)), none⟩, ⟨6, (.callL n_ref09_Type [.t 5]), none⟩, ⟨7, (.op (.mv (.t 1))), none⟩, ⟨8, (.callL n_ref09_ValidType [.t 6, .t 7]), none⟩, ⟨9, (.op (.mv (.t 8))), none⟩, ⟨10, (.op (.fa (.t 2) 2)), some (9, true)⟩, ⟨11, (.op (.load (.t 10) 1 false)), some (9, true)⟩, ⟨12, (.op (.load (.t 2) 3 true)), some (9, true)⟩, ⟨13, (.callL n_ref09_Type [.t 12]), some (9, true)⟩, ⟨14, (.op (.mv (.t 1))), some (9, true)⟩, ⟨15, (.callL n_ref09_In [.t 11, .t 13, .t 14]), some (9, true)⟩, ⟨16, (.op (.pick (.t 9) (.t 15) (.k (.bool false)))), none⟩, ⟨4, (.op (.mv (.t 16))), none⟩] [1, 2, 5, 6, 7, 8, 9, 10, 11, 12, 13, 14, 15, 16])
  .ret))
theorem k_ref09_Valid : fnOk Tryd.prog Tryd.f82 c_ref09_Valid 17 2 [.t 4] = true := by kernel_rfl
theorem u_ref09_Valid : Tryd.prog.funcs[n_ref09_Valid]? = some Tryd.f82 := Tryd.func82
/-- guerdon/guerdonref04.Format -/
def c_ref04_Format : FC :=
  (.seq (.reg none [⟨2, (.op (.mv (.k (.str [])))), none⟩] [2])
  (.seq (.seq (.reg none [⟨6, (.op (.mv (.t 0))), none⟩, ⟨7, (.callL n_ref04_Valid [.t 6]), none⟩, ⟨8, (.op (.un .not (.t 7))), none⟩] [6, 7])
  (.cond (.t 8)
    (.seq (.reg none [⟨2, (.op (.mv (.k (.str [])))), none⟩] [0, 8])
    .ret)
    .skip))
  (.seq (.reg none [⟨10, (.op (.mv (.t 0))), none⟩, ⟨11, (.callL n_ref04_ToYMD [.t 10]), none⟩, ⟨9, (.op (.mvP true (.t 11))), none⟩, ⟨12, (.op (.extract 9 0)), none⟩, ⟨13, (.op (.extract 9 1)), none⟩, ⟨14, (.op (.extract 9 2)), none⟩, ⟨3, (.op (.mvP true (.t 12))), none⟩, ⟨4, (.op (.mvP true (.t 13))), none⟩, ⟨5, (.op (.mvP true (.t 14))), none⟩] [0, 8, 9, 10, 11, 12, 13, 14])
  (.seq (.reg none [⟨15, (.op (.mv (.t 3))), none⟩, ⟨16, (.callL n_ref04_pad [.t 15, .k (.int .i64 4)]), none⟩, ⟨17, (.op (.bin .add (.t 16) (.k (.str [45])))), none⟩, ⟨18, (.op (.mv (.t 4))), none⟩, ⟨19, (.callL n_ref04_pad [.t 18, .k (.int .i64 2)]), none⟩, ⟨20, (.op (.bin .add (.t 17) (.t 19))), none⟩, ⟨21, (.op (.bin .add (.t 20) (.k (.str [45])))), none⟩, ⟨22, (.op (.mv (.t 5))), none⟩, ⟨23, (.callL n_ref04_pad [.t 22, .k (.int .i64 2)]), none⟩, ⟨24, (.op (.bin .add (.t 21) (.t 23))), none⟩, ⟨2, (.op (.mv (.t 24))), none⟩] [3, 4, 5, 15, 16, 17, 18, 19, 20, 21, 22, 23, 24])
  .ret))))
theorem k_ref04_Format : fnOk Tryd.prog Tryd.f83 c_ref04_Format 25 1 [.t 2] = true := by kernel_rfl
theorem u_ref04_Format : Tryd.prog.funcs[n_ref04_Format]? = some Tryd.f83 := Tryd.func83
/-- guerdon/value.Bounds -/
def c_value_Bounds : FC :=
  (.seq (.reg none [⟨2, (.op (.box (.t 0))), none⟩, ⟨4, (.op (.mv (.k (.int .i64 0)))), none⟩, ⟨5, (.op (.mv (.k (.int .i64 0)))), none⟩] [0, 4, 5])
  (.seq (.seq (.reg none [⟨6, (.op (.load (.t 2) 2 true)), none⟩, ⟨7, (.op (.mv (.t 1))), none⟩, ⟨8, (.callL n_value_ValidType [.t 6, .t 7]), none⟩, ⟨9, (.op (.un .not (.t 8))), none⟩] [6, 7, 8])
  (.cond (.t 9)
    (.seq (.reg none [⟨4, (.op (.mv (.k (.int .i64 0)))), none⟩, ⟨5, (.op (.mv (.k (.int .i64 (-1))))), none⟩] [1, 2, 9])
    .ret)
    .skip))
  (.seq (.seq (.reg none [⟨10, (.op (.fa (.t 2) 0)), none⟩, ⟨11, (.op (.load (.t 10) 1 false)), none⟩] [9, 10])
  (.block 0 (.seq (.reg none [⟨13, (.op (.bin .eql (.t 11) (.k (.int .i64 1)))), none⟩, ⟨12, (.op (.mv (.t 13))), none⟩] [13])
    (.cond (.t 12)
      (.seq (.reg none [⟨4, (.op (.mv (.k (.int .i64 0)))), none⟩, ⟨5, (.op (.mv (.k (.int .i64 1)))), none⟩] [1, 2, 11, 12])
      .ret)
      (.seq (.reg none [⟨15, (.op (.bin .eql (.t 11) (.k (.int .i64 2)))), none⟩, ⟨14, (.op (.mv (.t 15))), none⟩] [12, 15])
      (.cond (.t 14)
        (.seq (.reg none [⟨4, (.op (.mv (.k (.int .i64 (-1000000000000))))), none⟩, ⟨5, (.op (.mv (.k (.int .i64 1000000000000)))), none⟩] [1, 2, 11, 14])
        .ret)
        (.seq (.reg none [⟨17, (.op (.bin .eql (.t 11) (.k (.int .i64 3)))), none⟩, ⟨16, (.op (.mv (.t 17))), none⟩] [14, 17])
        (.cond (.t 16)
          (.seq (.reg none [⟨4, (.op (.mv (.k (.int .i64 (-1000000000000000))))), none⟩, ⟨5, (.op (.mv (.k (.int .i64 1000000000000000)))), none⟩] [1, 2, 11, 16])
          .ret)
          (.seq (.reg none [⟨19, (.op (.bin .eql (.t 11) (.k (.int .i64 4)))), none⟩, ⟨18, (.op (.mv (.t 19))), none⟩] [16, 19])
          (.cond (.t 18)
            (.seq (.reg none [⟨4, (.op (.mv (.k (.int .i64 (-1000000000))))), none⟩, ⟨5, (.op (.mv (.k (.int .i64 1000000000)))), none⟩] [1, 2, 11, 18])
            .ret)
            (.seq (.reg none [⟨21, (.op (.bin .eql (.t 11) (.k (.int .i64 5)))), none⟩, ⟨20, (.op (.mv (.t 21))), none⟩] [11, 18, 21])
            (.cond (.t 20)
              (.seq (.reg none [⟨4, (.op (.mv (.k (.int .i64 0)))), none⟩, ⟨5, (.op (.mv (.k (.int .i64 109572)))), none⟩] [1, 2, 20])
              .ret)
              .skip))))))))))))
  (.seq (.reg (some 10) [⟨22, (.op (.mv (.t 1))), none⟩, ⟨23, (.op (.fa (.t 2) 1)), none⟩, ⟨24, (.op (.load (.t 23) 1 false)), none⟩, ⟨25, (.op (.ia (.t 22) (.t 24) 2)), none⟩, ⟨26, (.op (.fa (.t 25) 1)), none⟩, ⟨27, (.op (.load (.t 26) 1 false)), none⟩, ⟨28, (.op (.len (.t 27))), none⟩, ⟨29, (.op (.bin .sub (.t 28) (.k (.int .i64 1)))), none⟩, ⟨4, (.op (.mv (.k (.int .i64 0)))), none⟩, ⟨5, (.op (.mv (.t 29))), none⟩] [1, 2, 20, 22, 23, 24, 25, 26, 27, 28, 29])
  .ret))))
theorem k_value_Bounds : fnOk Tryd.prog Tryd.f91 c_value_Bounds 30 2 [.t 4, .t 5] = true := by kernel_rfl
theorem u_value_Bounds : Tryd.prog.funcs[n_value_Bounds]? = some Tryd.f91 := Tryd.func91
/-- guerdon/date.daysInYear -/
def c_date_daysInYear : FC :=
  (.seq (.reg none [⟨2, (.op (.mv (.k (.int .i64 0)))), none⟩] [2])
  (.seq (.seq (.reg none [⟨3, (.op (.mv (.t 0))), none⟩, ⟨4, (.callL n_date_IsLeap [.t 3]), none⟩] [0, 3])
  (.cond (.t 4)
    (.seq (.reg none [⟨2, (.op (.mv (.k (.int .i64 366)))), none⟩] [4])
    .ret)
    .skip))
  (.seq (.reg none [⟨2, (.op (.mv (.k (.int .i64 365)))), none⟩] [4])
  .ret)))
theorem k_date_daysInYear : fnOk Tryd.prog Tryd.f92 c_date_daysInYear 5 1 [.t 2] = true := by kernel_rfl
theorem u_date_daysInYear : Tryd.prog.funcs[n_date_daysInYear]? = some Tryd.f92 := Tryd.func92
/-- guerdon/date.DaysInMonth -/
def c_date_DaysInMonth : FC :=
  (.seq (.reg none [⟨4, (.op (.mv (.k (.int .i64 0)))), none⟩] [4])
  (.seq (.reg none [⟨6, (.op (.build [(.int .i64 0), (.int .i64 0), (.int .i64 0), (.int .i64 0), (.int .i64 0), (.int .i64 0), (.int .i64 0), (.int .i64 0), (.int .i64 0), (.int .i64 0), (.int .i64 0), (.int .i64 0), (.int .i64 0)] [(0, 1), (1, 1), (2, 1), (3, 1), (4, 1), (5, 1), (6, 1), (7, 1), (8, 1), (9, 1), (10, 1), (11, 1), (12, 1)] [.k (.int .i64 0), .k (.int .i64 31), .k (.int .i64 28), .k (.int .i64 31), .k (.int .i64 30), .k (.int .i64 31), .k (.int .i64 30), .k (.int .i64 31), .k (.int .i64 31), .k (.int .i64 30), .k (.int .i64 31), .k (.int .i64 30), .k (.int .i64 31)])), none⟩, ⟨5, (.op (.alloc [(.int .i64 0), (.int .i64 0), (.int .i64 0), (.int .i64 0), (.int .i64 0), (.int .i64 0), (.int .i64 0), (.int .i64 0), (.int .i64 0), (.int .i64 0), (.int .i64 0), (.int .i64 0), (.int .i64 0)])), none⟩, ⟨0, (.op (.store (.t 5) (.t 6) 13 true)), none⟩] [6])
  (.seq (.seq (.reg none [⟨7, (.op (.mv (.t 1))), none⟩, ⟨8, (.op (.bin .lss (.t 7) (.k (.int .i64 1)))), none⟩, ⟨9, (.op (.mv (.t 8))), none⟩, ⟨10, (.op (.mv (.t 1))), some (9, false)⟩, ⟨11, (.op (.bin .gtr (.t 10) (.k (.int .i64 12)))), some (9, false)⟩, ⟨12, (.op (.pick (.t 9) (.k (.bool true)) (.t 11))), none⟩] [7, 8, 9, 10, 11])
  (.cond (.t 12)
    (.seq (.reg none [⟨4, (.op (.mv (.k (.int .i64 0)))), none⟩] [0, 1, 5, 12])
    .ret)
    .skip))
  (.seq (.seq (.reg none [⟨13, (.op (.mv (.t 1))), none⟩, ⟨14, (.op (.bin .eql (.t 13) (.k (.int .i64 2)))), none⟩, ⟨15, (.op (.mv (.t 14))), none⟩, ⟨16, (.op (.mv (.t 0))), some (15, true)⟩, ⟨17, (.callL n_date_IsLeap [.t 16]), some (15, true)⟩, ⟨18, (.op (.pick (.t 15) (.t 17) (.k (.bool false)))), none⟩] [0, 12, 13, 14, 15, 16, 17])
  (.cond (.t 18)
    (.seq (.reg none [⟨4, (.op (.mv (.k (.int .i64 29)))), none⟩] [1, 5, 18])
    .ret)
    .skip))
  (.seq (.reg none [⟨19, (.op (.mv (.t 1))), none⟩, ⟨20, (.op (.iaA (.t 5) (.t 19) 1 13)), none⟩, ⟨21, (.op (.load (.t 20) 1 false)), none⟩, ⟨4, (.op (.mv (.t 21))), none⟩] [1, 5, 18, 19, 20, 21])
  .ret)))))
theorem k_date_DaysInMonth : fnOk Tryd.prog Tryd.f93 c_date_DaysInMonth 22 2 [.t 4] = true := by kernel_rfl
theorem u_date_DaysInMonth : Tryd.prog.funcs[n_date_DaysInMonth]? = some Tryd.f93 := Tryd.func93
/-- guerdon/guerdonref09.In -/
def c_ref09_In : FC :=
  (.seq (.reg none [⟨4, (.op (.box (.t 1))), none⟩, ⟨6, (.op (.mv (.k (.bool false)))), none⟩] [1, 6])
  (.seq (.reg none [⟨10, (.op (.load (.t 4) 2 true)), none⟩, ⟨11, (.op (.mv (.t 2))), none⟩, ⟨12, (.callL n_ref09_Bounds [.t 10, .t 11]), none⟩, ⟨9, (.op (.mvP true (.t 12))), none⟩, ⟨13, (.op (.extract 9 0)), none⟩, ⟨14, (.op (.extract 9 1)), none⟩, ⟨7, (.op (.mvP true (.t 13))), none⟩, ⟨8, (.op (.mvP true (.t 14))), none⟩] [2, 4, 9, 10, 11, 12, 13, 14])
  (.seq (.reg none [⟨15, (.op (.mv (.t 7))), none⟩, ⟨16, (.op (.mv (.t 0))), none⟩, ⟨17, (.op (.bin .leq (.t 15) (.t 16))), none⟩, ⟨18, (.op (.mv (.t 17))), none⟩, ⟨19, (.op (.mv (.t 0))), some (18, true)⟩, ⟨20, (.op (.mv (.t 8))), some (18, true)⟩, ⟨21, (.op (.bin .leq (.t 19) (.t 20))), some (18, true)⟩, ⟨22, (.op (.pick (.t 18) (.t 21) (.k (.bool false)))), none⟩, ⟨6, (.op (.mv (.t 22))), none⟩] [0, 7, 8, 15, 16, 17, 18, 19, 20, 21, 22])
  .ret)))
theorem k_ref09_In : fnOk Tryd.prog Tryd.f94 c_ref09_In 23 3 [.t 6] = true := by kernel_rfl
theorem u_ref09_In : Tryd.prog.funcs[n_ref09_In]? = some Tryd.f94 := Tryd.func94
/-- guerdon/guerdonref04.Valid -/
def c_ref04_Valid : FC :=
  (.seq (.reg none [⟨2, (.op (.mv (.k (.bool false)))), none⟩] [2])
  (.seq (.reg none [⟨3, (.op (.mv (.t 0))), none⟩, ⟨4, (.op (.bin .geq (.t 3) (.k (.int .i64 0)))), none⟩, ⟨5, (.op (.mv (.t 4))), none⟩, ⟨6, (.op (.mv (.t 0))), some (5, true)⟩, ⟨7, (.op (.bin .leq (.t 6) (.k (.int .i64 109572)))), some (5, true)⟩, ⟨8, (.op (.pick (.t 5) (.t 7) (.k (.bool false)))), none⟩, ⟨2, (.op (.mv (.t 8))), none⟩] [0, 3, 4, 5, 6, 7, 8])
  .ret))
theorem k_ref04_Valid : fnOk Tryd.prog Tryd.f95 c_ref04_Valid 9 1 [.t 2] = true := by kernel_rfl
theorem u_ref04_Valid : Tryd.prog.funcs[n_ref04_Valid]? = some Tryd.f95 := Tryd.func95
/-- guerdon/guerdonref04.ToYMD -/
def c_ref04_ToYMD : FC :=
  (.seq (.reg none [⟨2, (.op (.mv (.k (.int .i64 0)))), none⟩, ⟨3, (.op (.mv (.k (.int .i64 0)))), none⟩, ⟨4, (.op (.mv (.k (.int .i64 0)))), none⟩] [2, 3, 4])
  (.seq (.seq (.reg none [⟨7, (.op (.mv (.t 0))), none⟩, ⟨8, (.callL n_ref04_Valid [.t 7]), none⟩, ⟨9, (.op (.un .not (.t 8))), none⟩] [7, 8])
  (.cond (.t 9)
    (.seq (.reg none [⟨2, (.op (.mv (.k (.int .i64 0)))), none⟩, ⟨3, (.op (.mv (.k (.int .i64 0)))), none⟩, ⟨4, (.op (.mv (.k (.int .i64 0)))), none⟩] [0, 9])
    .ret)
    .skip))
  (.seq (.reg none [⟨5, (.op (.mv (.k (.int .i64 1900)))), none⟩, ⟨6, (.op (.mv (.k (.int .i64 1)))), none⟩] [9])
  (.seq (.block 0 (.loop (.seq (.seq (.reg none [⟨10, (.op (.mv (.t 0))), none⟩, ⟨11, (.op (.mv (.t 5))), none⟩, ⟨12, (.callL n_ref04_daysInYear [.t 11]), none⟩, ⟨13, (.op (.bin .geq (.t 10) (.t 12))), none⟩] [10, 11, 12])
      (.cond (.t 13)
        .skip
        (.exit 0)))
      (.block 1 (.seq (.reg none [⟨14, (.op (.mv (.t 0))), none⟩, ⟨15, (.op (.mv (.t 5))), none⟩, ⟨16, (.callL n_ref04_daysInYear [.t 15]), none⟩, ⟨17, (.op (.bin .sub (.t 14) (.t 16))), none⟩, ⟨0, (.op (.mv (.t 17))), none⟩] [13, 14, 15, 16, 17])
        (.reg none [⟨18, (.op (.mv (.t 5))), none⟩, ⟨19, (.op (.bin .add (.t 18) (.k (.int .i64 1)))), none⟩, ⟨5, (.op (.mv (.t 19))), none⟩] [18, 19]))))))
  (.seq (.block 2 (.loop (.seq (.seq (.reg none [⟨20, (.op (.mv (.t 0))), none⟩, ⟨21, (.op (.mv (.t 5))), none⟩, ⟨22, (.op (.mv (.t 6))), none⟩, ⟨23, (.callL n_ref04_DaysInMonth [.t 21, .t 22]), none⟩, ⟨24, (.op (.bin .geq (.t 20) (.t 23))), none⟩] [13, 20, 21, 22, 23])
      (.cond (.t 24)
        .skip
        (.exit 2)))
      (.block 3 (.seq (.reg none [⟨25, (.op (.mv (.t 0))), none⟩, ⟨26, (.op (.mv (.t 5))), none⟩, ⟨27, (.op (.mv (.t 6))), none⟩, ⟨28, (.callL n_ref04_DaysInMonth [.t 26, .t 27]), none⟩, ⟨29, (.op (.bin .sub (.t 25) (.t 28))), none⟩, ⟨0, (.op (.mv (.t 29))), none⟩] [24, 25, 26, 27, 28, 29])
        (.reg none [⟨30, (.op (.mv (.t 6))), none⟩, ⟨31, (.op (.bin .add (.t 30) (.k (.int .i64 1)))), none⟩, ⟨6, (.op (.mv (.t 31))), none⟩] [30, 31]))))))
  (.seq (.reg none [⟨32, (.op (.mv (.t 5))), none⟩, ⟨33, (.op (.mv (.t 6))), none⟩, ⟨34, (.op (.mv (.t 0))), none⟩, ⟨35, (.op (.bin .add (.t 34) (.k (.int .i64 1)))), none⟩, ⟨2, (.op (.mv (.t 32))), none⟩, ⟨3, (.op (.mv (.t 33))), none⟩, ⟨4, (.op (.mv (.t 35))), none⟩] [0, 5, 6, 24, 32, 33, 34, 35])
  .ret))))))
theorem k_ref04_ToYMD : fnOk Tryd.prog Tryd.f96 c_ref04_ToYMD 36 1 [.t 2, .t 3, .t 4] = true := by kernel_rfl
theorem u_ref04_ToYMD : Tryd.prog.funcs[n_ref04_ToYMD]? = some Tryd.f96 := Tryd.func96
/-- guerdon/guerdonref04.pad -/
def c_ref04_pad : FC :=
  (.seq (.reg none [⟨4, (.op (.mv (.k (.str [])))), none⟩] [4])
  (.seq (.reg none [⟨6, (.op (.mv (.t 0))), none⟩, ⟨7, (.callL n_ref01_FormatInt [.t 6]), none⟩, ⟨5, (.op (.mvP true (.t 7))), none⟩] [0, 6, 7])
  (.seq (.block 0 (.loop (.seq (.seq (.reg none [⟨8, (.op (.mv (.t 5))), none⟩, ⟨9, (.op (.lenS (.t 8))), none⟩, ⟨10, (.op (.mv (.t 1))), none⟩, ⟨11, (.op (.bin .lss (.t 9) (.t 10))), none⟩] [8, 9, 10])
      (.cond (.t 11)
        .skip
        (.exit 0)))
      (.block 1 (.reg none [⟨12, (.op (.mv (.t 5))), none⟩, ⟨13, (.op (.bin .add (.k (.str [48])) (.t 12))), none⟩, ⟨5, (.op (.mv (.t 13))), none⟩] [11, 12, 13])))))
  (.seq (.reg none [⟨14, (.op (.mv (.t 5))), none⟩, ⟨4, (.op (.mv (.t 14))), none⟩] [1, 5, 11, 14])
  .ret))))
theorem k_ref04_pad : fnOk Tryd.prog Tryd.f97 c_ref04_pad 15 2 [.t 4] = true := by kernel_rfl
theorem u_ref04_pad : Tryd.prog.funcs[n_ref04_pad]? = some Tryd.f97 := Tryd.func97
/-- guerdon/date.IsLeap -/
def c_date_IsLeap : FC :=
  (.seq (.reg none [⟨2, (.op (.mv (.k (.bool false)))), none⟩] [2])
  (.seq (.reg none [⟨3, (.op (.mv (.t 0))), none⟩, ⟨4, (.op (.bin .rem (.t 3) (.k (.int .i64 4)))), none⟩, ⟨5, (.op (.bin .eql (.t 4) (.k (.int .i64 0)))), none⟩, ⟨6, (.op (.mv (.t 5))), none⟩, ⟨7, (.op (.mv (.t 0))), some (6, true)⟩, ⟨8, (.op (.bin .rem (.t 7) (.k (.int .i64 100)))), some (6, true)⟩, ⟨9, (.op (.bin .neq (.t 8) (.k (.int .i64 0)))), some (6, true)⟩, ⟨10, (.op (.mv (.t 9))), some (6, true)⟩, ⟨11, (.op (.mv (.t 0))), some (10, false)⟩, ⟨12, (.op (.bin .rem (.t 11) (.k (.int .i64 400)))), some (10, false)⟩, ⟨13, (.op (.bin .eql (.t 12) (.k (.int .i64 0)))), some (10, false)⟩, ⟨14, (.op (.pick (.t 10) (.k (.bool true)) (.t 13))), some (6, true)⟩, ⟨15, (.op (.pick (.t 6) (.t 14) (.k (.bool false)))), none⟩, ⟨2, (.op (.mv (.t 15))), none⟩] [0, 3, 4, 5, 6, 7, 8, 9, 10, 11, 12, 13, 14, 15])
  .ret))
theorem k_date_IsLeap : fnOk Tryd.prog Tryd.f105 c_date_IsLeap 16 1 [.t 2] = true := by kernel_rfl
theorem u_date_IsLeap : Tryd.prog.funcs[n_date_IsLeap]? = some Tryd.f105 := Tryd.func105
/-- guerdon/guerdonref09.Bounds -/
def c_ref09_Bounds : FC :=
  (.seq (.reg none [⟨2, (.op (.box (.t 0))), none⟩, ⟨4, (.op (.mv (.k (.int .i64 0)))), none⟩, ⟨5, (.op (.mv (.k (.int .i64 0)))), none⟩] [0, 4, 5])
  (.seq (.seq (.reg none [⟨6, (.op (.load (.t 2) 2 true)), none⟩, ⟨7, (.op (.mv (.t 1))), none⟩, ⟨8, (.callL n_ref09_ValidType [.t 6, .t 7]), none⟩, ⟨9, (.op (.un .not (.t 8))), none⟩] [6, 7, 8])
  (.cond (.t 9)
    (.seq (.reg none [⟨4, (.op (.mv (.k (.int .i64 0)))), none⟩, ⟨5, (.op (.mv (.k (.int .i64 (-1))))), none⟩] [1, 2, 9])
    .ret)
    .skip))
  (.seq (.seq (.reg none [⟨10, (.op (.fa (.t 2) 0)), none⟩, ⟨11, (.op (.load (.t 10) 1 false)), none⟩] [9, 10])
  (.block 0 (.seq (.reg none [⟨13, (.op (.bin .eql (.t 11) (.k (.int .i64 1)))), none⟩, ⟨12, (.op (.mv (.t 13))), none⟩] [13])
    (.cond (.t 12)
      (.seq (.reg none [⟨4, (.op (.mv (.k (.int .i64 0)))), none⟩, ⟨5, (.op (.mv (.k (.int .i64 1)))), none⟩] [1, 2, 11, 12])
      .ret)
      (.seq (.reg none [⟨15, (.op (.bin .eql (.t 11) (.k (.int .i64 2)))), none⟩, ⟨14, (.op (.mv (.t 15))), none⟩] [12, 15])
      (.cond (.t 14)
        (.seq (.reg none [⟨4, (.op (.mv (.k (.int .i64 (-1000000000000))))), none⟩, ⟨5, (.op (.mv (.k (.int .i64 1000000000000)))), none⟩] [1, 2, 11, 14])
        .ret)
        (.seq (.reg none [⟨17, (.op (.bin .eql (.t 11) (.k (.int .i64 3)))), none⟩, ⟨16, (.op (.mv (.t 17))), none⟩] [14, 17])
        (.cond (.t 16)
          (.seq (.reg none [⟨4, (.op (.mv (.k (.int .i64 (-1000000000000000))))), none⟩, ⟨5, (.op (.mv (.k (.int .i64 1000000000000000)))), none⟩] [1, 2, 11, 16])
          .ret)
          (.seq (.reg none [⟨19, (.op (.bin .eql (.t 11) (.k (.int .i64 4)))), none⟩, ⟨18, (.op (.mv (.t 19))), none⟩] [16, 19])
          (.cond (.t 18)
            (.seq (.reg none [⟨4, (.op (.mv (.k (.int .i64 (-1000000000))))), none⟩, ⟨5, (.op (.mv (.k (.int .i64 1000000000)))), none⟩] [1, 2, 11, 18])
            .ret)
            (.seq (.reg none [⟨21, (.op (.bin .eql (.t 11) (.k (.int .i64 5)))), none⟩, ⟨20, (.op (.mv (.t 21))), none⟩] [11, 18, 21])
            (.cond (.t 20)
              (.seq (.reg none [⟨4, (.op (.mv (.k (.int .i64 0)))), none⟩, ⟨5, (.op (.mv (.k (.int .i64 109572)))), none⟩] [1, 2, 20])
              .ret)
              .skip))))))))))))
  (.seq (.reg (some 10) [⟨22, (.op (.mv (.t 1))), none⟩, ⟨23, (.op (.fa (.t 2) 1)), none⟩, ⟨24, (.op (.load (.t 23) 1 false)), none⟩, ⟨25, (.op (.ia (.t 22) (.t 24) 2)), none⟩, ⟨26, (.op (.fa (.t 25) 1)), none⟩, ⟨27, (.op (.load (.t 26) 1 false)), none⟩, ⟨28, (.op (.len (.t 27))), none⟩, ⟨29, (.op (.bin .sub (.t 28) (.k (.int .i64 1)))), none⟩, ⟨4, (.op (.mv (.k (.int .i64 0)))), none⟩, ⟨5, (.op (.mv (.t 29))), none⟩] [1, 2, 20, 22, 23, 24, 25, 26, 27, 28, 29])
  .ret))))
theorem k_ref09_Bounds : fnOk Tryd.prog Tryd.f106 c_ref09_Bounds 30 2 [.t 4, .t 5] = true := by kernel_rfl
theorem u_ref09_Bounds : Tryd.prog.funcs[n_ref09_Bounds]? = some Tryd.f106 := Tryd.func106
/-- guerdon/guerdonref04.daysInYear -/
def c_ref04_daysInYear : FC :=
  (.seq (.reg none [⟨2, (.op (.mv (.k (.int .i64 0)))), none⟩] [2])
  (.seq (.seq (.reg none [⟨3, (.op (.mv (.t 0))), none⟩, ⟨4, (.callL n_ref04_IsLeap [.t 3]), none⟩] [0, 3])
  (.cond (.t 4)
    (.seq (.reg none [⟨2, (.op (.mv (.k (.int .i64 366)))), none⟩] [4])
    .ret)
    .skip))
  (.seq (.reg none [⟨2, (.op (.mv (.k (.int .i64 365)))), none⟩] [4])
  .ret)))
theorem k_ref04_daysInYear : fnOk Tryd.prog Tryd.f107 c_ref04_daysInYear 5 1 [.t 2] = true := by kernel_rfl
theorem u_ref04_daysInYear : Tryd.prog.funcs[n_ref04_daysInYear]? = some Tryd.f107 := Tryd.func107
/-- guerdon/guerdonref04.DaysInMonth -/
def c_ref04_DaysInMonth : FC :=
  (.seq (.reg none [⟨4, (.op (.mv (.k (.int .i64 0)))), none⟩] [4])
  (.seq (.seq (.reg none [⟨5, (.op (.mv (.t 1))), none⟩] [1])
  (.block 0 (.seq (.reg none [⟨7, (.op (.bin .eql (.t 5) (.k (.int .i64 2)))), none⟩, ⟨6, (.op (.mv (.t 7))), none⟩] [7])
    (.cond (.t 6)
      (.seq (.seq (.reg none [⟨8, (.op (.mv (.t 0))), none⟩, ⟨9, (.callL n_ref04_IsLeap [.t 8]), none⟩] [0, 5, 6, 8])
      (.cond (.t 9)
        (.seq (.reg none [⟨4, (.op (.mv (.k (.int .i64 29)))), none⟩] [9])
        .ret)
        .skip))
      (.seq (.reg none [⟨4, (.op (.mv (.k (.int .i64 28)))), none⟩] [9])
      .ret))
      (.seq (.seq (.reg none [⟨11, (.op (.bin .eql (.t 5) (.k (.int .i64 4)))), none⟩, ⟨10, (.op (.mv (.t 11))), none⟩] [0, 6, 11])
      (.cond (.t 10)
        .skip
        (.seq (.reg none [⟨12, (.op (.bin .eql (.t 5) (.k (.int .i64 6)))), none⟩, ⟨10, (.op (.mv (.t 12))), none⟩] [12])
        (.cond (.t 10)
          .skip
          (.seq (.reg none [⟨13, (.op (.bin .eql (.t 5) (.k (.int .i64 9)))), none⟩, ⟨10, (.op (.mv (.t 13))), none⟩] [13])
          (.cond (.t 10)
            .skip
            (.reg none [⟨14, (.op (.bin .eql (.t 5) (.k (.int .i64 11)))), none⟩, ⟨10, (.op (.mv (.t 14))), none⟩] [14])))))))
      (.cond (.t 10)
        (.seq (.reg none [⟨4, (.op (.mv (.k (.int .i64 30)))), none⟩] [5, 10])
        .ret)
        (.seq (.seq (.reg none [⟨16, (.op (.bin .eql (.t 5) (.k (.int .i64 1)))), none⟩, ⟨15, (.op (.mv (.t 16))), none⟩] [10, 16])
        (.cond (.t 15)
          .skip
          (.seq (.reg none [⟨17, (.op (.bin .eql (.t 5) (.k (.int .i64 3)))), none⟩, ⟨15, (.op (.mv (.t 17))), none⟩] [17])
          (.cond (.t 15)
            .skip
            (.seq (.reg none [⟨18, (.op (.bin .eql (.t 5) (.k (.int .i64 5)))), none⟩, ⟨15, (.op (.mv (.t 18))), none⟩] [18])
            (.cond (.t 15)
              .skip
              (.seq (.reg none [⟨19, (.op (.bin .eql (.t 5) (.k (.int .i64 7)))), none⟩, ⟨15, (.op (.mv (.t 19))), none⟩] [19])
              (.cond (.t 15)
                .skip
                (.seq (.reg none [⟨20, (.op (.bin .eql (.t 5) (.k (.int .i64 8)))), none⟩, ⟨15, (.op (.mv (.t 20))), none⟩] [20])
                (.cond (.t 15)
                  .skip
                  (.seq (.reg none [⟨21, (.op (.bin .eql (.t 5) (.k (.int .i64 10)))), none⟩, ⟨15, (.op (.mv (.t 21))), none⟩] [21])
                  (.cond (.t 15)
                    .skip
                    (.reg none [⟨22, (.op (.bin .eql (.t 5) (.k (.int .i64 12)))), none⟩, ⟨15, (.op (.mv (.t 22))), none⟩] [5, 22])))))))))))))
        (.cond (.t 15)
          (.seq (.reg none [⟨4, (.op (.mv (.k (.int .i64 31)))), none⟩] [5, 15])
          .ret)
          .skip))))))))
  (.seq (.reg none [⟨4, (.op (.mv (.k (.int .i64 0)))), none⟩] [5, 15])
  .ret)))
theorem k_ref04_DaysInMonth : fnOk Tryd.prog Tryd.f108 c_ref04_DaysInMonth 23 2 [.t 4] = true := by kernel_rfl
theorem u_ref04_DaysInMonth : Tryd.prog.funcs[n_ref04_DaysInMonth]? = some Tryd.f108 := Tryd.func108
/-- guerdon/guerdonref04.IsLeap -/
def c_ref04_IsLeap : FC :=
  (.seq (.reg none [⟨2, (.op (.mv (.k (.bool false)))), none⟩] [2])
  (.seq (.reg none [⟨3, (.op (.mv (.t 0))), none⟩, ⟨4, (.op (.bin .rem (.t 3) (.k (.int .i64 4)))), none⟩, ⟨5, (.op (.bin .eql (.t 4) (.k (.int .i64 0)))), none⟩, ⟨6, (.op (.mv (.t 5))), none⟩, ⟨7, (.op (.mv (.t 0))), some (6, true)⟩, ⟨8, (.op (.bin .rem (.t 7) (.k (.int .i64 100)))), some (6, true)⟩, ⟨9, (.op (.bin .neq (.t 8) (.k (.int .i64 0)))), some (6, true)⟩, ⟨10, (.op (.mv (.t 9))), some (6, true)⟩, ⟨11, (.op (.mv (.t 0))), some (10, false)⟩, ⟨12, (.op (.bin .rem (.t 11) (.k (.int .i64 400)))), some (10, false)⟩, ⟨13, (.op (.bin .eql (.t 12) (.k (.int .i64 0)))), some (10, false)⟩, ⟨14, (.op (.pick (.t 10) (.k (.bool true)) (.t 13))), some (6, true)⟩, ⟨15, (.op (.pick (.t 6) (.t 14) (.k (.bool false)))), none⟩, ⟨2, (.op (.mv (.t 15))), none⟩] [0, 3, 4, 5, 6, 7, 8, 9, 10, 11, 12, 13, 14, 15])
  .ret))
theorem k_ref04_IsLeap : fnOk Tryd.prog Tryd.f114 c_ref04_IsLeap 16 1 [.t 2] = true := by kernel_rfl
theorem u_ref04_IsLeap : Tryd.prog.funcs[n_ref04_IsLeap]? = some Tryd.f114 := Tryd.func114
/-- guerdon/report.Result -/
def c_report_Result : FC :=
  (.seq (.reg none [⟨3, (.op (.box (.t 0))), none⟩, ⟨5, (.op (.box (.t 2))), none⟩, ⟨6, (.op (.mv (.k (.arr [])))), none⟩] [0, 2, 6])
  (.seq (.reg none [⟨13, (.op (.load (.t 3) 3 true)), none⟩, ⟨14, (.op (.mv (.t 1))), none⟩, ⟨15, (.callL n_report_scopeAt [.t 13, .t 14]), none⟩, ⟨12, (.op (.mvP true (.t 15))), none⟩, ⟨16, (.op (.extract 12 0)), none⟩, ⟨17, (.op (.extract 12 1)), none⟩, ⟨7, (.op (.alloc [(.str []), (.int .i64 0), (.sl true []), (.sl true []), (.sl true [])])), none⟩, ⟨0, (.op (.store (.t 7) (.t 16) 5 true)), none⟩, ⟨8, (.op (.mvP true (.t 17))), none⟩] [8, 12, 13, 14, 15, 16, 17])
  (.seq (.reg none [⟨18, (.op (.load (.t 3) 3 true)), none⟩, ⟨19, (.op (.load (.t 7) 5 true)), none⟩, ⟨20, (.op (.fa (.t 5) 0)), none⟩, ⟨21, (.op (.load (.t 20) 1 false)), none⟩, ⟨22, (.op (.fa (.t 5) 1)), none⟩, ⟨23, (.op (.load (.t 22) 1 false)), none⟩, ⟨24, (.callL n_report_lines [.t 18, .t 19, .k (.str []), .t 21, .t 23]), none⟩, ⟨9, (.op (.mvP true (.t 24))), none⟩] [7, 18, 19, 20, 21, 22, 23, 24])
  (.seq (.seq (.reg none [⟨25, (.op (.fa (.t 5) 2)), none⟩, ⟨26, (.op (.load (.t 25) 1 false)), none⟩, ⟨27, (.op (.len (.t 26))), none⟩, ⟨28, (.op (.mv (.k (.int .i64 0)))), none⟩] [])
  (.block 0 (.loop (.seq (.reg none [⟨29, (.op (.bin .lss (.t 28) (.t 27))), none⟩] [])
      (.seq (.cond (.t 29)
        .skip
        (.exit 0))
      (.seq (.block 1 (.seq (.reg none [⟨30, (.op (.mv (.t 28))), none⟩, ⟨31, (.op (.ia (.t 26) (.t 28) 2)), none⟩, ⟨32, (.op (.load (.t 31) 2 true)), none⟩, ⟨11, (.op (.alloc [(.sl true []), (.sl true [])])), none⟩, ⟨10, (.op (.mv (.t 30))), none⟩, ⟨0, (.op (.store (.t 11) (.t 32) 2 true)), none⟩] [29, 30, 31, 32])
        (.reg (some 14) [⟨33, (.op (.mv (.t 9))), none⟩, ⟨34, (.op (.load (.t 3) 3 true)), none⟩, ⟨35, (.op (.load (.t 3) 3 true)), none⟩, ⟨36, (.op (.mv (.t 1))), none⟩, ⟨37, (.callL n_report_memberScope [.t 35, .t 36]), none⟩, ⟨38, (.op (.mv (.t 10))), none⟩, ⟨39, (.callL n_numtext_FormatInt [.t 38]), none⟩, ⟨40, (.op (.bin .add (.k (.str [109, 101, 109, 98, 101, 114, 32])) (.t 39))), none⟩, ⟨41, (.op (.bin .add (.t 40) (.k (.str [58, 32])))), none⟩, ⟨42, (.op (.fa (.t 11) 0)), none⟩, ⟨43, (.op (.load (.t 42) 1 false)), none⟩, ⟨44, (.op (.fa (.t 11) 1)), none⟩, ⟨45, (.op (.load (.t 44) 1 false)), none⟩, ⟨46, (.callL n_report_lines [.t 34, .t 37, .t 41, .t 43, .t 45]), none⟩, ⟨47, (.op (.app (.t 33) (.t 46) 1 16)), none⟩, ⟨9, (.op (.mvP true (.t 47))), none⟩] [10, 11, 33, 34, 35, 36, 37, 38, 39, 40, 41, 42, 43, 44, 45, 46, 47])))
      (.reg none [⟨48, (.op (.bin .add (.t 28) (.k (.int .i64 1)))), none⟩, ⟨28, (.op (.mv (.t 48))), none⟩] [48])))))))
  (.seq (.reg none [⟨49, (.op (.mv (.t 9))), none⟩, ⟨6, (.op (.mv (.t 49))), none⟩] [1, 3, 5, 25, 26, 27, 28, 29])
  .ret)))))
theorem k_report_Result : fnOk Tryd.prog Tryd.f11 c_report_Result 50 3 [.t 6] = true := by kernel_rfl
theorem u_report_Result : Tryd.prog.funcs[n_report_Result]? = some Tryd.f11 := Tryd.func11
/-- guerdon/guerdonref54.Result -/
def c_ref54_Result : FC :=
  (.seq (.reg none [⟨3, (.op (.box (.t 0))), none⟩, ⟨5, (.op (.box (.t 2))), none⟩, ⟨6, (.op (.mv (.k (.arr [])))), none⟩] [0, 2, 6])
  (.seq (.reg none [⟨10, (.op (.load (.t 3) 3 true)), none⟩, ⟨11, (.op (.mv (.t 1))), none⟩, ⟨12, (.callL n_ref54_scopeAt [.t 10, .t 11]), none⟩, ⟨7, (.op (.alloc [(.str []), (.int .i64 0), (.sl true []), (.sl true []), (.sl true [])])), none⟩, ⟨0, (.op (.store (.t 7) (.t 12) 5 true)), none⟩] [1, 10, 11, 12])
  (.seq (.reg none [⟨13, (.op (.load (.t 3) 3 true)), none⟩, ⟨14, (.op (.load (.t 7) 5 true)), none⟩, ⟨15, (.op (.fa (.t 5) 0)), none⟩, ⟨16, (.op (.load (.t 15) 1 false)), none⟩, ⟨17, (.op (.fa (.t 5) 1)), none⟩, ⟨18, (.op (.load (.t 17) 1 false)), none⟩, ⟨19, (.call n_ref54_lines [(true, .k (.arr [])), (false, .k (.str [])), (false, .t 13), (false, .t 14), (false, .t 16), (false, .t 18)]), none⟩, ⟨8, (.op (.mvP true (.t 19))), none⟩] [13, 14, 15, 16, 17, 18, 19])
  (.seq (.seq (.reg none [⟨9, (.op (.mv (.k (.int .i64 0)))), none⟩] [])
  (.block 0 (.loop (.seq (.seq (.reg none [⟨20, (.op (.mv (.t 9))), none⟩, ⟨21, (.op (.fa (.t 5) 2)), none⟩, ⟨22, (.op (.load (.t 21) 1 false)), none⟩, ⟨23, (.op (.len (.t 22))), none⟩, ⟨24, (.op (.bin .lss (.t 20) (.t 23))), none⟩] [20, 21, 22, 23])
      (.cond (.t 24)
        .skip
        (.exit 0)))
      (.seq (.block 1 (.reg (some 22) [⟨27, (.op (.mv (.t 8))), none⟩, ⟨28, (.op (.mv (.t 9))), none⟩, ⟨29, (.callL n_ref01_FormatInt [.t 28]), none⟩, ⟨30, (.op (.bin .add (.k (.str [109, 101, 109, 98, 101, 114, 32])) (.t 29))), none⟩, ⟨31, (.op (.bin .add (.t 30) (.k (.str [58, 32])))), none⟩, ⟨32, (.op (.load (.t 3) 3 true)), none⟩, ⟨33, (.op (.load (.t 3) 3 true)), none⟩, ⟨34, (.op (.fa (.t 7) 1)), none⟩, ⟨35, (.op (.load (.t 34) 1 false)), none⟩, ⟨36, (.callL n_ref54_scopeAt [.t 33, .t 35]), none⟩, ⟨37, (.op (.fa (.t 5) 2)), none⟩, ⟨38, (.op (.load (.t 37) 1 false)), none⟩, ⟨39, (.op (.mv (.t 9))), none⟩, ⟨40, (.op (.ia (.t 38) (.t 39) 2)), none⟩, ⟨41, (.op (.fa (.t 40) 0)), none⟩, ⟨42, (.op (.load (.t 41) 1 false)), none⟩, ⟨43, (.op (.fa (.t 5) 2)), none⟩, ⟨44, (.op (.load (.t 43) 1 false)), none⟩, ⟨45, (.op (.mv (.t 9))), none⟩, ⟨46, (.op (.ia (.t 44) (.t 45) 2)), none⟩, ⟨47, (.op (.fa (.t 46) 1)), none⟩, ⟨48, (.op (.load (.t 47) 1 false)), none⟩, ⟨49, (.call n_ref54_lines [(true, .t 27), (false, .t 31), (false, .t 32), (false, .t 36), (false, .t 42), (false, .t 48)]), none⟩, ⟨8, (.op (.mvP true (.t 49))), none⟩] [24, 27, 28, 29, 30, 31, 32, 33, 34, 35, 36, 37, 38, 39, 40, 41, 42, 43, 44, 45, 46, 47, 48, 49]))
      (.reg none [⟨25, (.op (.mv (.t 9))), none⟩, ⟨26, (.op (.bin .add (.t 25) (.k (.int .i64 1)))), none⟩, ⟨9, (.op (.mv (.t 26))), none⟩] [25, 26]))))))
  (.seq (.reg none [⟨50, (.op (.mv (.t 8))), none⟩, ⟨6, (.op (.mv (.t 50))), none⟩] [3, 5, 7, 9, 24])
  .ret)))))
theorem k_ref54_Result : fnOk Tryd.prog Tryd.f12 c_ref54_Result 51 3 [.t 6] = true := by kernel_rfl
theorem u_ref54_Result : Tryd.prog.funcs[n_ref54_Result]? = some Tryd.f12 := Tryd.func12
/-- guerdon/report.EvalError -/
def c_report_EvalError : FC :=
  (.seq (.reg none [⟨3, (.op (.box (.t 0))), none⟩, ⟨5, (.op (.box (.t 2))), none⟩, ⟨6, (.op (.mv (.k (.str [])))), none⟩] [0, 2, 6])
  (.seq (.seq (.reg none [⟨10, (.op (.fa (.t 5) 0)), none⟩, ⟨11, (.op (.load (.t 10) 1 false)), none⟩, ⟨12, (.op (.bin .eql (.t 11) (.k (.int .i64 0)))), none⟩] [10, 11])
  (.cond (.t 12)
    (.seq (.reg none [⟨6, (.op (.mv (.k (.str [111, 107])))), none⟩] [1, 3, 5, 12])
    .ret)
    .skip))
  (.seq (.reg none [⟨14, (.op (.load (.t 3) 3 true)), none⟩, ⟨15, (.op (.mv (.t 1))), none⟩, ⟨16, (.callL n_report_scopeAt [.t 14, .t 15]), none⟩, ⟨13, (.op (.mvP true (.t 16))), none⟩, ⟨17, (.op (.extract 13 0)), none⟩, ⟨18, (.op (.extract 13 1)), none⟩, ⟨7, (.op (.alloc [(.str []), (.int .i64 0), (.sl true []), (.sl true []), (.sl true [])])), none⟩, ⟨0, (.op (.store (.t 7) (.t 17) 5 true)), none⟩, ⟨8, (.op (.mvP true (.t 18))), none⟩] [8, 12, 13, 14, 15, 16, 17, 18])
  (.seq (.reg none [⟨19, (.op (.fa (.t 5) 0)), none⟩, ⟨20, (.op (.load (.t 19) 1 false)), none⟩, ⟨21, (.callL n_numtext_FormatInt [.t 20]), none⟩, ⟨22, (.op (.buildSl [(.str [])] 2 [0, 1] [.k (.str [101, 114, 114, 111, 114]), .t 21])), none⟩, ⟨9, (.op (.mvP true (.t 22))), none⟩] [19, 20, 21, 22])
  (.seq (.seq (.reg none [⟨23, (.op (.fa (.t 5) 1)), none⟩, ⟨24, (.op (.load (.t 23) 1 false)), none⟩, ⟨25, (.op (.bin .geq (.t 24) (.k (.int .i64 0)))), none⟩] [23, 24])
  (.cond (.t 25)
    (.seq (.reg none [⟨26, (.op (.load (.t 3) 3 true)), none⟩, ⟨27, (.op (.mv (.t 1))), none⟩, ⟨28, (.callL n_report_memberScope [.t 26, .t 27]), none⟩, ⟨0, (.op (.store (.t 7) (.t 28) 5 true)), none⟩] [1, 3, 25, 26, 27, 28])
    (.reg none [⟨29, (.op (.mv (.t 9))), none⟩, ⟨30, (.op (.fa (.t 5) 1)), none⟩, ⟨31, (.op (.load (.t 30) 1 false)), none⟩, ⟨32, (.callL n_numtext_FormatInt [.t 31]), none⟩, ⟨33, (.op (.buildSl [(.str [])] 3 [0, 1, 2] [.k (.str [105, 110]), .k (.str [109, 101, 109, 98, 101, 114]), .t 32])), none⟩, ⟨34, (.op (.app (.t 29) (.t 33) 1 16)), none⟩, ⟨9, (.op (.mvP true (.t 34))), none⟩] [29, 30, 31, 32, 33, 34]))
    .skip))
  (.seq (.seq (.reg none [⟨35, (.op (.fa (.t 5) 2)), none⟩, ⟨36, (.op (.load (.t 35) 1 false)), none⟩, ⟨37, (.op (.bin .geq (.t 36) (.k (.int .i64 0)))), none⟩] [1, 3, 25, 35, 36])
  (.cond (.t 37)
    (.reg none [⟨38, (.op (.mv (.t 9))), none⟩, ⟨39, (.op (.load (.t 7) 5 true)), none⟩, ⟨40, (.op (.fa (.t 5) 2)), none⟩, ⟨41, (.op (.load (.t 40) 1 false)), none⟩, ⟨42, (.callL n_report_defName [.t 39, .t 41]), none⟩, ⟨43, (.op (.buildSl [(.str [])] 2 [0, 1] [.k (.str [102, 111, 114]), .t 42])), none⟩, ⟨44, (.op (.app (.t 38) (.t 43) 1 16)), none⟩, ⟨9, (.op (.mvP true (.t 44))), none⟩] [37, 38, 39, 40, 41, 42, 43, 44])
    .skip))
  (.seq (.seq (.reg none [⟨45, (.op (.fa (.t 5) 3)), none⟩, ⟨46, (.op (.load (.t 45) 1 false)), none⟩, ⟨47, (.op (.bin .geq (.t 46) (.k (.int .i64 0)))), none⟩] [37, 45, 46])
  (.cond (.t 47)
    (.reg none [⟨48, (.op (.mv (.t 9))), none⟩, ⟨49, (.op (.load (.t 7) 5 true)), none⟩, ⟨50, (.op (.fa (.t 5) 3)), none⟩, ⟨51, (.op (.load (.t 50) 1 false)), none⟩, ⟨52, (.callL n_report_ruleName [.t 49, .t 51]), none⟩, ⟨53, (.op (.buildSl [(.str [])] 2 [0, 1] [.k (.str [98, 121]), .t 52])), none⟩, ⟨54, (.op (.app (.t 48) (.t 53) 1 16)), none⟩, ⟨9, (.op (.mvP true (.t 54))), none⟩] [5, 7, 47, 48, 49, 50, 51, 52, 53, 54])
    .skip))
  (.seq (.reg none [⟨55, (.op (.mv (.t 9))), none⟩, ⟨56, (.callB n_strings_Join [.t 55, .k (.str [32])]), none⟩, ⟨6, (.op (.mvP true (.t 56))), none⟩] [5, 7, 9, 47, 55, 56])
  .ret))))))))
theorem k_report_EvalError : fnOk Tryd.prog Tryd.f13 c_report_EvalError 57 3 [.t 6] = true := by kernel_rfl
theorem u_report_EvalError : Tryd.prog.funcs[n_report_EvalError]? = some Tryd.f13 := Tryd.func13
/-- guerdon/guerdonref54.EvalError -/
def c_ref54_EvalError : FC :=
  (.seq (.reg none [⟨3, (.op (.box (.t 0))), none⟩, ⟨5, (.op (.box (.t 2))), none⟩, ⟨6, (.op (.mv (.k (.str [])))), none⟩] [0, 2, 6])
  (.seq (.seq (.reg none [⟨9, (.op (.fa (.t 5) 0)), none⟩, ⟨10, (.op (.load (.t 9) 1 false)), none⟩, ⟨11, (.op (.bin .eql (.t 10) (.k (.int .i64 0)))), none⟩] [9, 10])
  (.cond (.t 11)
    (.seq (.reg none [⟨6, (.op (.mv (.k (.str [111, 107])))), none⟩] [1, 3, 5, 11])
    .ret)
    .skip))
  (.seq (.reg none [⟨12, (.op (.load (.t 3) 3 true)), none⟩, ⟨13, (.op (.mv (.t 1))), none⟩, ⟨14, (.callL n_ref54_scopeAt [.t 12, .t 13]), none⟩, ⟨7, (.op (.alloc [(.str []), (.int .i64 0), (.sl true []), (.sl true []), (.sl true [])])), none⟩, ⟨0, (.op (.store (.t 7) (.t 14) 5 true)), none⟩] [1, 11, 12, 13, 14])
  (.seq (.reg none [⟨15, (.op (.fa (.t 5) 0)), none⟩, ⟨16, (.op (.load (.t 15) 1 false)), none⟩, ⟨17, (.callL n_ref01_FormatInt [.t 16]), none⟩, ⟨18, (.op (.bin .add (.k (.str [101, 114, 114, 111, 114, 32])) (.t 17))), none⟩, ⟨8, (.op (.mv (.t 18))), none⟩] [15, 16, 17, 18])
  (.seq (.seq (.reg none [⟨19, (.op (.fa (.t 5) 1)), none⟩, ⟨20, (.op (.load (.t 19) 1 false)), none⟩, ⟨21, (.op (.bin .geq (.t 20) (.k (.int .i64 0)))), none⟩] [19, 20])
  (.cond (.t 21)
    (.seq (.reg none [⟨22, (.op (.load (.t 3) 3 true)), none⟩, ⟨23, (.op (.fa (.t 7) 1)), none⟩, ⟨24, (.op (.load (.t 23) 1 false)), none⟩, ⟨25, (.callL n_ref54_scopeAt [.t 22, .t 24]), none⟩, ⟨0, (.op (.store (.t 7) (.t 25) 5 true)), none⟩] [3, 21, 22, 23, 24, 25])
    (.reg none [⟨26, (.op (.mv (.t 8))), none⟩, ⟨27, (.op (.bin .add (.t 26) (.k (.str [32, 105, 110, 32, 109, 101, 109, 98, 101, 114, 32])))), none⟩, ⟨28, (.op (.fa (.t 5) 1)), none⟩, ⟨29, (.op (.load (.t 28) 1 false)), none⟩, ⟨30, (.callL n_ref01_FormatInt [.t 29]), none⟩, ⟨31, (.op (.bin .add (.t 27) (.t 30))), none⟩, ⟨8, (.op (.mv (.t 31))), none⟩] [26, 27, 28, 29, 30, 31]))
    .skip))
  (.seq (.seq (.reg none [⟨32, (.op (.fa (.t 5) 2)), none⟩, ⟨33, (.op (.load (.t 32) 1 false)), none⟩, ⟨34, (.op (.bin .geq (.t 33) (.k (.int .i64 0)))), none⟩] [3, 21, 32, 33])
  (.cond (.t 34)
    (.reg none [⟨35, (.op (.mv (.t 8))), none⟩, ⟨36, (.op (.bin .add (.t 35) (.k (.str [32, 102, 111, 114, 32])))), none⟩, ⟨37, (.op (.load (.t 7) 5 true)), none⟩, ⟨38, (.op (.fa (.t 5) 2)), none⟩, ⟨39, (.op (.load (.t 38) 1 false)), none⟩, ⟨40, (.callL n_ref54_defName [.t 37, .t 39]), none⟩, ⟨41, (.op (.bin .add (.t 36) (.t 40))), none⟩, ⟨8, (.op (.mv (.t 41))), none⟩] [34, 35, 36, 37, 38, 39, 40, 41])
    .skip))
  (.seq (.seq (.reg none [⟨42, (.op (.fa (.t 5) 3)), none⟩, ⟨43, (.op (.load (.t 42) 1 false)), none⟩, ⟨44, (.op (.bin .geq (.t 43) (.k (.int .i64 0)))), none⟩] [34, 42, 43])
  (.cond (.t 44)
    (.reg none [⟨45, (.op (.mv (.t 8))), none⟩, ⟨46, (.op (.bin .add (.t 45) (.k (.str [32, 98, 121, 32])))), none⟩, ⟨47, (.op (.load (.t 7) 5 true)), none⟩, ⟨48, (.op (.fa (.t 5) 3)), none⟩, ⟨49, (.op (.load (.t 48) 1 false)), none⟩, ⟨50, (.callL n_ref54_ruleName [.t 47, .t 49]), none⟩, ⟨51, (.op (.bin .add (.t 46) (.t 50))), none⟩, ⟨8, (.op (.mv (.t 51))), none⟩] [5, 7, 44, 45, 46, 47, 48, 49, 50, 51])
    .skip))
  (.seq (.reg none [⟨52, (.op (.mv (.t 8))), none⟩, ⟨6, (.op (.mv (.t 52))), none⟩] [5, 7, 8, 44, 52])
  .ret))))))))
theorem k_ref54_EvalError : fnOk Tryd.prog Tryd.f14 c_ref54_EvalError 53 3 [.t 6] = true := by kernel_rfl
theorem u_ref54_EvalError : Tryd.prog.funcs[n_ref54_EvalError]? = some Tryd.f14 := Tryd.func14
/-- guerdon/guerdonref38.Within -/
def c_ref38_Within : FC :=
  (.seq (.reg none [⟨2, (.op (.box (.t 0))), none⟩, ⟨4, (.op (.mv (.k (.bool false)))), none⟩] [0, 4])
  (.seq (.reg none [⟨5, (.op (.fa (.t 2) 1)), none⟩, ⟨6, (.op (.load (.t 5) 1 false)), none⟩, ⟨7, (.op (.mv (.t 1))), none⟩, ⟨8, (.op (.un .neg (.t 7))), none⟩, ⟨9, (.op (.bin .geq (.t 6) (.t 8))), none⟩, ⟨10, (.op (.mv (.t 9))), none⟩, ⟨11, (.op (.fa (.t 2) 1)), some (10, true)⟩, ⟨12, (.op (.load (.t 11) 1 false)), some (10, true)⟩, ⟨13, (.op (.mv (.t 1))), some (10, true)⟩, ⟨14, (.op (.bin .leq (.t 12) (.t 13))), some (10, true)⟩, ⟨15, (.op (.pick (.t 10) (.t 14) (.k (.bool false)))), none⟩, ⟨16, (.op (.mv (.t 15))), none⟩, ⟨17, (.op (.fa (.t 2) 2)), some (16, true)⟩, ⟨18, (.op (.load (.t 17) 1 false)), some (16, true)⟩, ⟨19, (.op (.mv (.t 1))), some (16, true)⟩, ⟨20, (.op (.un .neg (.t 19))), some (16, true)⟩, ⟨21, (.op (.bin .geq (.t 18) (.t 20))), some (16, true)⟩, ⟨22, (.op (.pick (.t 16) (.t 21) (.k (.bool false)))), none⟩, ⟨23, (.op (.mv (.t 22))), none⟩, ⟨24, (.op (.fa (.t 2) 2)), some (23, true)⟩, ⟨25, (.op (.load (.t 24) 1 false)), some (23, true)⟩, ⟨26, (.op (.mv (.t 1))), some (23, true)⟩, ⟨27, (.op (.bin .leq (.t 25) (.t 26))), some (23, true)⟩, ⟨28, (.op (.pick (.t 23) (.t 27) (.k (.bool false)))), none⟩, ⟨29, (.op (.mv (.t 28))), none⟩, ⟨30, (.op (.fa (.t 2) 3)), some (29, true)⟩, ⟨31, (.op (.load (.t 30) 1 false)), some (29, true)⟩, ⟨32, (.op (.mv (.t 1))), some (29, true)⟩, ⟨33, (.op (.un .neg (.t 32))), some (29, true)⟩, ⟨34, (.op (.bin .geq (.t 31) (.t 33))), some (29, true)⟩, ⟨35, (.op (.pick (.t 29) (.t 34) (.k (.bool false)))), none⟩, ⟨36, (.op (.mv (.t 35))), none⟩, ⟨37, (.op (.fa (.t 2) 3)), some (36, true)⟩, ⟨38, (.op (.load (.t 37) 1 false)), some (36, true)⟩, ⟨39, (.op (.mv (.t 1))), some (36, true)⟩, ⟨40, (.op (.bin .leq (.t 38) (.t 39))), some (36, true)⟩, ⟨41, (.op (.pick (.t 36) (.t 40) (.k (.bool false)))), none⟩, ⟨4, (.op (.mv (.t 41))), none⟩] [1, 2, 5, 6, 7, 8, 9, 10, 11, 12, 13, 14, 15, 16, 17, 18, 19, 20, 21, 22, 23, 24, 25, 26, 27, 28, 29, 30, 31, 32, 33, 34, 35, 36, 37, 38, 39, 40, 41])
  .ret))
theorem k_ref38_Within : fnOk Tryd.prog Tryd.f15 c_ref38_Within 42 2 [.t 4] = true := by kernel_rfl
theorem u_ref38_Within : Tryd.prog.funcs[n_ref38_Within]? = some Tryd.f15 := Tryd.func15
/-- guerdon/report.Balances -/
def c_report_Balances : FC :=
  (.seq (.reg none [⟨2, (.op (.mv (.k (.arr [])))), none⟩] [2])
  (.seq (.reg none [⟨3, (.op (.mv (.k (.arr [])))), none⟩] [])
  (.seq (.seq (.reg none [⟨6, (.op (.mv (.t 0))), none⟩, ⟨7, (.op (.len (.t 6))), none⟩, ⟨8, (.op (.mv (.k (.int .i64 0)))), none⟩] [])
  (.block 0 (.loop (.seq (.reg none [⟨9, (.op (.bin .lss (.t 8) (.t 7))), none⟩] [])
      (.seq (.cond (.t 9)
        .skip
        (.exit 0))
      (.seq (.block 1 (.seq (.reg none [⟨10, (.op (.ia (.t 6) (.t 8) 4)), none⟩, ⟨11, (.op (.load (.t 10) 4 true)), none⟩, ⟨5, (.op (.alloc [(.int .i64 0), (.int .i64 0), (.int .i64 0), (.int .i64 0)])), none⟩, ⟨0, (.op (.store (.t 5) (.t 11) 4 true)), none⟩] [9, 10, 11])
        (.reg (some 30) [⟨12, (.op (.mv (.t 3))), none⟩, ⟨13, (.op (.fa (.t 5) 0)), none⟩, ⟨14, (.op (.load (.t 13) 1 false)), none⟩, ⟨15, (.callL n_report_monthText [.t 14]), none⟩, ⟨16, (.op (.bin .add (.t 15) (.k (.str [32, 100, 117, 101, 32])))), none⟩, ⟨17, (.op (.fa (.t 5) 1)), none⟩, ⟨18, (.op (.load (.t 17) 1 false)), none⟩, ⟨19, (.callL n_report_amount [.t 18]), none⟩, ⟨20, (.op (.bin .add (.t 16) (.t 19))), none⟩, ⟨21, (.op (.bin .add (.t 20) (.k (.str [32, 114, 101, 99, 101, 105, 118, 101, 100, 32])))), none⟩, ⟨22, (.op (.fa (.t 5) 2)), none⟩, ⟨23, (.op (.load (.t 22) 1 false)), none⟩, ⟨24, (.callL n_report_amount [.t 23]), none⟩, ⟨25, (.op (.bin .add (.t 21) (.t 24))), none⟩, ⟨26, (.op (.bin .add (.t 25) (.k (.str [32, 119, 97, 105, 118, 101, 100, 32])))), none⟩, ⟨27, (.op (.fa (.t 5) 3)), none⟩, ⟨28, (.op (.load (.t 27) 1 false)), none⟩, ⟨29, (.callL n_report_amount [.t 28]), none⟩, ⟨30, (.op (.bin .add (.t 26) (.t 29))), none⟩, ⟨31, (.op (.bin .add (.t 30) (.k (.str [32, 97, 114, 114, 101, 97, 114, 115, 32])))), none⟩, ⟨32, (.op (.load (.t 5) 4 true)), none⟩, ⟨33, (.callL n_balance_Arrears [.t 32]), none⟩, ⟨34, (.callL n_report_amount [.t 33]), none⟩, ⟨35, (.op (.bin .add (.t 31) (.t 34))), none⟩, ⟨36, (.op (.bin .add (.t 35) (.k (.str [32, 111, 118, 101, 114, 112, 97, 121, 109, 101, 110, 116, 32])))), none⟩, ⟨37, (.op (.load (.t 5) 4 true)), none⟩, ⟨38, (.callL n_balance_Overpayment [.t 37]), none⟩, ⟨39, (.callL n_report_amount [.t 38]), none⟩, ⟨40, (.op (.bin .add (.t 36) (.t 39))), none⟩, ⟨41, (.op (.buildSl [(.str [])] 1 [0] [.t 40])), none⟩, ⟨42, (.op (.app (.t 12) (.t 41) 1 16)), none⟩, ⟨3, (.op (.mvP true (.t 42))), none⟩] [5, 12, 13, 14, 15, 16, 17, 18, 19, 20, 21, 22, 23, 24, 25, 26, 27, 28, 29, 30, 31, 32, 33, 34, 35, 36, 37, 38, 39, 40, 41, 42])))
      (.reg none [⟨43, (.op (.bin .add (.t 8) (.k (.int .i64 1)))), none⟩, ⟨8, (.op (.mv (.t 43))), none⟩] [43])))))))
  (.seq (.reg none [⟨44, (.op (.mv (.t 3))), none⟩, ⟨2, (.op (.mv (.t 44))), none⟩] [0, 6, 7, 8, 9])
  .ret))))
theorem k_report_Balances : fnOk Tryd.prog Tryd.f16 c_report_Balances 45 1 [.t 2] = true := by kernel_rfl
theorem u_report_Balances : Tryd.prog.funcs[n_report_Balances]? = some Tryd.f16 := Tryd.func16
/-- guerdon/guerdonref54.Balances -/
def c_ref54_Balances : FC :=
  (.seq (.reg none [⟨2, (.op (.mv (.k (.arr [])))), none⟩] [2])
  (.seq (.reg none [⟨3, (.op (.mv (.k (.arr [])))), none⟩] [])
  (.seq (.seq (.reg none [⟨4, (.op (.mv (.k (.int .i64 0)))), none⟩] [])
  (.block 0 (.loop (.seq (.seq (.reg none [⟨6, (.op (.mv (.t 4))), none⟩, ⟨7, (.op (.mv (.t 0))), none⟩, ⟨8, (.op (.len (.t 7))), none⟩, ⟨9, (.op (.bin .lss (.t 6) (.t 8))), none⟩] [6, 7, 8])
      (.cond (.t 9)
        .skip
        (.exit 0)))
      (.seq (.block 1 (.seq (.reg none [⟨12, (.op (.mv (.t 0))), none⟩, ⟨13, (.op (.mv (.t 4))), none⟩, ⟨14, (.op (.ia (.t 12) (.t 13) 4)), none⟩, ⟨15, (.op (.load (.t 14) 4 true)), none⟩, ⟨5, (.op (.alloc [(.int .i64 0), (.int .i64 0), (.int .i64 0), (.int .i64 0)])), none⟩, ⟨0, (.op (.store (.t 5) (.t 15) 4 true)), none⟩] [9, 12, 13, 14, 15])
        (.reg (some 30) [⟨16, (.op (.mv (.t 3))), none⟩, ⟨17, (.op (.fa (.t 5) 0)), none⟩, ⟨18, (.op (.load (.t 17) 1 false)), none⟩, ⟨19, (.callL n_ref54_monthText [.t 18]), none⟩, ⟨20, (.op (.bin .add (.t 19) (.k (.str [32, 100, 117, 101, 32])))), none⟩, ⟨21, (.op (.fa (.t 5) 1)), none⟩, ⟨22, (.op (.load (.t 21) 1 false)), none⟩, ⟨23, (.callL n_ref54_amount [.t 22]), none⟩, ⟨24, (.op (.bin .add (.t 20) (.t 23))), none⟩, ⟨25, (.op (.bin .add (.t 24) (.k (.str [32, 114, 101, 99, 101, 105, 118, 101, 100, 32])))), none⟩, ⟨26, (.op (.fa (.t 5) 2)), none⟩, ⟨27, (.op (.load (.t 26) 1 false)), none⟩, ⟨28, (.callL n_ref54_amount [.t 27]), none⟩, ⟨29, (.op (.bin .add (.t 25) (.t 28))), none⟩, ⟨30, (.op (.bin .add (.t 29) (.k (.str [32, 119, 97, 105, 118, 101, 100, 32])))), none⟩, ⟨31, (.op (.fa (.t 5) 3)), none⟩, ⟨32, (.op (.load (.t 31) 1 false)), none⟩, ⟨33, (.callL n_ref54_amount [.t 32]), none⟩, ⟨34, (.op (.bin .add (.t 30) (.t 33))), none⟩, ⟨35, (.op (.bin .add (.t 34) (.k (.str [32, 97, 114, 114, 101, 97, 114, 115, 32])))), none⟩, ⟨36, (.op (.load (.t 5) 4 true)), none⟩, ⟨37, (.callL n_ref38_Arrears [.t 36]), none⟩, ⟨38, (.callL n_ref54_amount [.t 37]), none⟩, ⟨39, (.op (.bin .add (.t 35) (.t 38))), none⟩, ⟨40, (.op (.bin .add (.t 39) (.k (.str [32, 111, 118, 101, 114, 112, 97, 121, 109, 101, 110, 116, 32])))), none⟩, ⟨41, (.op (.load (.t 5) 4 true)), none⟩, ⟨42, (.callL n_ref38_Overpayment [.t 41]), none⟩, ⟨43, (.callL n_ref54_amount [.t 42]), none⟩, ⟨44, (.op (.bin .add (.t 40) (.t 43))), none⟩, ⟨45, (.op (.buildSl [(.str [])] 1 [0] [.t 44])), none⟩, ⟨46, (.op (.app (.t 16) (.t 45) 1 16)), none⟩, ⟨3, (.op (.mvP true (.t 46))), none⟩] [5, 16, 17, 18, 19, 20, 21, 22, 23, 24, 25, 26, 27, 28, 29, 30, 31, 32, 33, 34, 35, 36, 37, 38, 39, 40, 41, 42, 43, 44, 45, 46])))
      (.reg none [⟨10, (.op (.mv (.t 4))), none⟩, ⟨11, (.op (.bin .add (.t 10) (.k (.int .i64 1)))), none⟩, ⟨4, (.op (.mv (.t 11))), none⟩] [10, 11]))))))
  (.seq (.reg none [⟨47, (.op (.mv (.t 3))), none⟩, ⟨2, (.op (.mv (.t 47))), none⟩] [0, 4, 9])
  .ret))))
theorem k_ref54_Balances : fnOk Tryd.prog Tryd.f17 c_ref54_Balances 48 1 [.t 2] = true := by kernel_rfl
theorem u_ref54_Balances : Tryd.prog.funcs[n_ref54_Balances]? = some Tryd.f17 := Tryd.func17
/-- guerdon/report.Postings -/
def c_report_Postings : FC :=
  (.seq (.reg none [⟨2, (.op (.mv (.k (.arr [])))), none⟩] [2])
  (.seq (.reg none [⟨3, (.op (.mv (.k (.arr [])))), none⟩] [])
  (.seq (.seq (.reg none [⟨8, (.op (.mv (.t 0))), none⟩, ⟨9, (.op (.len (.t 8))), none⟩, ⟨10, (.op (.mv (.k (.int .i64 0)))), none⟩] [])
  (.block 0 (.loop (.seq (.reg none [⟨11, (.op (.bin .lss (.t 10) (.t 9))), none⟩] [])
      (.seq (.cond (.t 11)
        .skip
        (.exit 0))
      (.seq (.block 1 (.seq (.reg none [⟨12, (.op (.ia (.t 8) (.t 10) 4)), none⟩, ⟨13, (.op (.load (.t 12) 4 true)), none⟩, ⟨5, (.op (.alloc [(.int .i64 0), (.int .i64 0), (.int .i64 0), (.int .i64 0)])), none⟩, ⟨0, (.op (.store (.t 5) (.t 13) 4 true)), none⟩] [11, 12, 13])
        (.seq (.reg none [⟨15, (.op (.fa (.t 5) 0)), none⟩, ⟨16, (.op (.load (.t 15) 1 false)), none⟩, ⟨17, (.op (.build [(.int .i64 0), (.int .i64 0), (.int .i64 0)] [(0, 1), (2, 1)] [.k (.int .i64 5), .t 16])), none⟩, ⟨18, (.callL n_value_Format [.t 17, .k (.sl true [])]), none⟩, ⟨14, (.op (.mvP true (.t 18))), none⟩, ⟨19, (.op (.extract 14 0)), none⟩, ⟨20, (.op (.extract 14 1)), none⟩, ⟨6, (.op (.mvP true (.t 19))), none⟩, ⟨7, (.op (.mvP true (.t 20))), none⟩] [14, 15, 16, 17, 18, 19, 20])
        (.reg (some 21) [⟨21, (.op (.mv (.t 3))), none⟩, ⟨22, (.op (.mv (.t 6))), none⟩, ⟨23, (.op (.mv (.t 7))), none⟩, ⟨24, (.op (.bin .eql (.t 23) (.k (.int .i64 0)))), none⟩, ⟨25, (.callL n_report_or [.t 22, .t 24]), none⟩, ⟨26, (.op (.bin .add (.t 25) (.k (.str [32])))), none⟩, ⟨27, (.op (.fa (.t 5) 1)), none⟩, ⟨28, (.op (.load (.t 27) 1 false)), none⟩, ⟨29, (.callL n_report_monthText [.t 28]), none⟩, ⟨30, (.op (.bin .add (.t 26) (.t 29))), none⟩, ⟨31, (.op (.bin .add (.t 30) (.k (.str [32])))), none⟩, ⟨32, (.op (.fa (.t 5) 2)), none⟩, ⟨33, (.op (.load (.t 32) 1 false)), none⟩, ⟨34, (.callL n_report_kind [.t 33]), none⟩, ⟨35, (.op (.bin .add (.t 31) (.t 34))), none⟩, ⟨36, (.op (.bin .add (.t 35) (.k (.str [32])))), none⟩, ⟨37, (.op (.fa (.t 5) 3)), none⟩, ⟨38, (.op (.load (.t 37) 1 false)), none⟩, ⟨39, (.callL n_report_amount [.t 38]), none⟩, ⟨40, (.op (.bin .add (.t 36) (.t 39))), none⟩, ⟨41, (.op (.buildSl [(.str [])] 1 [0] [.t 40])), none⟩, ⟨42, (.op (.app (.t 21) (.t 41) 1 16)), none⟩, ⟨3, (.op (.mvP true (.t 42))), none⟩] [5, 6, 7, 21, 22, 23, 24, 25, 26, 27, 28, 29, 30, 31, 32, 33, 34, 35, 36, 37, 38, 39, 40, 41, 42]))))
      (.reg none [⟨43, (.op (.bin .add (.t 10) (.k (.int .i64 1)))), none⟩, ⟨10, (.op (.mv (.t 43))), none⟩] [43])))))))
  (.seq (.reg none [⟨44, (.op (.mv (.t 3))), none⟩, ⟨2, (.op (.mv (.t 44))), none⟩] [0, 8, 9, 10, 11])
  .ret))))
theorem k_report_Postings : fnOk Tryd.prog Tryd.f20 c_report_Postings 45 1 [.t 2] = true := by kernel_rfl
theorem u_report_Postings : Tryd.prog.funcs[n_report_Postings]? = some Tryd.f20 := Tryd.func20
/-- guerdon/guerdonref54.Postings -/
def c_ref54_Postings : FC :=
  (.seq (.reg none [⟨2, (.op (.mv (.k (.arr [])))), none⟩] [2])
  (.seq (.reg none [⟨3, (.op (.mv (.k (.arr [])))), none⟩] [])
  (.seq (.seq (.reg none [⟨4, (.op (.mv (.k (.int .i64 0)))), none⟩] [])
  (.block 0 (.loop (.seq (.seq (.reg none [⟨7, (.op (.mv (.t 4))), none⟩, ⟨8, (.op (.mv (.t 0))), none⟩, ⟨9, (.op (.len (.t 8))), none⟩, ⟨10, (.op (.bin .lss (.t 7) (.t 9))), none⟩] [7, 8, 9])
      (.cond (.t 10)
        .skip
        (.exit 0)))
      (.seq (.block 1 (.seq (.reg none [⟨13, (.op (.mv (.t 0))), none⟩, ⟨14, (.op (.mv (.t 4))), none⟩, ⟨15, (.op (.ia (.t 13) (.t 14) 4)), none⟩, ⟨16, (.op (.load (.t 15) 4 true)), none⟩, ⟨5, (.op (.alloc [(.int .i64 0), (.int .i64 0), (.int .i64 0), (.int .i64 0)])), none⟩, ⟨0, (.op (.store (.t 5) (.t 16) 4 true)), none⟩] [10, 13, 14, 15, 16])
        (.seq (.reg none [⟨17, (.op (.fa (.t 5) 0)), none⟩, ⟨18, (.op (.load (.t 17) 1 false)), none⟩, ⟨19, (.op (.build [(.int .i64 0), (.int .i64 0), (.int .i64 0)] [(0, 1), (2, 1)] [.k (.int .i64 5), .t 18])), none⟩, ⟨20, (.callL n_ref54_valueText [.t 19, .k (.sl true [])]), none⟩, ⟨6, (.op (.mvP true (.t 20))), none⟩] [17, 18, 19, 20])
        (.reg (some 18) [⟨21, (.op (.mv (.t 3))), none⟩, ⟨22, (.op (.mv (.t 6))), none⟩, ⟨23, (.op (.bin .add (.t 22) (.k (.str [32])))), none⟩, ⟨24, (.op (.fa (.t 5) 1)), none⟩, ⟨25, (.op (.load (.t 24) 1 false)), none⟩, ⟨26, (.callL n_ref54_monthText [.t 25]), none⟩, ⟨27, (.op (.bin .add (.t 23) (.t 26))), none⟩, ⟨28, (.op (.bin .add (.t 27) (.k (.str [32])))), none⟩, ⟨29, (.op (.fa (.t 5) 2)), none⟩, ⟨30, (.op (.load (.t 29) 1 false)), none⟩, ⟨31, (.callL n_ref54_kindText [.t 30]), none⟩, ⟨32, (.op (.bin .add (.t 28) (.t 31))), none⟩, ⟨33, (.op (.bin .add (.t 32) (.k (.str [32])))), none⟩, ⟨34, (.op (.fa (.t 5) 3)), none⟩, ⟨35, (.op (.load (.t 34) 1 false)), none⟩, ⟨36, (.callL n_ref54_amount [.t 35]), none⟩, ⟨37, (.op (.bin .add (.t 33) (.t 36))), none⟩, ⟨38, (.op (.buildSl [(.str [])] 1 [0] [.t 37])), none⟩, ⟨39, (.op (.app (.t 21) (.t 38) 1 16)), none⟩, ⟨3, (.op (.mvP true (.t 39))), none⟩] [5, 6, 21, 22, 23, 24, 25, 26, 27, 28, 29, 30, 31, 32, 33, 34, 35, 36, 37, 38, 39]))))
      (.reg none [⟨11, (.op (.mv (.t 4))), none⟩, ⟨12, (.op (.bin .add (.t 11) (.k (.int .i64 1)))), none⟩, ⟨4, (.op (.mv (.t 12))), none⟩] [11, 12]))))))
  (.seq (.reg none [⟨40, (.op (.mv (.t 3))), none⟩, ⟨2, (.op (.mv (.t 40))), none⟩] [0, 4, 10])
  .ret))))
theorem k_ref54_Postings : fnOk Tryd.prog Tryd.f21 c_ref54_Postings 41 1 [.t 2] = true := by kernel_rfl
theorem u_ref54_Postings : Tryd.prog.funcs[n_ref54_Postings]? = some Tryd.f21 := Tryd.func21
/-- guerdon/guerdonsame.smallScope -/
def c_same_smallScope : FC :=
  (.seq (.reg none [⟨1, (.op (.box (.t 0))), none⟩, ⟨2, (.op (.mv (.k (.bool false)))), none⟩] [0, 2])
  (.seq (.seq (.reg none [⟨7, (.op (.fa (.t 1) 0)), none⟩, ⟨8, (.op (.load (.t 7) 1 false)), none⟩, ⟨9, (.op (.lenS (.t 8))), none⟩, ⟨10, (.op (.bin .gtr (.t 9) (.k (.int .i64 80)))), none⟩, ⟨11, (.op (.mv (.t 10))), none⟩, ⟨12, (.op (.fa (.t 1) 2)), some (11, false)⟩, ⟨13, (.op (.load (.t 12) 1 false)), some (11, false)⟩, ⟨14, (.op (.len (.t 13))), some (11, false)⟩, ⟨15, (.op (.bin .gtr (.t 14) (.k (.int .i64 14)))), some (11, false)⟩, ⟨16, (.op (.pick (.t 11) (.k (.bool true)) (.t 15))), none⟩, ⟨17, (.op (.mv (.t 16))), none⟩, ⟨18, (.op (.fa (.t 1) 3)), some (17, false)⟩, ⟨19, (.op (.load (.t 18) 1 false)), some (17, false)⟩, ⟨20, (.op (.len (.t 19))), some (17, false)⟩, ⟨21, (.op (.bin .gtr (.t 20) (.k (.int .i64 14)))), some (17, false)⟩, ⟨22, (.op (.pick (.t 17) (.k (.bool true)) (.t 21))), none⟩, ⟨23, (.op (.mv (.t 22))), none⟩, ⟨24, (.op (.fa (.t 1) 4)), some (23, false)⟩, ⟨25, (.op (.load (.t 24) 1 false)), some (23, false)⟩, ⟨26, (.op (.len (.t 25))), some (23, false)⟩, ⟨27, (.op (.bin .gtr (.t 26) (.k (.int .i64 60)))), some (23, false)⟩, ⟨28, (.op (.pick (.t 23) (.k (.bool true)) (.t 27))), none⟩] [7, 8, 9, 10, 11, 12, 13, 14, 15, 16, 17, 18, 19, 20, 21, 22, 23, 24, 25, 26, 27])
  (.cond (.t 28)
    (.seq (.reg none [⟨2, (.op (.mv (.k (.bool false)))), none⟩] [1, 28])
    .ret)
    .skip))
  (.seq (.seq (.reg none [⟨3, (.op (.mv (.k (.int .i64 0)))), none⟩] [28])
  (.block 0 (.loop (.seq (.seq (.reg none [⟨29, (.op (.mv (.t 3))), none⟩, ⟨30, (.op (.fa (.t 1) 2)), none⟩, ⟨31, (.op (.load (.t 30) 1 false)), none⟩, ⟨32, (.op (.len (.t 31))), none⟩, ⟨33, (.op (.bin .lss (.t 29) (.t 32))), none⟩] [29, 30, 31, 32])
      (.cond (.t 33)
        .skip
        (.exit 0)))
      (.seq (.block 1 (.seq (.reg none [⟨36, (.op (.fa (.t 1) 2)), none⟩, ⟨37, (.op (.load (.t 36) 1 false)), none⟩, ⟨38, (.op (.mv (.t 3))), none⟩, ⟨39, (.op (.ia (.t 37) (.t 38) 3)), none⟩, ⟨40, (.op (.fa (.t 39) 0)), none⟩, ⟨41, (.op (.load (.t 40) 1 false)), none⟩, ⟨42, (.op (.lenS (.t 41))), none⟩, ⟨43, (.op (.bin .gtr (.t 42) (.k (.int .i64 80)))), none⟩] [33, 36, 37, 38, 39, 40, 41, 42])
        (.cond (.t 43)
          (.seq (.reg none [⟨2, (.op (.mv (.k (.bool false)))), none⟩] [1, 3, 43])
          .ret)
          .skip)))
      (.reg none [⟨34, (.op (.mv (.t 3))), none⟩, ⟨35, (.op (.bin .add (.t 34) (.k (.int .i64 1)))), none⟩, ⟨3, (.op (.mv (.t 35))), none⟩] [34, 35, 43]))))))
  (.seq (.seq (.reg none [⟨4, (.op (.mv (.k (.int .i64 0)))), none⟩] [3, 33])
  (.block 2 (.loop (.seq (.seq (.reg none [⟨44, (.op (.mv (.t 4))), none⟩, ⟨45, (.op (.fa (.t 1) 3)), none⟩, ⟨46, (.op (.load (.t 45) 1 false)), none⟩, ⟨47, (.op (.len (.t 46))), none⟩, ⟨48, (.op (.bin .lss (.t 44) (.t 47))), none⟩] [44, 45, 46, 47])
      (.cond (.t 48)
        .skip
        (.exit 2)))
      (.seq (.block 3 (.seq (.reg none [⟨51, (.op (.fa (.t 1) 3)), none⟩, ⟨52, (.op (.load (.t 51) 1 false)), none⟩, ⟨53, (.op (.mv (.t 4))), none⟩, ⟨54, (.op (.ia (.t 52) (.t 53) 3)), none⟩, ⟨55, (.op (.fa (.t 54) 0)), none⟩, ⟨56, (.op (.load (.t 55) 1 false)), none⟩, ⟨57, (.op (.lenS (.t 56))), none⟩, ⟨58, (.op (.bin .gtr (.t 57) (.k (.int .i64 80)))), none⟩] [48, 51, 52, 53, 54, 55, 56, 57])
        (.cond (.t 58)
          (.seq (.reg none [⟨2, (.op (.mv (.k (.bool false)))), none⟩] [1, 4, 58])
          .ret)
          .skip)))
      (.reg none [⟨49, (.op (.mv (.t 4))), none⟩, ⟨50, (.op (.bin .add (.t 49) (.k (.int .i64 1)))), none⟩, ⟨4, (.op (.mv (.t 50))), none⟩] [49, 50, 58]))))))
  (.seq (.seq (.reg none [⟨5, (.op (.mv (.k (.int .i64 0)))), none⟩] [4, 48])
  (.block 4 (.loop (.seq (.seq (.reg none [⟨59, (.op (.mv (.t 5))), none⟩, ⟨60, (.op (.fa (.t 1) 4)), none⟩, ⟨61, (.op (.load (.t 60) 1 false)), none⟩, ⟨62, (.op (.len (.t 61))), none⟩, ⟨63, (.op (.bin .lss (.t 59) (.t 62))), none⟩] [59, 60, 61, 62])
      (.cond (.t 63)
        .skip
        (.exit 4)))
      (.seq (.block 5 (.seq (.reg none [⟨66, (.op (.fa (.t 1) 4)), none⟩, ⟨67, (.op (.load (.t 66) 1 false)), none⟩, ⟨68, (.op (.mv (.t 5))), none⟩, ⟨69, (.op (.ia (.t 67) (.t 68) 9)), none⟩, ⟨70, (.op (.load (.t 69) 9 true)), none⟩, ⟨6, (.op (.alloc [(.str []), (.int .i64 0), (.int .i64 0), (.int .i64 0), (.int .i64 0), (.int .i64 0), (.sl true []), (.sl true []), (.str [])])), none⟩, ⟨0, (.op (.store (.t 6) (.t 70) 9 true)), none⟩] [63, 66, 67, 68, 69, 70])
        (.seq (.reg none [⟨71, (.op (.fa (.t 6) 0)), none⟩, ⟨72, (.op (.load (.t 71) 1 false)), none⟩, ⟨73, (.op (.lenS (.t 72))), none⟩, ⟨74, (.op (.bin .gtr (.t 73) (.k (.int .i64 80)))), none⟩, ⟨75, (.op (.mv (.t 74))), none⟩, ⟨76, (.op (.fa (.t 6) 8)), some (75, false)⟩, ⟨77, (.op (.load (.t 76) 1 false)), some (75, false)⟩, ⟨78, (.op (.lenS (.t 77))), some (75, false)⟩, ⟨79, (.op (.bin .gtr (.t 78) (.k (.int .i64 80)))), some (75, false)⟩, ⟨80, (.op (.pick (.t 75) (.k (.bool true)) (.t 79))), none⟩, ⟨81, (.op (.mv (.t 80))), none⟩, ⟨82, (.op (.fa (.t 6) 6)), some (81, false)⟩, ⟨83, (.op (.load (.t 82) 1 false)), some (81, false)⟩, ⟨84, (.op (.len (.t 83))), some (81, false)⟩, ⟨85, (.op (.bin .gtr (.t 84) (.k (.int .i64 50)))), some (81, false)⟩, ⟨86, (.op (.pick (.t 81) (.k (.bool true)) (.t 85))), none⟩, ⟨87, (.op (.mv (.t 86))), none⟩, ⟨88, (.op (.fa (.t 6) 7)), some (87, false)⟩, ⟨89, (.op (.load (.t 88) 1 false)), some (87, false)⟩, ⟨90, (.op (.len (.t 89))), some (87, false)⟩, ⟨91, (.op (.bin .gtr (.t 90) (.k (.int .i64 50)))), some (87, false)⟩, ⟨92, (.op (.pick (.t 87) (.k (.bool true)) (.t 91))), none⟩] [6, 71, 72, 73, 74, 75, 76, 77, 78, 79, 80, 81, 82, 83, 84, 85, 86, 87, 88, 89, 90, 91])
        (.cond (.t 92)
          (.seq (.reg none [⟨2, (.op (.mv (.k (.bool false)))), none⟩] [1, 5, 92])
          .ret)
          .skip))))
      (.reg none [⟨64, (.op (.mv (.t 5))), none⟩, ⟨65, (.op (.bin .add (.t 64) (.k (.int .i64 1)))), none⟩, ⟨5, (.op (.mv (.t 65))), none⟩] [64, 65, 92]))))))
  (.seq (.reg none [⟨2, (.op (.mv (.k (.bool true)))), none⟩] [1, 5, 63])
  .ret))))))
theorem k_same_smallScope : fnOk Tryd.prog Tryd.f22 c_same_smallScope 93 1 [.t 2] = true := by kernel_rfl
theorem u_same_smallScope : Tryd.prog.funcs[n_same_smallScope]? = some Tryd.f22 := Tryd.func22
/-- guerdon/report.lines -/
def c_report_lines : FC :=
  (.seq (.reg none [⟨5, (.op (.box (.t 0))), none⟩, ⟨6, (.op (.box (.t 1))), none⟩, ⟨10, (.op (.mv (.k (.arr [])))), none⟩] [0, 1, 10])
  (.seq (.reg none [⟨11, (.op (.mv (.k (.arr [])))), none⟩] [])
  (.seq (.seq (.reg none [⟨17, (.op (.mv (.t 3))), none⟩, ⟨18, (.op (.len (.t 17))), none⟩, ⟨19, (.op (.mv (.k (.int .i64 0)))), none⟩] [])
  (.block 0 (.loop (.seq (.reg none [⟨20, (.op (.bin .lss (.t 19) (.t 18))), none⟩] [])
      (.seq (.cond (.t 20)
        .skip
        (.exit 0))
      (.seq (.block 1 (.seq (.reg none [⟨21, (.op (.mv (.t 19))), none⟩, ⟨22, (.op (.ia (.t 17) (.t 19) 3)), none⟩, ⟨23, (.op (.load (.t 22) 3 true)), none⟩, ⟨13, (.op (.alloc [(.int .i64 0), (.int .i64 0), (.int .i64 0)])), none⟩, ⟨12, (.op (.mv (.t 21))), none⟩, ⟨0, (.op (.store (.t 13) (.t 23) 3 true)), none⟩] [20, 21, 22, 23])
        (.seq (.reg none [⟨25, (.op (.load (.t 13) 3 true)), none⟩, ⟨26, (.op (.fa (.t 5) 0)), none⟩, ⟨27, (.op (.load (.t 26) 1 false)), none⟩, ⟨28, (.callL n_value_Format [.t 25, .t 27]), none⟩, ⟨24, (.op (.mvP true (.t 28))), none⟩, ⟨29, (.op (.extract 24 0)), none⟩, ⟨30, (.op (.extract 24 1)), none⟩, ⟨14, (.op (.mvP true (.t 29))), none⟩, ⟨15, (.op (.mvP true (.t 30))), none⟩] [13, 24, 25, 26, 27, 28, 29, 30])
        (.seq (.reg none [⟨16, (.op (.mv (.k (.str [63])))), none⟩] [])
        (.seq (.seq (.reg none [⟨31, (.op (.mv (.t 12))), none⟩, ⟨32, (.op (.mv (.t 4))), none⟩, ⟨33, (.op (.len (.t 32))), none⟩, ⟨34, (.op (.bin .lss (.t 31) (.t 33))), none⟩] [31, 32, 33])
        (.cond (.t 34)
          (.reg (some 6) [⟨35, (.op (.load (.t 6) 5 true)), none⟩, ⟨36, (.op (.mv (.t 4))), none⟩, ⟨37, (.op (.mv (.t 12))), none⟩, ⟨38, (.op (.ia (.t 36) (.t 37) 1)), none⟩, ⟨39, (.op (.load (.t 38) 1 false)), none⟩, ⟨40, (.callL n_report_ruleName [.t 35, .t 39]), none⟩, ⟨16, (.op (.mvP true (.t 40))), none⟩] [34, 35, 36, 37, 38, 39, 40])
          .skip))
        (.reg none [⟨41, (.op (.mv (.t 11))), none⟩, ⟨42, (.op (.mv (.t 2))), none⟩, ⟨43, (.op (.load (.t 6) 5 true)), none⟩, ⟨44, (.op (.mv (.t 12))), none⟩, ⟨45, (.callL n_report_defName [.t 43, .t 44]), none⟩, ⟨46, (.op (.bin .add (.t 42) (.t 45))), none⟩, ⟨47, (.op (.bin .add (.t 46) (.k (.str [32, 61, 32])))), none⟩, ⟨48, (.op (.mv (.t 14))), none⟩, ⟨49, (.op (.mv (.t 15))), none⟩, ⟨50, (.op (.bin .eql (.t 49) (.k (.int .i64 0)))), none⟩, ⟨51, (.callL n_report_or [.t 48, .t 50]), none⟩, ⟨52, (.op (.bin .add (.t 47) (.t 51))), none⟩, ⟨53, (.op (.bin .add (.t 52) (.k (.str [32, 98, 121, 32])))), none⟩, ⟨54, (.op (.mv (.t 16))), none⟩, ⟨55, (.op (.bin .add (.t 53) (.t 54))), none⟩, ⟨56, (.op (.buildSl [(.str [])] 1 [0] [.t 55])), none⟩, ⟨57, (.op (.app (.t 41) (.t 56) 1 16)), none⟩, ⟨11, (.op (.mvP true (.t 57))), none⟩] [12, 14, 15, 16, 34, 41, 42, 43, 44, 45, 46, 47, 48, 49, 50, 51, 52, 53, 54, 55, 56, 57]))))))
      (.reg none [⟨58, (.op (.bin .add (.t 19) (.k (.int .i64 1)))), none⟩, ⟨19, (.op (.mv (.t 58))), none⟩] [58])))))))
  (.seq (.reg none [⟨59, (.op (.mv (.t 11))), none⟩, ⟨10, (.op (.mv (.t 59))), none⟩] [2, 3, 4, 5, 6, 17, 18, 19, 20])
  .ret))))
theorem k_report_lines : fnOk Tryd.prog Tryd.f25 c_report_lines 60 5 [.t 10] = true := by kernel_rfl
theorem u_report_lines : Tryd.prog.funcs[n_report_lines]? = some Tryd.f25 := Tryd.func25
/-- guerdon/guerdonref54.lines -/
def c_ref54_lines : FC :=
  (.seq (.reg none [⟨8, (.op (.box (.t 2))), none⟩, ⟨9, (.op (.box (.t 3))), none⟩, ⟨12, (.op (.mv (.k (.arr [])))), none⟩] [2, 3, 12])
  (.seq (.seq (.reg none [⟨13, (.op (.mv (.k (.int .i64 0)))), none⟩] [])
  (.block 0 (.loop (.seq (.seq (.reg none [⟨15, (.op (.mv (.t 13))), none⟩, ⟨16, (.op (.mv (.t 4))), none⟩, ⟨17, (.op (.len (.t 16))), none⟩, ⟨18, (.op (.bin .lss (.t 15) (.t 17))), none⟩] [15, 16, 17])
      (.cond (.t 18)
        .skip
        (.exit 0)))
      (.seq (.block 1 (.seq (.reg none [⟨14, (.op (.mv (.k (.int .i64 (-1))))), none⟩] [18])
        (.seq (.seq (.reg none [⟨21, (.op (.mv (.t 13))), none⟩, ⟨22, (.op (.mv (.t 5))), none⟩, ⟨23, (.op (.len (.t 22))), none⟩, ⟨24, (.op (.bin .lss (.t 21) (.t 23))), none⟩] [21, 22, 23])
        (.cond (.t 24)
          (.reg none [⟨25, (.op (.mv (.t 5))), none⟩, ⟨26, (.op (.mv (.t 13))), none⟩, ⟨27, (.op (.ia (.t 25) (.t 26) 1)), none⟩, ⟨28, (.op (.load (.t 27) 1 false)), none⟩, ⟨14, (.op (.mv (.t 28))), none⟩] [24, 25, 26, 27, 28])
          .skip))
        (.reg (some 21) [⟨29, (.op (.mv (.t 0))), none⟩, ⟨30, (.op (.mv (.t 1))), none⟩, ⟨31, (.op (.load (.t 9) 5 true)), none⟩, ⟨32, (.op (.mv (.t 13))), none⟩, ⟨33, (.callL n_ref54_defName [.t 31, .t 32]), none⟩, ⟨34, (.op (.bin .add (.t 30) (.t 33))), none⟩, ⟨35, (.op (.bin .add (.t 34) (.k (.str [32, 61, 32])))), none⟩, ⟨36, (.op (.mv (.t 4))), none⟩, ⟨37, (.op (.mv (.t 13))), none⟩, ⟨38, (.op (.ia (.t 36) (.t 37) 3)), none⟩, ⟨39, (.op (.load (.t 38) 3 true)), none⟩, ⟨40, (.op (.fa (.t 8) 0)), none⟩, ⟨41, (.op (.load (.t 40) 1 false)), none⟩, ⟨42, (.callL n_ref54_valueText [.t 39, .t 41]), none⟩, ⟨43, (.op (.bin .add (.t 35) (.t 42))), none⟩, ⟨44, (.op (.bin .add (.t 43) (.k (.str [32, 98, 121, 32])))), none⟩, ⟨45, (.op (.load (.t 9) 5 true)), none⟩, ⟨46, (.op (.mv (.t 14))), none⟩, ⟨47, (.callL n_ref54_ruleName [.t 45, .t 46]), none⟩, ⟨48, (.op (.bin .add (.t 44) (.t 47))), none⟩, ⟨49, (.op (.buildSl [(.str [])] 1 [0] [.t 48])), none⟩, ⟨50, (.op (.app (.t 29) (.t 49) 1 16)), none⟩, ⟨0, (.op (.mvP true (.t 50))), none⟩] [14, 24, 29, 30, 31, 32, 33, 34, 35, 36, 37, 38, 39, 40, 41, 42, 43, 44, 45, 46, 47, 48, 49, 50]))))
      (.reg none [⟨19, (.op (.mv (.t 13))), none⟩, ⟨20, (.op (.bin .add (.t 19) (.k (.int .i64 1)))), none⟩, ⟨13, (.op (.mv (.t 20))), none⟩] [19, 20]))))))
  (.seq (.reg none [⟨51, (.op (.mv (.t 0))), none⟩, ⟨12, (.op (.mv (.t 51))), none⟩] [1, 4, 5, 8, 9, 13, 18])
  .ret)))
theorem k_ref54_lines : fnOk Tryd.prog Tryd.f29 c_ref54_lines 52 6 [.t 12] = true := by kernel_rfl
theorem u_ref54_lines : Tryd.prog.funcs[n_ref54_lines]? = some Tryd.f29 := Tryd.func29
/-- guerdon/guerdonsame.TinyLaw -/
def c_same_TinyLaw : FC :=
  (.seq (.reg none [⟨2, (.op (.alloc [(.sl true []), (.sl true []), (.sl true [])])), none⟩] [])
  (.seq (.reg none [⟨6, (.op (.build [(.int .i64 0), (.int .i64 0)] [(0, 1), (1, 1)] [.k (.int .i64 0), .k (.int .i64 109573)])), none⟩, ⟨3, (.op (.alloc [(.int .i64 0), (.int .i64 0)])), none⟩, ⟨0, (.op (.store (.t 3) (.t 6) 2 true)), none⟩] [6])
  (.seq (.reg none [⟨7, (.op (.build [(.int .i64 0), (.int .i64 0)] [(0, 1)] [.k (.int .i64 3)])), none⟩, ⟨4, (.op (.alloc [(.int .i64 0), (.int .i64 0)])), none⟩, ⟨0, (.op (.store (.t 4) (.t 7) 2 true)), none⟩] [7])
  (.seq (.reg none [⟨8, (.op (.load (.t 3) 2 true)), none⟩, ⟨9, (.op (.mv (.t 0))), none⟩, ⟨10, (.op (.build [(.str []), (.int .i64 0), (.int .i64 0), (.int .i64 0), (.int .i64 0), (.int .i64 0), (.sl true []), (.sl true []), (.str [])] [(0, 1), (2, 1), (4, 2), (7, 1)] [.k (.str [98, 97, 115, 101]), .k (.int .i64 (-1)), .t 8, .t 9])), none⟩, ⟨5, (.op (.alloc [(.str []), (.int .i64 0), (.int .i64 0), (.int .i64 0), (.int .i64 0), (.int .i64 0), (.sl true []), (.sl true []), (.str [])])), none⟩, ⟨0, (.op (.store (.t 5) (.t 10) 9 true)), none⟩] [0, 3, 8, 9, 10])
  (.seq (.reg none [⟨11, (.op (.load (.t 4) 2 true)), none⟩, ⟨12, (.op (.build [(.str []), (.int .i64 0), (.int .i64 0)] [(0, 1), (1, 2)] [.k (.str [97]), .t 11])), none⟩, ⟨13, (.op (.buildSl [(.str []), (.int .i64 0), (.int .i64 0)] 1 [0] [.t 12])), none⟩, ⟨14, (.op (.load (.t 4) 2 true)), none⟩, ⟨15, (.op (.build [(.str []), (.int .i64 0), (.int .i64 0)] [(0, 1), (1, 2)] [.k (.str [100]), .t 14])), none⟩, ⟨16, (.op (.buildSl [(.str []), (.int .i64 0), (.int .i64 0)] 1 [0] [.t 15])), none⟩, ⟨17, (.op (.load (.t 5) 9 true)), none⟩, ⟨18, (.op (.buildSl [(.str []), (.int .i64 0), (.int .i64 0), (.int .i64 0), (.int .i64 0), (.int .i64 0), (.sl true []), (.sl true []), (.str [])] 1 [0] [.t 17])), none⟩, ⟨19, (.op (.build [(.str []), (.int .i64 0), (.sl true []), (.sl true []), (.sl true [])] [(0, 1), (1, 1), (2, 1), (3, 1), (4, 1)] [.k (.str [104, 111, 117, 115, 101]), .k (.int .i64 (-1)), .t 13, .t 16, .t 18])), none⟩, ⟨20, (.op (.buildSl [(.str []), (.int .i64 0), (.sl true []), (.sl true []), (.sl true [])] 1 [0] [.t 19])), none⟩, ⟨21, (.op (.build [(.sl true []), (.sl true []), (.sl true [])] [(2, 1)] [.t 20])), none⟩, ⟨0, (.op (.store (.t 2) (.t 21) 3 true)), none⟩] [4, 5, 11, 12, 13, 14, 15, 16, 17, 18, 19, 20, 21])
  .ret)))))
theorem k_same_TinyLaw : fnOk Tryd.prog Tryd.f23 c_same_TinyLaw 22 1 [.c 2 3 true] = true := by kernel_rfl
theorem u_same_TinyLaw : Tryd.prog.funcs[n_same_TinyLaw]? = some Tryd.f23 := Tryd.func23
/-- guerdon/guerdonlaw54.few -/
def c_law54_few : FC :=
  (.seq (.reg none [⟨1, (.op (.box (.t 0))), none⟩, ⟨2, (.op (.mv (.k (.bool false)))), none⟩] [0, 2])
  (.seq (.seq (.reg none [⟨4, (.op (.fa (.t 1) 0)), none⟩, ⟨5, (.op (.load (.t 4) 1 false)), none⟩, ⟨6, (.op (.len (.t 5))), none⟩, ⟨7, (.op (.bin .gtr (.t 6) (.k (.int .i64 20)))), none⟩, ⟨8, (.op (.mv (.t 7))), none⟩, ⟨9, (.op (.fa (.t 1) 1)), some (8, false)⟩, ⟨10, (.op (.load (.t 9) 1 false)), some (8, false)⟩, ⟨11, (.op (.len (.t 10))), some (8, false)⟩, ⟨12, (.op (.bin .gtr (.t 11) (.k (.int .i64 20)))), some (8, false)⟩, ⟨13, (.op (.pick (.t 8) (.k (.bool true)) (.t 12))), none⟩, ⟨14, (.op (.mv (.t 13))), none⟩, ⟨15, (.op (.fa (.t 1) 2)), some (14, false)⟩, ⟨16, (.op (.load (.t 15) 1 false)), some (14, false)⟩, ⟨17, (.op (.len (.t 16))), some (14, false)⟩, ⟨18, (.op (.bin .gtr (.t 17) (.k (.int .i64 12)))), some (14, false)⟩, ⟨19, (.op (.pick (.t 14) (.k (.bool true)) (.t 18))), none⟩] [4, 5, 6, 7, 8, 9, 10, 11, 12, 13, 14, 15, 16, 17, 18])
  (.cond (.t 19)
    (.seq (.reg none [⟨2, (.op (.mv (.k (.bool false)))), none⟩] [1, 19])
    .ret)
    .skip))
  (.seq (.seq (.reg none [⟨3, (.op (.mv (.k (.int .i64 0)))), none⟩] [19])
  (.block 0 (.loop (.seq (.seq (.reg none [⟨20, (.op (.mv (.t 3))), none⟩, ⟨21, (.op (.fa (.t 1) 2)), none⟩, ⟨22, (.op (.load (.t 21) 1 false)), none⟩, ⟨23, (.op (.len (.t 22))), none⟩, ⟨24, (.op (.bin .lss (.t 20) (.t 23))), none⟩] [20, 21, 22, 23])
      (.cond (.t 24)
        .skip
        (.exit 0)))
      (.seq (.block 1 (.seq (.reg none [⟨27, (.op (.fa (.t 1) 2)), none⟩, ⟨28, (.op (.load (.t 27) 1 false)), none⟩, ⟨29, (.op (.mv (.t 3))), none⟩, ⟨30, (.op (.ia (.t 28) (.t 29) 2)), none⟩, ⟨31, (.op (.fa (.t 30) 0)), none⟩, ⟨32, (.op (.load (.t 31) 1 false)), none⟩, ⟨33, (.op (.len (.t 32))), none⟩, ⟨34, (.op (.bin .gtr (.t 33) (.k (.int .i64 20)))), none⟩, ⟨35, (.op (.mv (.t 34))), none⟩, ⟨36, (.op (.fa (.t 1) 2)), some (35, false)⟩, ⟨37, (.op (.load (.t 36) 1 false)), some (35, false)⟩, ⟨38, (.op (.mv (.t 3))), some (35, false)⟩, ⟨39, (.op (.ia (.t 37) (.t 38) 2)), some (35, false)⟩, ⟨40, (.op (.fa (.t 39) 1)), some (35, false)⟩, ⟨41, (.op (.load (.t 40) 1 false)), some (35, false)⟩, ⟨42, (.op (.len (.t 41))), some (35, false)⟩, ⟨43, (.op (.bin .gtr (.t 42) (.k (.int .i64 20)))), some (35, false)⟩, ⟨44, (.op (.pick (.t 35) (.k (.bool true)) (.t 43))), none⟩] [24, 27, 28, 29, 30, 31, 32, 33, 34, 35, 36, 37, 38, 39, 40, 41, 42, 43])
        (.cond (.t 44)
          (.seq (.reg none [⟨2, (.op (.mv (.k (.bool false)))), none⟩] [1, 3, 44])
          .ret)
          .skip)))
      (.reg none [⟨25, (.op (.mv (.t 3))), none⟩, ⟨26, (.op (.bin .add (.t 25) (.k (.int .i64 1)))), none⟩, ⟨3, (.op (.mv (.t 26))), none⟩] [25, 26, 44]))))))
  (.seq (.reg none [⟨2, (.op (.mv (.k (.bool true)))), none⟩] [1, 3, 24])
  .ret))))
theorem k_law54_few : fnOk Tryd.prog Tryd.f8 c_law54_few 45 1 [.t 2] = true := by kernel_rfl
theorem u_law54_few : Tryd.prog.funcs[n_law54_few]? = some Tryd.f8 := Tryd.func8
/-- guerdon/guerdonsame.SmallLaw -/
def c_same_SmallLaw : FC :=
  (.seq (.reg none [⟨1, (.op (.box (.t 0))), none⟩, ⟨2, (.op (.mv (.k (.bool false)))), none⟩] [0, 2])
  (.seq (.seq (.reg none [⟨9, (.op (.fa (.t 1) 0)), none⟩, ⟨10, (.op (.load (.t 9) 1 false)), none⟩, ⟨11, (.op (.len (.t 10))), none⟩, ⟨12, (.op (.bin .gtr (.t 11) (.k (.int .i64 9)))), none⟩, ⟨13, (.op (.mv (.t 12))), none⟩, ⟨14, (.op (.fa (.t 1) 1)), some (13, false)⟩, ⟨15, (.op (.load (.t 14) 1 false)), some (13, false)⟩, ⟨16, (.op (.len (.t 15))), some (13, false)⟩, ⟨17, (.op (.bin .gtr (.t 16) (.k (.int .i64 9)))), some (13, false)⟩, ⟨18, (.op (.pick (.t 13) (.k (.bool true)) (.t 17))), none⟩, ⟨19, (.op (.mv (.t 18))), none⟩, ⟨20, (.op (.fa (.t 1) 2)), some (19, false)⟩, ⟨21, (.op (.load (.t 20) 1 false)), some (19, false)⟩, ⟨22, (.op (.len (.t 21))), some (19, false)⟩, ⟨23, (.op (.bin .gtr (.t 22) (.k (.int .i64 5)))), some (19, false)⟩, ⟨24, (.op (.pick (.t 19) (.k (.bool true)) (.t 23))), none⟩] [9, 10, 11, 12, 13, 14, 15, 16, 17, 18, 19, 20, 21, 22, 23])
  (.cond (.t 24)
    (.seq (.reg none [⟨2, (.op (.mv (.k (.bool false)))), none⟩] [1, 24])
    .ret)
    .skip))
  (.seq (.reg none [⟨3, (.op (.mv (.k (.int .i64 0)))), none⟩] [24])
  (.seq (.reg none [⟨4, (.op (.mv (.k (.int .i64 0)))), none⟩] [])
  (.seq (.seq (.reg none [⟨5, (.op (.mv (.k (.int .i64 0)))), none⟩] [])
  (.block 0 (.loop (.seq (.seq (.reg none [⟨25, (.op (.mv (.t 5))), none⟩, ⟨26, (.op (.fa (.t 1) 0)), none⟩, ⟨27, (.op (.load (.t 26) 1 false)), none⟩, ⟨28, (.op (.len (.t 27))), none⟩, ⟨29, (.op (.bin .lss (.t 25) (.t 28))), none⟩] [25, 26, 27, 28])
      (.cond (.t 29)
        .skip
        (.exit 0)))
      (.seq (.block 1 (.seq (.seq (.reg none [⟨32, (.op (.fa (.t 1) 0)), none⟩, ⟨33, (.op (.load (.t 32) 1 false)), none⟩, ⟨34, (.op (.mv (.t 5))), none⟩, ⟨35, (.op (.ia (.t 33) (.t 34) 2)), none⟩, ⟨36, (.op (.fa (.t 35) 0)), none⟩, ⟨37, (.op (.load (.t 36) 1 false)), none⟩, ⟨38, (.op (.lenS (.t 37))), none⟩, ⟨39, (.op (.bin .gtr (.t 38) (.k (.int .i64 80)))), none⟩, ⟨40, (.op (.mv (.t 39))), none⟩, ⟨41, (.op (.fa (.t 1) 0)), some (40, false)⟩, ⟨42, (.op (.load (.t 41) 1 false)), some (40, false)⟩, ⟨43, (.op (.mv (.t 5))), some (40, false)⟩, ⟨44, (.op (.ia (.t 42) (.t 43) 2)), some (40, false)⟩, ⟨45, (.op (.fa (.t 44) 1)), some (40, false)⟩, ⟨46, (.op (.load (.t 45) 1 false)), some (40, false)⟩, ⟨47, (.op (.len (.t 46))), some (40, false)⟩, ⟨48, (.op (.bin .gtr (.t 47) (.k (.int .i64 20)))), some (40, false)⟩, ⟨49, (.op (.pick (.t 40) (.k (.bool true)) (.t 48))), none⟩] [29, 32, 33, 34, 35, 36, 37, 38, 39, 40, 41, 42, 43, 44, 45, 46, 47, 48])
        (.cond (.t 49)
          (.seq (.reg none [⟨2, (.op (.mv (.k (.bool false)))), none⟩] [1, 3, 4, 5, 49])
          .ret)
          .skip))
        (.seq (.reg none [⟨6, (.op (.mv (.k (.int .i64 0)))), none⟩] [49])
        (.block 2 (.loop (.seq (.seq (.reg none [⟨50, (.op (.mv (.t 6))), none⟩, ⟨51, (.op (.fa (.t 1) 0)), none⟩, ⟨52, (.op (.load (.t 51) 1 false)), none⟩, ⟨53, (.op (.mv (.t 5))), none⟩, ⟨54, (.op (.ia (.t 52) (.t 53) 2)), none⟩, ⟨55, (.op (.fa (.t 54) 1)), none⟩, ⟨56, (.op (.load (.t 55) 1 false)), none⟩, ⟨57, (.op (.len (.t 56))), none⟩, ⟨58, (.op (.bin .lss (.t 50) (.t 57))), none⟩] [50, 51, 52, 53, 54, 55, 56, 57])
            (.cond (.t 58)
              .skip
              (.exit 2)))
            (.seq (.block 3 (.seq (.reg none [⟨61, (.op (.fa (.t 1) 0)), none⟩, ⟨62, (.op (.load (.t 61) 1 false)), none⟩, ⟨63, (.op (.mv (.t 5))), none⟩, ⟨64, (.op (.ia (.t 62) (.t 63) 2)), none⟩, ⟨65, (.op (.fa (.t 64) 1)), none⟩, ⟨66, (.op (.load (.t 65) 1 false)), none⟩, ⟨67, (.op (.mv (.t 6))), none⟩, ⟨68, (.op (.ia (.t 66) (.t 67) 1)), none⟩, ⟨69, (.op (.load (.t 68) 1 false)), none⟩, ⟨70, (.op (.lenS (.t 69))), none⟩, ⟨71, (.op (.bin .gtr (.t 70) (.k (.int .i64 80)))), none⟩] [58, 61, 62, 63, 64, 65, 66, 67, 68, 69, 70])
              (.cond (.t 71)
                (.seq (.reg none [⟨2, (.op (.mv (.k (.bool false)))), none⟩] [1, 3, 4, 5, 6, 71])
                .ret)
                .skip)))
            (.reg none [⟨59, (.op (.mv (.t 6))), none⟩, ⟨60, (.op (.bin .add (.t 59) (.k (.int .i64 1)))), none⟩, ⟨6, (.op (.mv (.t 60))), none⟩] [59, 60, 71]))))))))
      (.reg none [⟨30, (.op (.mv (.t 5))), none⟩, ⟨31, (.op (.bin .add (.t 30) (.k (.int .i64 1)))), none⟩, ⟨5, (.op (.mv (.t 31))), none⟩] [6, 30, 31, 58]))))))
  (.seq (.seq (.reg none [⟨7, (.op (.mv (.k (.int .i64 0)))), none⟩] [5, 29])
  (.block 4 (.loop (.seq (.seq (.reg none [⟨72, (.op (.mv (.t 7))), none⟩, ⟨73, (.op (.fa (.t 1) 1)), none⟩, ⟨74, (.op (.load (.t 73) 1 false)), none⟩, ⟨75, (.op (.len (.t 74))), none⟩, ⟨76, (.op (.bin .lss (.t 72) (.t 75))), none⟩] [72, 73, 74, 75])
      (.cond (.t 76)
        .skip
        (.exit 4)))
      (.seq (.block 5 (.seq (.reg none [⟨79, (.op (.mv (.t 3))), none⟩, ⟨80, (.op (.fa (.t 1) 1)), none⟩, ⟨81, (.op (.load (.t 80) 1 false)), none⟩, ⟨82, (.op (.mv (.t 7))), none⟩, ⟨83, (.op (.ia (.t 81) (.t 82) 6)), none⟩, ⟨84, (.op (.fa (.t 83) 5)), none⟩, ⟨85, (.op (.load (.t 84) 1 false)), none⟩, ⟨86, (.op (.len (.t 85))), none⟩, ⟨87, (.op (.bin .add (.t 79) (.t 86))), none⟩, ⟨3, (.op (.mv (.t 87))), none⟩] [76, 79, 80, 81, 82, 83, 84, 85, 86, 87])
        (.seq (.reg none [⟨88, (.op (.fa (.t 1) 1)), none⟩, ⟨89, (.op (.load (.t 88) 1 false)), none⟩, ⟨90, (.op (.mv (.t 7))), none⟩, ⟨91, (.op (.ia (.t 89) (.t 90) 6)), none⟩, ⟨92, (.op (.fa (.t 91) 0)), none⟩, ⟨93, (.op (.load (.t 92) 1 false)), none⟩, ⟨94, (.op (.lenS (.t 93))), none⟩, ⟨95, (.op (.bin .gtr (.t 94) (.k (.int .i64 80)))), none⟩, ⟨96, (.op (.mv (.t 95))), none⟩, ⟨97, (.op (.mv (.t 3))), some (96, false)⟩, ⟨98, (.op (.bin .gtr (.t 97) (.k (.int .i64 150)))), some (96, false)⟩, ⟨99, (.op (.pick (.t 96) (.k (.bool true)) (.t 98))), none⟩] [88, 89, 90, 91, 92, 93, 94, 95, 96, 97, 98])
        (.cond (.t 99)
          (.seq (.reg none [⟨2, (.op (.mv (.k (.bool false)))), none⟩] [1, 3, 4, 7, 99])
          .ret)
          .skip))))
      (.reg none [⟨77, (.op (.mv (.t 7))), none⟩, ⟨78, (.op (.bin .add (.t 77) (.k (.int .i64 1)))), none⟩, ⟨7, (.op (.mv (.t 78))), none⟩] [77, 78, 99]))))))
  (.seq (.seq (.reg none [⟨8, (.op (.mv (.k (.int .i64 0)))), none⟩] [3, 7, 76])
  (.block 6 (.loop (.seq (.seq (.reg none [⟨100, (.op (.mv (.t 8))), none⟩, ⟨101, (.op (.fa (.t 1) 2)), none⟩, ⟨102, (.op (.load (.t 101) 1 false)), none⟩, ⟨103, (.op (.len (.t 102))), none⟩, ⟨104, (.op (.bin .lss (.t 100) (.t 103))), none⟩] [100, 101, 102, 103])
      (.cond (.t 104)
        .skip
        (.exit 6)))
      (.seq (.block 7 (.seq (.reg none [⟨107, (.op (.mv (.t 4))), none⟩, ⟨108, (.op (.fa (.t 1) 2)), none⟩, ⟨109, (.op (.load (.t 108) 1 false)), none⟩, ⟨110, (.op (.mv (.t 8))), none⟩, ⟨111, (.op (.ia (.t 109) (.t 110) 5)), none⟩, ⟨112, (.op (.fa (.t 111) 4)), none⟩, ⟨113, (.op (.load (.t 112) 1 false)), none⟩, ⟨114, (.op (.len (.t 113))), none⟩, ⟨115, (.op (.bin .add (.t 107) (.t 114))), none⟩, ⟨4, (.op (.mv (.t 115))), none⟩] [104, 107, 108, 109, 110, 111, 112, 113, 114, 115])
        (.seq (.reg none [⟨116, (.op (.mv (.t 4))), none⟩, ⟨117, (.op (.bin .gtr (.t 116) (.k (.int .i64 60)))), none⟩, ⟨118, (.op (.mv (.t 117))), none⟩, ⟨119, (.op (.fa (.t 1) 2)), some (118, false)⟩, ⟨120, (.op (.load (.t 119) 1 false)), some (118, false)⟩, ⟨121, (.op (.mv (.t 8))), some (118, false)⟩, ⟨122, (.op (.ia (.t 120) (.t 121) 5)), some (118, false)⟩, ⟨123, (.op (.load (.t 122) 5 true)), some (118, false)⟩, ⟨124, (.callL n_same_smallScope [.t 123]), some (118, false)⟩, ⟨125, (.op (.un .not (.t 124))), some (118, false)⟩, ⟨126, (.op (.pick (.t 118) (.k (.bool true)) (.t 125))), none⟩] [116, 117, 118, 119, 120, 121, 122, 123, 124, 125])
        (.cond (.t 126)
          (.seq (.reg none [⟨2, (.op (.mv (.k (.bool false)))), none⟩] [1, 4, 8, 126])
          .ret)
          .skip))))
      (.reg none [⟨105, (.op (.mv (.t 8))), none⟩, ⟨106, (.op (.bin .add (.t 105) (.k (.int .i64 1)))), none⟩, ⟨8, (.op (.mv (.t 106))), none⟩] [105, 106, 126]))))))
  (.seq (.reg none [⟨2, (.op (.mv (.k (.bool true)))), none⟩] [1, 4, 8, 104])
  .ret))))))))
theorem k_same_SmallLaw : fnOk Tryd.prog Tryd.f7 c_same_SmallLaw 127 1 [.t 2] = true := by kernel_rfl
theorem u_same_SmallLaw : Tryd.prog.funcs[n_same_SmallLaw]? = some Tryd.f7 := Tryd.func7
/-- guerdon/guerdonlaw54.ReportPostings -/
def c_law54_ReportPostings : FC :=
  (.seq (.reg none [⟨2, (.op (.mv (.k (.bool false)))), none⟩] [2])
  (.seq (.seq (.reg none [⟨3, (.op (.mv (.t 0))), none⟩, ⟨4, (.op (.len (.t 3))), none⟩, ⟨5, (.op (.bin .gtr (.t 4) (.k (.int .i64 200)))), none⟩] [3, 4])
  (.cond (.t 5)
    (.seq (.reg none [⟨6, (.callL n_law54_awake []), none⟩, ⟨2, (.op (.mvP true (.t 6))), none⟩] [0, 5, 6])
    .ret)
    .skip))
  (.seq (.reg none [⟨7, (.op (.mv (.t 0))), none⟩, ⟨8, (.callL n_report_Postings [.t 7]), none⟩, ⟨9, (.op (.mv (.t 0))), none⟩, ⟨10, (.callL n_ref54_Postings [.t 9]), none⟩, ⟨11, (.callB n_same_Strings [.t 8, .t 10]), none⟩, ⟨12, (.op (.mv (.t 11))), none⟩, ⟨13, (.callL n_law54_awake []), some (12, true)⟩, ⟨14, (.op (.pick (.t 12) (.t 13) (.k (.bool false)))), none⟩, ⟨2, (.op (.mv (.t 14))), none⟩] [0, 5, 7, 8, 9, 10, 11, 12, 13, 14])
  .ret)))
theorem k_law54_ReportPostings : fnOk Tryd.prog Tryd.f6 c_law54_ReportPostings 15 1 [.t 2] = true := by kernel_rfl
theorem u_law54_ReportPostings : Tryd.prog.funcs[n_law54_ReportPostings]? = some Tryd.f6 := Tryd.func6
/-- guerdon/guerdonlaw54.ReportBalances -/
def c_law54_ReportBalances : FC :=
  (.seq (.reg none [⟨2, (.op (.mv (.k (.bool false)))), none⟩] [2])
  (.seq (.seq (.reg none [⟨13, (.op (.mv (.t 0))), none⟩, ⟨14, (.op (.len (.t 13))), none⟩, ⟨15, (.op (.bin .gtr (.t 14) (.k (.int .i64 100)))), none⟩] [13, 14])
  (.cond (.t 15)
    (.seq (.reg none [⟨16, (.callL n_law54_awake []), none⟩, ⟨2, (.op (.mvP true (.t 16))), none⟩] [0, 15, 16])
    .ret)
    .skip))
  (.seq (.seq (.reg none [⟨3, (.op (.mv (.k (.int .i64 0)))), none⟩] [15])
  (.block 0 (.loop (.seq (.seq (.reg none [⟨17, (.op (.mv (.t 3))), none⟩, ⟨18, (.op (.mv (.t 0))), none⟩, ⟨19, (.op (.len (.t 18))), none⟩, ⟨20, (.op (.bin .lss (.t 17) (.t 19))), none⟩] [17, 18, 19])
      (.cond (.t 20)
        .skip
        (.exit 0)))
      (.seq (.block 1 (.seq (.reg none [⟨23, (.op (.mv (.t 0))), none⟩, ⟨24, (.op (.mv (.t 3))), none⟩, ⟨25, (.op (.ia (.t 23) (.t 24) 4)), none⟩, ⟨26, (.op (.load (.t 25) 4 true)), none⟩, ⟨27, (.callL n_ref38_Within [.t 26, .k (.int .i64 1152921504606846976)]), none⟩, ⟨28, (.op (.un .not (.t 27))), none⟩] [20, 23, 24, 25, 26, 27])
        (.cond (.t 28)
          (.seq (.reg none [⟨29, (.callL n_law54_awake []), none⟩, ⟨2, (.op (.mvP true (.t 29))), none⟩] [0, 3, 28, 29])
          .ret)
          .skip)))
      (.reg none [⟨21, (.op (.mv (.t 3))), none⟩, ⟨22, (.op (.bin .add (.t 21) (.k (.int .i64 1)))), none⟩, ⟨3, (.op (.mv (.t 22))), none⟩] [21, 22, 28]))))))
  (.seq (.reg none [⟨30, (.op (.mv (.t 0))), none⟩, ⟨31, (.callL n_report_Balances [.t 30]), none⟩, ⟨4, (.op (.mvP true (.t 31))), none⟩] [3, 20, 30, 31])
  (.seq (.seq (.reg none [⟨32, (.op (.mv (.t 4))), none⟩, ⟨33, (.op (.mv (.t 0))), none⟩, ⟨34, (.callL n_ref54_Balances [.t 33]), none⟩, ⟨35, (.callB n_same_Strings [.t 32, .t 34]), none⟩, ⟨36, (.op (.un .not (.t 35))), none⟩] [32, 33, 34, 35])
  (.cond (.t 36)
    (.seq (.reg none [⟨2, (.op (.mv (.k (.bool false)))), none⟩] [0, 4, 36])
    .ret)
    .skip))
  (.seq (.seq (.reg none [⟨5, (.op (.mv (.k (.int .i64 0)))), none⟩] [36])
  (.block 2 (.loop (.seq (.seq (.reg none [⟨37, (.op (.mv (.t 5))), none⟩, ⟨38, (.op (.mv (.t 0))), none⟩, ⟨39, (.op (.len (.t 38))), none⟩, ⟨40, (.op (.bin .lss (.t 37) (.t 39))), none⟩] [37, 38, 39])
      (.cond (.t 40)
        .skip
        (.exit 2)))
      (.seq (.block 3 (.seq (.reg none [⟨43, (.op (.mv (.t 4))), none⟩, ⟨44, (.op (.mv (.t 5))), none⟩, ⟨45, (.op (.ia (.t 43) (.t 44) 1)), none⟩, ⟨46, (.op (.load (.t 45) 1 false)), none⟩, ⟨47, (.callL n_ref01_Fields [.t 46]), none⟩, ⟨6, (.op (.mvP true (.t 47))), none⟩] [40, 43, 44, 45, 46, 47])
        (.seq (.seq (.reg none [⟨48, (.op (.mv (.t 6))), none⟩, ⟨49, (.op (.len (.t 48))), none⟩, ⟨50, (.op (.bin .neq (.t 49) (.k (.int .i64 11)))), none⟩] [48, 49])
        (.cond (.t 50)
          (.seq (.reg none [⟨2, (.op (.mv (.k (.bool false)))), none⟩] [0, 4, 5, 6, 50])
          .ret)
          .skip))
        (.seq (.reg none [⟨52, (.op (.mv (.t 6))), none⟩, ⟨53, (.op (.ia (.t 52) (.k (.int .i64 2)) 1)), none⟩, ⟨54, (.op (.load (.t 53) 1 false)), none⟩, ⟨55, (.callL n_ref01_ParseFixed [.t 54, .k (.int .i64 2)]), none⟩, ⟨51, (.op (.mvP true (.t 55))), none⟩, ⟨56, (.op (.extract 51 0)), none⟩, ⟨57, (.op (.extract 51 1)), none⟩, ⟨7, (.op (.mvP true (.t 56))), none⟩, ⟨8, (.op (.mvP true (.t 57))), none⟩] [50, 51, 52, 53, 54, 55, 56, 57])
        (.seq (.reg none [⟨59, (.op (.mv (.t 6))), none⟩, ⟨60, (.op (.ia (.t 59) (.k (.int .i64 4)) 1)), none⟩, ⟨61, (.op (.load (.t 60) 1 false)), none⟩, ⟨62, (.callL n_ref01_ParseFixed [.t 61, .k (.int .i64 2)]), none⟩, ⟨58, (.op (.mvP true (.t 62))), none⟩, ⟨63, (.op (.extract 58 0)), none⟩, ⟨64, (.op (.extract 58 1)), none⟩, ⟨9, (.op (.mvP true (.t 63))), none⟩, ⟨10, (.op (.mvP true (.t 64))), none⟩] [58, 59, 60, 61, 62, 63, 64])
        (.seq (.reg none [⟨66, (.op (.mv (.t 6))), none⟩, ⟨67, (.op (.ia (.t 66) (.k (.int .i64 6)) 1)), none⟩, ⟨68, (.op (.load (.t 67) 1 false)), none⟩, ⟨69, (.callL n_ref01_ParseFixed [.t 68, .k (.int .i64 2)]), none⟩, ⟨65, (.op (.mvP true (.t 69))), none⟩, ⟨70, (.op (.extract 65 0)), none⟩, ⟨71, (.op (.extract 65 1)), none⟩, ⟨11, (.op (.mvP true (.t 70))), none⟩, ⟨12, (.op (.mvP true (.t 71))), none⟩] [6, 65, 66, 67, 68, 69, 70, 71])
        (.seq (.reg none [⟨72, (.op (.mv (.t 7))), none⟩, ⟨73, (.op (.mv (.t 0))), none⟩, ⟨74, (.op (.mv (.t 5))), none⟩, ⟨75, (.op (.ia (.t 73) (.t 74) 4)), none⟩, ⟨76, (.op (.fa (.t 75) 1)), none⟩, ⟨77, (.op (.load (.t 76) 1 false)), none⟩, ⟨78, (.op (.bin .neq (.t 72) (.t 77))), none⟩, ⟨79, (.op (.mv (.t 78))), none⟩, ⟨80, (.op (.mv (.t 9))), some (79, false)⟩, ⟨81, (.op (.mv (.t 0))), some (79, false)⟩, ⟨82, (.op (.mv (.t 5))), some (79, false)⟩, ⟨83, (.op (.ia (.t 81) (.t 82) 4)), some (79, false)⟩, ⟨84, (.op (.fa (.t 83) 2)), some (79, false)⟩, ⟨85, (.op (.load (.t 84) 1 false)), some (79, false)⟩, ⟨86, (.op (.bin .neq (.t 80) (.t 85))), some (79, false)⟩, ⟨87, (.op (.pick (.t 79) (.k (.bool true)) (.t 86))), none⟩, ⟨88, (.op (.mv (.t 87))), none⟩, ⟨89, (.op (.mv (.t 11))), some (88, false)⟩, ⟨90, (.op (.mv (.t 0))), some (88, false)⟩, ⟨91, (.op (.mv (.t 5))), some (88, false)⟩, ⟨92, (.op (.ia (.t 90) (.t 91) 4)), some (88, false)⟩, ⟨93, (.op (.fa (.t 92) 3)), some (88, false)⟩, ⟨94, (.op (.load (.t 93) 1 false)), some (88, false)⟩, ⟨95, (.op (.bin .neq (.t 89) (.t 94))), some (88, false)⟩, ⟨96, (.op (.pick (.t 88) (.k (.bool true)) (.t 95))), none⟩, ⟨97, (.op (.mv (.t 96))), none⟩, ⟨98, (.op (.mv (.t 8))), some (97, false)⟩, ⟨99, (.op (.bin .neq (.t 98) (.k (.int .i64 0)))), some (97, false)⟩, ⟨100, (.op (.pick (.t 97) (.k (.bool true)) (.t 99))), none⟩, ⟨101, (.op (.mv (.t 100))), none⟩, ⟨102, (.op (.mv (.t 10))), some (101, false)⟩, ⟨103, (.op (.bin .neq (.t 102) (.k (.int .i64 0)))), some (101, false)⟩, ⟨104, (.op (.pick (.t 101) (.k (.bool true)) (.t 103))), none⟩, ⟨105, (.op (.mv (.t 104))), none⟩, ⟨106, (.op (.mv (.t 12))), some (105, false)⟩, ⟨107, (.op (.bin .neq (.t 106) (.k (.int .i64 0)))), some (105, false)⟩, ⟨108, (.op (.pick (.t 105) (.k (.bool true)) (.t 107))), none⟩] [7, 8, 9, 10, 11, 12, 72, 73, 74, 75, 76, 77, 78, 79, 80, 81, 82, 83, 84, 85, 86, 87, 88, 89, 90, 91, 92, 93, 94, 95, 96, 97, 98, 99, 100, 101, 102, 103, 104, 105, 106, 107])
        (.cond (.t 108)
          (.seq (.reg none [⟨2, (.op (.mv (.k (.bool false)))), none⟩] [0, 4, 5, 108])
          .ret)
          .skip))))))))
      (.reg none [⟨41, (.op (.mv (.t 5))), none⟩, ⟨42, (.op (.bin .add (.t 41) (.k (.int .i64 1)))), none⟩, ⟨5, (.op (.mv (.t 42))), none⟩] [41, 42, 108]))))))
  (.seq (.reg none [⟨109, (.callL n_law54_awake []), none⟩, ⟨2, (.op (.mvP true (.t 109))), none⟩] [0, 4, 5, 40, 109])
  .ret)))))))
theorem k_law54_ReportBalances : fnOk Tryd.prog Tryd.f5 c_law54_ReportBalances 110 1 [.t 2] = true := by kernel_rfl
theorem u_law54_ReportBalances : Tryd.prog.funcs[n_law54_ReportBalances]? = some Tryd.f5 := Tryd.func5
/-- guerdon/guerdonlaw54.ReportEvalError -/
def c_law54_ReportEvalError : FC :=
  (.seq (.reg none [⟨3, (.op (.box (.t 0))), none⟩, ⟨5, (.op (.box (.t 2))), none⟩, ⟨6, (.op (.mv (.k (.bool false)))), none⟩] [0, 2, 6])
  (.seq (.seq (.reg none [⟨7, (.op (.load (.t 3) 3 true)), none⟩, ⟨8, (.callL n_same_SmallLaw [.t 7]), none⟩, ⟨9, (.op (.un .not (.t 8))), none⟩] [7, 8])
  (.cond (.t 9)
    (.seq (.reg none [⟨10, (.callL n_law54_awake []), none⟩, ⟨6, (.op (.mvP true (.t 10))), none⟩] [1, 3, 5, 9, 10])
    .ret)
    .skip))
  (.seq (.reg (some 13) [⟨11, (.op (.load (.t 3) 3 true)), none⟩, ⟨12, (.op (.mv (.t 1))), none⟩, ⟨13, (.op (.load (.t 5) 4 true)), none⟩, ⟨14, (.callL n_report_EvalError [.t 11, .t 12, .t 13]), none⟩, ⟨15, (.op (.load (.t 3) 3 true)), none⟩, ⟨16, (.op (.mv (.t 1))), none⟩, ⟨17, (.op (.load (.t 5) 4 true)), none⟩, ⟨18, (.callL n_ref54_EvalError [.t 15, .t 16, .t 17]), none⟩, ⟨19, (.op (.bin .eql (.t 14) (.t 18))), none⟩, ⟨20, (.op (.mv (.t 19))), none⟩, ⟨21, (.callL n_law54_awake []), some (20, true)⟩, ⟨22, (.op (.pick (.t 20) (.t 21) (.k (.bool false)))), none⟩, ⟨6, (.op (.mv (.t 22))), none⟩] [1, 3, 5, 9, 11, 12, 13, 14, 15, 16, 17, 18, 19, 20, 21, 22])
  .ret)))
theorem k_law54_ReportEvalError : fnOk Tryd.prog Tryd.f4 c_law54_ReportEvalError 23 3 [.t 6] = true := by kernel_rfl
theorem u_law54_ReportEvalError : Tryd.prog.funcs[n_law54_ReportEvalError]? = some Tryd.f4 := Tryd.func4
/-- guerdon/guerdonlaw54.ReportResult -/
def c_law54_ReportResult : FC :=
  (.seq (.reg none [⟨3, (.op (.box (.t 0))), none⟩, ⟨5, (.op (.box (.t 2))), none⟩, ⟨6, (.op (.mv (.k (.bool false)))), none⟩] [0, 2, 6])
  (.seq (.seq (.reg none [⟨7, (.op (.load (.t 3) 3 true)), none⟩, ⟨8, (.callL n_same_SmallLaw [.t 7]), none⟩, ⟨9, (.op (.un .not (.t 8))), none⟩, ⟨10, (.op (.mv (.t 9))), none⟩, ⟨11, (.op (.load (.t 5) 3 true)), some (10, false)⟩, ⟨12, (.callL n_law54_few [.t 11]), some (10, false)⟩, ⟨13, (.op (.un .not (.t 12))), some (10, false)⟩, ⟨14, (.op (.pick (.t 10) (.k (.bool true)) (.t 13))), none⟩] [7, 8, 9, 10, 11, 12, 13])
  (.cond (.t 14)
    (.seq (.reg none [⟨15, (.callL n_law54_awake []), none⟩, ⟨6, (.op (.mvP true (.t 15))), none⟩] [1, 3, 5, 14, 15])
    .ret)
    .skip))
  (.seq (.reg (some 13) [⟨16, (.op (.load (.t 3) 3 true)), none⟩, ⟨17, (.op (.mv (.t 1))), none⟩, ⟨18, (.op (.load (.t 5) 3 true)), none⟩, ⟨19, (.callL n_report_Result [.t 16, .t 17, .t 18]), none⟩, ⟨20, (.op (.load (.t 3) 3 true)), none⟩, ⟨21, (.op (.mv (.t 1))), none⟩, ⟨22, (.op (.load (.t 5) 3 true)), none⟩, ⟨23, (.callL n_ref54_Result [.t 20, .t 21, .t 22]), none⟩, ⟨24, (.callB n_same_Strings [.t 19, .t 23]), none⟩, ⟨25, (.op (.mv (.t 24))), none⟩, ⟨26, (.callL n_law54_awake []), some (25, true)⟩, ⟨27, (.op (.pick (.t 25) (.t 26) (.k (.bool false)))), none⟩, ⟨6, (.op (.mv (.t 27))), none⟩] [1, 3, 5, 14, 16, 17, 18, 19, 20, 21, 22, 23, 24, 25, 26, 27])
  .ret)))
theorem k_law54_ReportResult : fnOk Tryd.prog Tryd.f3 c_law54_ReportResult 28 3 [.t 6] = true := by kernel_rfl
theorem u_law54_ReportResult : Tryd.prog.funcs[n_law54_ReportResult]? = some Tryd.f3 := Tryd.func3
/-- guerdon/guerdonlaw54.awake -/
def c_law54_awake : FC :=
  (.seq (.reg none [⟨0, (.op (.mv (.k (.bool false)))), none⟩] [0])
  (.seq (.reg none [⟨6, (.callL n_same_TinyLaw [.k (.sl true [])]), none⟩, ⟨1, (.op (.alloc [(.sl true []), (.sl true []), (.sl true [])])), none⟩, ⟨0, (.op (.store (.t 1) (.t 6) 3 true)), none⟩] [6])
  (.seq (.reg none [⟨7, (.op (.load (.t 1) 3 true)), none⟩, ⟨8, (.op (.build [(.int .i64 0), (.int .i64 0), (.int .i64 0)] [(0, 1), (2, 1)] [.k (.int .i64 3), .k (.int .i64 1250)])), none⟩, ⟨9, (.op (.buildSl [(.int .i64 0), (.int .i64 0), (.int .i64 0)] 1 [0] [.t 8])), none⟩, ⟨10, (.op (.buildSl [(.int .i64 0)] 1 [0] [.k (.int .i64 0)])), none⟩, ⟨11, (.op (.build [(.sl true []), (.sl true []), (.sl true [])] [(0, 1), (1, 1)] [.t 9, .t 10])), none⟩, ⟨12, (.callB n_report_Result [.t 7, .k (.int .i64 0), .t 11]), none⟩, ⟨2, (.op (.mvP true (.t 12))), none⟩] [7, 8, 9, 10, 11, 12])
  (.seq (.reg none [⟨13, (.op (.build [(.int .i64 0), (.int .i64 0), (.int .i64 0), (.int .i64 0)] [(0, 1), (1, 1), (2, 1)] [.k (.int .i64 1200), .k (.int .i64 50000), .k (.int .i64 20000)])), none⟩, ⟨14, (.op (.buildSl [(.int .i64 0), (.int .i64 0), (.int .i64 0), (.int .i64 0)] 1 [0] [.t 13])), none⟩, ⟨15, (.callB n_report_Balances [.t 14]), none⟩, ⟨3, (.op (.mvP true (.t 15))), none⟩] [13, 14, 15])
  (.seq (.reg none [⟨16, (.op (.build [(.int .i64 0), (.int .i64 0), (.int .i64 0), (.int .i64 0)] [(0, 1), (1, 1), (2, 1), (3, 1)] [.k (.int .i64 36524), .k (.int .i64 1200), .k (.int .i64 2), .k (.int .i64 250)])), none⟩, ⟨17, (.op (.buildSl [(.int .i64 0), (.int .i64 0), (.int .i64 0), (.int .i64 0)] 1 [0] [.t 16])), none⟩, ⟨18, (.callB n_report_Postings [.t 17]), none⟩, ⟨4, (.op (.mvP true (.t 18))), none⟩] [16, 17, 18])
  (.seq (.reg none [⟨19, (.op (.load (.t 1) 3 true)), none⟩, ⟨20, (.op (.build [(.int .i64 0), (.int .i64 0), (.int .i64 0), (.int .i64 0)] [(0, 1), (1, 1)] [.k (.int .i64 12), .k (.int .i64 (-1))])), none⟩, ⟨21, (.callL n_report_EvalError [.t 19, .k (.int .i64 0), .t 20]), none⟩, ⟨5, (.op (.mvP true (.t 21))), none⟩] [19, 20, 21])
  (.seq (.reg none [⟨22, (.op (.mv (.t 2))), none⟩, ⟨23, (.op (.buildSl [(.str [])] 1 [0] [.k (.str [100, 32, 61, 32, 49, 50, 46, 53, 48, 32, 98, 121, 32, 98, 97, 115, 101])])), none⟩, ⟨24, (.callB n_same_Strings [.t 22, .t 23]), none⟩, ⟨25, (.op (.mv (.t 24))), none⟩, ⟨26, (.op (.mv (.t 3))), some (25, true)⟩, ⟨27, (.op (.buildSl [(.str [])] 1 [0] [.k (.str [50, 48, 48, 48, 45, 48, 49, 32, 100, 117, 101, 32, 53, 48, 48, 46, 48, 48, 32, 114, 101, 99, 101, 105, 118, 101, 100, 32, 50, 48, 48, 46, 48, 48, 32, 119, 97, 105, 118, 101, 100, 32, 48, 46, 48, 48, 32, 97, 114, 114, 101, 97, 114, 115, 32, 51, 48, 48, 46, 48, 48, 32, 111, 118, 101, 114, 112, 97, 121, 109, 101, 110, 116, 32, 48, 46, 48, 48])])), some (25, true)⟩, ⟨28, (.callB n_same_Strings [.t 26, .t 27]), some (25, true)⟩, ⟨29, (.op (.pick (.t 25) (.t 28) (.k (.bool false)))), none⟩, ⟨30, (.op (.mv (.t 29))), none⟩, ⟨31, (.op (.mv (.t 4))), some (30, true)⟩, ⟨32, (.op (.buildSl [(.str [])] 1 [0] [.k (.str [50, 48, 48, 48, 45, 48, 49, 45, 48, 49, 32, 50, 48, 48, 48, 45, 48, 49, 32, 114, 101, 99, 111, 118, 101, 114, 121, 32, 50, 46, 53, 48])])), some (30, true)⟩, ⟨33, (.callB n_same_Strings [.t 31, .t 32]), some (30, true)⟩, ⟨34, (.op (.pick (.t 30) (.t 33) (.k (.bool false)))), none⟩, ⟨35, (.op (.mv (.t 34))), none⟩, ⟨36, (.op (.mv (.t 5))), some (35, true)⟩, ⟨37, (.op (.bin .eql (.t 36) (.k (.str [101, 114, 114, 111, 114, 32, 49, 50, 32, 102, 111, 114, 32, 100, 32, 98, 121, 32, 98, 97, 115, 101])))), some (35, true)⟩, ⟨38, (.op (.pick (.t 35) (.t 37) (.k (.bool false)))), none⟩, ⟨39, (.op (.mv (.t 38))), none⟩, ⟨40, (.op (.load (.t 1) 3 true)), some (39, true)⟩, ⟨41, (.op (.build [(.int .i64 0), (.int .i64 0), (.int .i64 0), (.int .i64 0)] [(0, 1), (1, 1), (2, 1), (3, 1)] [.k (.int .i64 1), .k (.int .i64 (-1)), .k (.int .i64 (-1)), .k (.int .i64 (-1))])), some (39, true)⟩, ⟨42, (.callL n_report_EvalError [.t 40, .k (.int .i64 0), .t 41]), some (39, true)⟩, ⟨43, (.op (.bin .eql (.t 42) (.k (.str [101, 114, 114, 111, 114, 32, 49])))), some (39, true)⟩, ⟨44, (.op (.pick (.t 39) (.t 43) (.k (.bool false)))), none⟩, ⟨0, (.op (.mv (.t 44))), none⟩] [1, 2, 3, 4, 5, 22, 23, 24, 25, 26, 27, 28, 29, 30, 31, 32, 33, 34, 35, 36, 37, 38, 39, 40, 41, 42, 43, 44])
  .ret)))))))
theorem k_law54_awake : fnOk Tryd.prog Tryd.f9 c_law54_awake 45 0 [.t 0] = true := by kernel_rfl
theorem u_law54_awake : Tryd.prog.funcs[n_law54_awake]? = some Tryd.f9 := Tryd.func9
/-- guerdon/guerdonref01.Fields -/
def c_ref01_Fields : FC :=
  (.seq (.reg none [⟨2, (.op (.mv (.k (.arr [])))), none⟩] [2])
  (.seq (.reg none [⟨7, (.op (.buildSl [(.str [])] 0 [] [])), none⟩, ⟨3, (.op (.mvP true (.t 7))), none⟩] [7])
  (.seq (.reg none [⟨4, (.op (.mv (.k (.int .i64 (-1))))), none⟩] [])
  (.seq (.seq (.reg none [⟨5, (.op (.mv (.k (.int .i64 0)))), none⟩] [])
  (.block 0 (.loop (.seq (.seq (.reg none [⟨8, (.op (.mv (.t 5))), none⟩, ⟨9, (.op (.mv (.t 0))), none⟩, ⟨10, (.op (.lenS (.t 9))), none⟩, ⟨11, (.op (.bin .leq (.t 8) (.t 10))), none⟩] [8, 9, 10])
      (.cond (.t 11)
        .skip
        (.exit 0)))
      (.seq (.block 1 (.seq (.reg none [⟨14, (.op (.mv (.t 5))), none⟩, ⟨15, (.op (.mv (.t 0))), none⟩, ⟨16, (.op (.lenS (.t 15))), none⟩, ⟨17, (.op (.bin .eql (.t 14) (.t 16))), none⟩, ⟨18, (.op (.mv (.t 17))), none⟩, ⟨19, (.op (.mv (.t 0))), some (18, false)⟩, ⟨20, (.op (.mv (.t 5))), some (18, false)⟩, ⟨21, (.op (.index (.t 19) (.t 20))), some (18, false)⟩, ⟨22, (.op (.bin .eql (.t 21) (.k (.int .u8 32)))), some (18, false)⟩, ⟨23, (.op (.pick (.t 18) (.k (.bool true)) (.t 22))), none⟩, ⟨24, (.op (.mv (.t 23))), none⟩, ⟨25, (.op (.mv (.t 0))), some (24, false)⟩, ⟨26, (.op (.mv (.t 5))), some (24, false)⟩, ⟨27, (.op (.index (.t 25) (.t 26))), some (24, false)⟩, ⟨28, (.op (.bin .eql (.t 27) (.k (.int .u8 9)))), some (24, false)⟩, ⟨29, (.op (.pick (.t 24) (.k (.bool true)) (.t 28))), none⟩, ⟨6, (.op (.mv (.t 29))), none⟩] [11, 14, 15, 16, 17, 18, 19, 20, 21, 22, 23, 24, 25, 26, 27, 28, 29])
        (.seq (.seq (.reg none [⟨30, (.op (.mv (.t 6))), none⟩, ⟨31, (.op (.mv (.t 30))), none⟩, ⟨32, (.op (.mv (.t 4))), some (31, true)⟩, ⟨33, (.op (.bin .geq (.t 32) (.k (.int .i64 0)))), some (31, true)⟩, ⟨34, (.op (.pick (.t 31) (.t 33) (.k (.bool false)))), none⟩] [30, 31, 32, 33])
        (.cond (.t 34)
          (.seq (.reg none [⟨35, (.op (.mv (.t 3))), none⟩, ⟨36, (.op (.mv (.t 0))), none⟩, ⟨37, (.op (.mv (.t 4))), none⟩, ⟨38, (.op (.mv (.t 5))), none⟩, ⟨39, (.op (.subStr (.t 36) (some (.t 37)) (some (.t 38)))), none⟩, ⟨40, (.op (.buildSl [(.str [])] 1 [0] [.t 39])), none⟩, ⟨41, (.op (.app (.t 35) (.t 40) 1 16)), none⟩, ⟨3, (.op (.mvP true (.t 41))), none⟩] [4, 34, 35, 36, 37, 38, 39, 40, 41])
          (.reg none [⟨4, (.op (.mv (.k (.int .i64 (-1))))), none⟩] []))
          .skip))
        (.seq (.reg none [⟨42, (.op (.mv (.t 6))), none⟩, ⟨43, (.op (.un .not (.t 42))), none⟩, ⟨44, (.op (.mv (.t 43))), none⟩, ⟨45, (.op (.mv (.t 4))), some (44, true)⟩, ⟨46, (.op (.bin .lss (.t 45) (.k (.int .i64 0)))), some (44, true)⟩, ⟨47, (.op (.pick (.t 44) (.t 46) (.k (.bool false)))), none⟩] [6, 34, 42, 43, 44, 45, 46])
        (.cond (.t 47)
          (.reg none [⟨48, (.op (.mv (.t 5))), none⟩, ⟨4, (.op (.mv (.t 48))), none⟩] [47, 48])
          .skip)))))
      (.reg none [⟨12, (.op (.mv (.t 5))), none⟩, ⟨13, (.op (.bin .add (.t 12) (.k (.int .i64 1)))), none⟩, ⟨5, (.op (.mv (.t 13))), none⟩] [12, 13, 47]))))))
  (.seq (.reg none [⟨49, (.op (.mv (.t 3))), none⟩, ⟨2, (.op (.mv (.t 49))), none⟩] [0, 4, 5, 11])
  .ret)))))
theorem k_ref01_Fields : fnOk Tryd.prog Tryd.f18 c_ref01_Fields 50 1 [.t 2] = true := by kernel_rfl
theorem u_ref01_Fields : Tryd.prog.funcs[n_ref01_Fields]? = some Tryd.f18 := Tryd.func18
/-- guerdon/guerdonref01.ParseFixed -/
def c_ref01_ParseFixed : FC :=
  (.seq (.reg none [⟨4, (.op (.mv (.k (.int .i64 0)))), none⟩, ⟨5, (.op (.mv (.k (.int .i64 0)))), none⟩] [4, 5])
  (.seq (.reg none [⟨10, (.op (.mv (.t 1))), none⟩, ⟨11, (.callL n_ref01_clamp [.t 10]), none⟩, ⟨6, (.op (.mvP true (.t 11))), none⟩] [1, 10, 11])
  (.seq (.seq (.reg none [⟨12, (.op (.mv (.t 6))), none⟩, ⟨13, (.op (.bin .eql (.t 12) (.k (.int .i64 0)))), none⟩] [12])
  (.cond (.t 13)
    (.seq (.reg none [⟨14, (.op (.mv (.t 0))), none⟩, ⟨15, (.callL n_ref01_ParseInt [.t 14]), none⟩, ⟨16, (.op (.extract 15 0)), none⟩, ⟨17, (.op (.extract 15 1)), none⟩, ⟨4, (.op (.mvP true (.t 16))), none⟩, ⟨5, (.op (.mvP true (.t 17))), none⟩] [0, 6, 13, 14, 15, 16, 17])
    .ret)
    .skip))
  (.seq (.reg none [⟨19, (.op (.mv (.t 0))), none⟩, ⟨20, (.callL n_ref01_sign [.t 19]), none⟩, ⟨18, (.op (.mvP true (.t 20))), none⟩, ⟨21, (.op (.extract 18 0)), none⟩, ⟨22, (.op (.extract 18 1)), none⟩, ⟨7, (.op (.mvP true (.t 21))), none⟩, ⟨8, (.op (.mvP true (.t 22))), none⟩] [0, 13, 18, 19, 20, 21, 22])
  (.seq (.reg none [⟨23, (.op (.mv (.t 7))), none⟩, ⟨24, (.op (.lenS (.t 23))), none⟩, ⟨25, (.op (.mv (.t 6))), none⟩, ⟨26, (.op (.bin .sub (.t 24) (.t 25))), none⟩, ⟨27, (.op (.bin .sub (.t 26) (.k (.int .i64 1)))), none⟩, ⟨9, (.op (.mv (.t 27))), none⟩] [6, 23, 24, 25, 26, 27])
  (.seq (.seq (.reg none [⟨28, (.op (.mv (.t 9))), none⟩, ⟨29, (.op (.bin .lss (.t 28) (.k (.int .i64 1)))), none⟩, ⟨30, (.op (.mv (.t 29))), none⟩, ⟨31, (.op (.mv (.t 7))), some (30, false)⟩, ⟨32, (.op (.mv (.t 9))), some (30, false)⟩, ⟨33, (.op (.index (.t 31) (.t 32))), some (30, false)⟩, ⟨34, (.op (.bin .neq (.t 33) (.k (.int .u8 46)))), some (30, false)⟩, ⟨35, (.op (.pick (.t 30) (.k (.bool true)) (.t 34))), none⟩, ⟨36, (.op (.mv (.t 35))), none⟩, ⟨37, (.op (.mv (.t 7))), some (36, false)⟩, ⟨38, (.op (.mv (.t 9))), some (36, false)⟩, ⟨39, (.op (.subStr (.t 37) none (some (.t 38)))), some (36, false)⟩, ⟨40, (.callL n_ref01_allDigits [.t 39]), some (36, false)⟩, ⟨41, (.op (.un .not (.t 40))), some (36, false)⟩, ⟨42, (.op (.pick (.t 36) (.k (.bool true)) (.t 41))), none⟩, ⟨43, (.op (.mv (.t 42))), none⟩, ⟨44, (.op (.mv (.t 7))), some (43, false)⟩, ⟨45, (.op (.mv (.t 9))), some (43, false)⟩, ⟨46, (.op (.bin .add (.t 45) (.k (.int .i64 1)))), some (43, false)⟩, ⟨47, (.op (.subStr (.t 44) (some (.t 46)) none)), some (43, false)⟩, ⟨48, (.callL n_ref01_allDigits [.t 47]), some (43, false)⟩, ⟨49, (.op (.un .not (.t 48))), some (43, false)⟩, ⟨50, (.op (.pick (.t 43) (.k (.bool true)) (.t 49))), none⟩, ⟨51, (.op (.mv (.t 50))), none⟩, ⟨52, (.op (.mv (.t 9))), some (51, false)⟩, ⟨53, (.op (.bin .gtr (.t 52) (.k (.int .i64 1)))), some (51, false)⟩, ⟨54, (.op (.mv (.t 53))), some (51, false)⟩, ⟨55, (.op (.mv (.t 7))), some (54, true)⟩, ⟨56, (.op (.index (.t 55) (.k (.int .i64 0)))), some (54, true)⟩, ⟨57, (.op (.bin .eql (.t 56) (.k (.int .u8 48)))), some (54, true)⟩, ⟨58, (.op (.pick (.t 54) (.t 57) (.k (.bool false)))), some (51, false)⟩, ⟨59, (.op (.pick (.t 51) (.k (.bool true)) (.t 58))), none⟩] [28, 29, 30, 31, 32, 33, 34, 35, 36, 37, 38, 39, 40, 41, 42, 43, 44, 45, 46, 47, 48, 49, 50, 51, 52, 53, 54, 55, 56, 57, 58])
  (.cond (.t 59)
    (.seq (.reg none [⟨4, (.op (.mv (.k (.int .i64 0)))), none⟩, ⟨5, (.op (.mv (.k (.int .i64 2)))), none⟩] [7, 8, 9, 59])
    .ret)
    .skip))
  (.seq (.reg (some 8) [⟨60, (.op (.mv (.t 7))), none⟩, ⟨61, (.op (.mv (.t 9))), none⟩, ⟨62, (.op (.subStr (.t 60) none (some (.t 61)))), none⟩, ⟨63, (.op (.mv (.t 7))), none⟩, ⟨64, (.op (.mv (.t 9))), none⟩, ⟨65, (.op (.bin .add (.t 64) (.k (.int .i64 1)))), none⟩, ⟨66, (.op (.subStr (.t 63) (some (.t 65)) none)), none⟩, ⟨67, (.op (.bin .add (.t 62) (.t 66))), none⟩, ⟨7, (.op (.mv (.t 67))), none⟩] [9, 59, 60, 61, 62, 63, 64, 65, 66, 67])
  (.seq (.block 0 (.loop (.seq (.seq (.reg none [⟨68, (.op (.mv (.t 7))), none⟩, ⟨69, (.op (.lenS (.t 68))), none⟩, ⟨70, (.op (.bin .gtr (.t 69) (.k (.int .i64 1)))), none⟩, ⟨71, (.op (.mv (.t 70))), none⟩, ⟨72, (.op (.mv (.t 7))), some (71, true)⟩, ⟨73, (.op (.index (.t 72) (.k (.int .i64 0)))), some (71, true)⟩, ⟨74, (.op (.bin .eql (.t 73) (.k (.int .u8 48)))), some (71, true)⟩, ⟨75, (.op (.pick (.t 71) (.t 74) (.k (.bool false)))), none⟩] [68, 69, 70, 71, 72, 73, 74])
      (.cond (.t 75)
        .skip
        (.exit 0)))
      (.block 1 (.reg none [⟨76, (.op (.mv (.t 7))), none⟩, ⟨77, (.op (.subStr (.t 76) (some (.k (.int .i64 1))) none)), none⟩, ⟨7, (.op (.mv (.t 77))), none⟩] [75, 76, 77])))))
  (.seq (.seq (.reg none [⟨78, (.op (.mv (.t 8))), none⟩, ⟨79, (.op (.mv (.t 78))), none⟩, ⟨80, (.op (.mv (.t 7))), some (79, true)⟩, ⟨81, (.op (.bin .eql (.t 80) (.k (.str [48])))), some (79, true)⟩, ⟨82, (.op (.pick (.t 79) (.t 81) (.k (.bool false)))), none⟩] [75, 78, 79, 80, 81])
  (.cond (.t 82)
    (.seq (.reg none [⟨4, (.op (.mv (.k (.int .i64 0)))), none⟩, ⟨5, (.op (.mv (.k (.int .i64 2)))), none⟩] [7, 8, 82])
    .ret)
    .skip))
  (.seq (.reg none [⟨83, (.op (.mv (.t 7))), none⟩, ⟨84, (.op (.mv (.t 8))), none⟩, ⟨85, (.callL n_ref01_number [.t 83, .t 84]), none⟩, ⟨86, (.op (.extract 85 0)), none⟩, ⟨87, (.op (.extract 85 1)), none⟩, ⟨4, (.op (.mvP true (.t 86))), none⟩, ⟨5, (.op (.mvP true (.t 87))), none⟩] [7, 8, 82, 83, 84, 85, 86, 87])
  .ret))))))))))
theorem k_ref01_ParseFixed : fnOk Tryd.prog Tryd.f19 c_ref01_ParseFixed 88 2 [.t 4, .t 5] = true := by kernel_rfl
theorem u_ref01_ParseFixed : Tryd.prog.funcs[n_ref01_ParseFixed]? = some Tryd.f19 := Tryd.func19
/-- guerdon/guerdonref01.ParseInt -/
def c_ref01_ParseInt : FC :=
  (.seq (.reg none [⟨2, (.op (.mv (.k (.int .i64 0)))), none⟩, ⟨3, (.op (.mv (.k (.int .i64 0)))), none⟩] [2, 3])
  (.seq (.reg none [⟨7, (.op (.mv (.t 0))), none⟩, ⟨8, (.callL n_ref01_sign [.t 7]), none⟩, ⟨6, (.op (.mvP true (.t 8))), none⟩, ⟨9, (.op (.extract 6 0)), none⟩, ⟨10, (.op (.extract 6 1)), none⟩, ⟨4, (.op (.mvP true (.t 9))), none⟩, ⟨5, (.op (.mvP true (.t 10))), none⟩] [0, 6, 7, 8, 9, 10])
  (.seq (.seq (.reg none [⟨11, (.op (.mv (.t 4))), none⟩, ⟨12, (.callL n_ref01_allDigits [.t 11]), none⟩, ⟨13, (.op (.un .not (.t 12))), none⟩, ⟨14, (.op (.mv (.t 13))), none⟩, ⟨15, (.op (.mv (.t 4))), some (14, false)⟩, ⟨16, (.op (.lenS (.t 15))), some (14, false)⟩, ⟨17, (.op (.bin .gtr (.t 16) (.k (.int .i64 1)))), some (14, false)⟩, ⟨18, (.op (.mv (.t 17))), some (14, false)⟩, ⟨19, (.op (.mv (.t 4))), some (18, true)⟩, ⟨20, (.op (.index (.t 19) (.k (.int .i64 0)))), some (18, true)⟩, ⟨21, (.op (.bin .eql (.t 20) (.k (.int .u8 48)))), some (18, true)⟩, ⟨22, (.op (.pick (.t 18) (.t 21) (.k (.bool false)))), some (14, false)⟩, ⟨23, (.op (.pick (.t 14) (.k (.bool true)) (.t 22))), none⟩, ⟨24, (.op (.mv (.t 23))), none⟩, ⟨25, (.op (.mv (.t 5))), some (24, false)⟩, ⟨26, (.op (.mv (.t 25))), some (24, false)⟩, ⟨27, (.op (.mv (.t 4))), some (26, true)⟩, ⟨28, (.op (.bin .eql (.t 27) (.k (.str [48])))), some (26, true)⟩, ⟨29, (.op (.pick (.t 26) (.t 28) (.k (.bool false)))), some (24, false)⟩, ⟨30, (.op (.pick (.t 24) (.k (.bool true)) (.t 29))), none⟩] [11, 12, 13, 14, 15, 16, 17, 18, 19, 20, 21, 22, 23, 24, 25, 26, 27, 28, 29])
  (.cond (.t 30)
    (.seq (.reg none [⟨2, (.op (.mv (.k (.int .i64 0)))), none⟩, ⟨3, (.op (.mv (.k (.int .i64 2)))), none⟩] [4, 5, 30])
    .ret)
    .skip))
  (.seq (.reg none [⟨31, (.op (.mv (.t 4))), none⟩, ⟨32, (.op (.mv (.t 5))), none⟩, ⟨33, (.callL n_ref01_number [.t 31, .t 32]), none⟩, ⟨34, (.op (.extract 33 0)), none⟩, ⟨35, (.op (.extract 33 1)), none⟩, ⟨2, (.op (.mvP true (.t 34))), none⟩, ⟨3, (.op (.mvP true (.t 35))), none⟩] [4, 5, 30, 31, 32, 33, 34, 35])
  .ret))))
theorem k_ref01_ParseInt : fnOk Tryd.prog Tryd.f45 c_ref01_ParseInt 36 1 [.t 2, .t 3] = true := by kernel_rfl
theorem u_ref01_ParseInt : Tryd.prog.funcs[n_ref01_ParseInt]? = some Tryd.f45 := Tryd.func45
/-- guerdon/value.Format -/
def c_value_Format : FC :=
  (.seq (.reg none [⟨2, (.op (.box (.t 0))), none⟩, ⟨4, (.op (.mv (.k (.str [])))), none⟩, ⟨5, (.op (.mv (.k (.int .i64 0)))), none⟩] [0, 4, 5])
  (.seq (.block 0 (.seq (.reg none [⟨7, (.op (.load (.t 2) 3 true)), none⟩, ⟨8, (.callL n_value_typeOf [.t 7]), none⟩, ⟨9, (.op (.mv (.t 1))), none⟩, ⟨10, (.callL n_value_ValidType [.t 8, .t 9]), none⟩, ⟨11, (.op (.un .not (.t 10))), none⟩, ⟨6, (.op (.mv (.t 11))), none⟩] [7, 8, 9, 10, 11])
    (.cond (.t 6)
      (.seq (.reg none [⟨4, (.op (.mv (.k (.str [])))), none⟩, ⟨5, (.op (.mv (.k (.int .i64 8)))), none⟩] [1, 2, 6])
      .ret)
      (.seq (.reg none [⟨13, (.op (.load (.t 2) 3 true)), none⟩, ⟨14, (.op (.mv (.t 1))), none⟩, ⟨15, (.callL n_value_Valid [.t 13, .t 14]), none⟩, ⟨16, (.op (.un .not (.t 15))), none⟩, ⟨12, (.op (.mv (.t 16))), none⟩] [6, 13, 14, 15, 16])
      (.cond (.t 12)
        (.seq (.reg none [⟨4, (.op (.mv (.k (.str [])))), none⟩, ⟨5, (.op (.mv (.k (.int .i64 3)))), none⟩] [1, 2, 12])
        .ret)
        .skip)))))
  (.seq (.seq (.reg none [⟨17, (.op (.fa (.t 2) 0)), none⟩, ⟨18, (.op (.load (.t 17) 1 false)), none⟩] [12, 17])
  (.block 1 (.seq (.reg none [⟨20, (.op (.bin .eql (.t 18) (.k (.int .i64 1)))), none⟩, ⟨19, (.op (.mv (.t 20))), none⟩] [20])
    (.cond (.t 19)
      (.seq (.seq (.reg none [⟨21, (.op (.fa (.t 2) 2)), none⟩, ⟨22, (.op (.load (.t 21) 1 false)), none⟩, ⟨23, (.op (.bin .eql (.t 22) (.k (.int .i64 1)))), none⟩] [1, 2, 18, 19, 21, 22])
      (.cond (.t 23)
        (.seq (.reg none [⟨4, (.op (.mv (.k (.str [116, 114, 117, 101])))), none⟩, ⟨5, (.op (.mv (.k (.int .i64 0)))), none⟩] [23])
        .ret)
        .skip))
      (.seq (.reg none [⟨4, (.op (.mv (.k (.str [102, 97, 108, 115, 101])))), none⟩, ⟨5, (.op (.mv (.k (.int .i64 0)))), none⟩] [23])
      .ret))
      (.seq (.reg none [⟨25, (.op (.bin .eql (.t 18) (.k (.int .i64 2)))), none⟩, ⟨24, (.op (.mv (.t 25))), none⟩] [19, 25])
      (.cond (.t 24)
        (.seq (.reg none [⟨26, (.op (.fa (.t 2) 2)), none⟩, ⟨27, (.op (.load (.t 26) 1 false)), none⟩, ⟨28, (.callL n_numtext_FormatInt [.t 27]), none⟩, ⟨4, (.op (.mvP true (.t 28))), none⟩, ⟨5, (.op (.mv (.k (.int .i64 0)))), none⟩] [1, 2, 18, 24, 26, 27, 28])
        .ret)
        (.seq (.reg none [⟨30, (.op (.bin .eql (.t 18) (.k (.int .i64 3)))), none⟩, ⟨29, (.op (.mv (.t 30))), none⟩] [24, 30])
        (.cond (.t 29)
          (.seq (.reg none [⟨31, (.op (.fa (.t 2) 2)), none⟩, ⟨32, (.op (.load (.t 31) 1 false)), none⟩, ⟨33, (.callL n_numtext_FormatFixed [.t 32, .k (.int .i64 2)]), none⟩, ⟨4, (.op (.mvP true (.t 33))), none⟩, ⟨5, (.op (.mv (.k (.int .i64 0)))), none⟩] [1, 2, 18, 29, 31, 32, 33])
          .ret)
          (.seq (.reg none [⟨35, (.op (.bin .eql (.t 18) (.k (.int .i64 4)))), none⟩, ⟨34, (.op (.mv (.t 35))), none⟩] [29, 35])
          (.cond (.t 34)
            (.seq (.reg none [⟨36, (.op (.fa (.t 2) 2)), none⟩, ⟨37, (.op (.load (.t 36) 1 false)), none⟩, ⟨38, (.callL n_numtext_FormatFixed [.t 37, .k (.int .i64 4)]), none⟩, ⟨39, (.op (.bin .add (.t 38) (.k (.str [37])))), none⟩, ⟨4, (.op (.mv (.t 39))), none⟩, ⟨5, (.op (.mv (.k (.int .i64 0)))), none⟩] [1, 2, 18, 34, 36, 37, 38, 39])
            .ret)
            (.seq (.reg none [⟨41, (.op (.bin .eql (.t 18) (.k (.int .i64 5)))), none⟩, ⟨40, (.op (.mv (.t 41))), none⟩] [18, 34, 41])
            (.cond (.t 40)
              (.seq (.reg none [⟨42, (.op (.fa (.t 2) 2)), none⟩, ⟨43, (.op (.load (.t 42) 1 false)), none⟩, ⟨44, (.callL n_date_Format [.t 43]), none⟩, ⟨4, (.op (.mvP true (.t 44))), none⟩, ⟨5, (.op (.mv (.k (.int .i64 0)))), none⟩] [1, 2, 40, 42, 43, 44])
              .ret)
              .skip))))))))))))
  (.seq (.reg (some 12) [⟨45, (.op (.mv (.t 1))), none⟩, ⟨46, (.op (.fa (.t 2) 1)), none⟩, ⟨47, (.op (.load (.t 46) 1 false)), none⟩, ⟨48, (.op (.ia (.t 45) (.t 47) 2)), none⟩, ⟨49, (.op (.fa (.t 48) 1)), none⟩, ⟨50, (.op (.load (.t 49) 1 false)), none⟩, ⟨51, (.op (.fa (.t 2) 2)), none⟩, ⟨52, (.op (.load (.t 51) 1 false)), none⟩, ⟨53, (.op (.ia (.t 50) (.t 52) 1)), none⟩, ⟨54, (.op (.load (.t 53) 1 false)), none⟩, ⟨4, (.op (.mv (.t 54))), none⟩, ⟨5, (.op (.mv (.k (.int .i64 0)))), none⟩] [1, 2, 40, 45, 46, 47, 48, 49, 50, 51, 52, 53, 54])
  .ret))))
theorem k_value_Format : fnOk Tryd.prog Tryd.f49 c_value_Format 55 2 [.t 4, .t 5] = true := by kernel_rfl
theorem u_value_Format : Tryd.prog.funcs[n_value_Format]? = some Tryd.f49 := Tryd.func49
theorem mixed : Tryd.prog.follows .mixedOrders = true := by kernel_rfl
attribute [go_sem] mixed
end Go.Fx.Tryd
/-
  DERIVED: THE SHELF's CONTRACTS AT THIS DUMP, IN PLAIN WORDS (tools/lay-plain.mjs out of 'TrydShelf.lean', which tools/lay-shelf.mjs wrote): THE SAME DECLARATIONS UNDER THE SAME NAMES: 'import', 'namespace', 'open', 'def', 'theorem' AND NOTHING ELSE: no command of the shelf's: FOR A HAND-IN. Each laying: the table of numbers ('.._ren') and one theorem, a field a fact of the dump's own or the kernel's comparison; each contract: ONE APPLICATION.
-/
namespace Go.Proofs
open Go.Shelf
def Tryd.lays170_ren : Go.Shelf.Ren := ⟨fun | 170 => 90 | n => n, fun | 70 => 103 | 3 => 3 | 0 => 0 | 72 => 106 | 37 => 104 | 5 => 5 | n => n, fun | n => n⟩
theorem Tryd.lays170 : Go.Proofs.Lays.n170 Tryd.prog Tryd.lays170_ren := {
  mixed := by kernel_rfl
  f170 := Tryd.func90.trans (congrArg some (by kernel_rfl))
  t0 := Tryd.underlying0
  a0 := Tryd.isAgg0
  z0 := Tryd.sizeOf0
  v0 := Tryd.zeroValue0
  t3 := Tryd.underlying3
  a3 := Tryd.isAgg3
  z3 := Tryd.sizeOf3
  v3 := Tryd.zeroValue3
  t37 := Tryd.underlying104
  a37 := Tryd.isAgg104
  z37 := Tryd.sizeOf104
  v37 := Tryd.zeroValue104
  t70 := Tryd.underlying103
  a70 := Tryd.isAgg103
  z70 := Tryd.sizeOf103
  v70 := Tryd.zeroValue103
  t72 := Tryd.underlying106
  a72 := Tryd.isAgg106
  z72 := Tryd.sizeOf106
  v72 := Tryd.zeroValue106 }
open Go.RowKit in
/-- (*strings.Builder).Len: "Len returns the number of accumulated bytes; b.Len() == len(b.String()).": the world is as it was. (LAID: no walk: one application.) -/
theorem Tryd.Builder_Len (B b : Nat) (bs : List Value) (w : World) (h : Lib.IsBuilder 106 5 B b bs w) :
    Calls Tryd.prog 90 #[.pointer (some ⟨b, 0, none⟩)] w fun e w' => e = .returned (.int .i64 bs.length) ∧ w' = w := Any.Builder_Len Tryd.lays170 B b bs w h
def Tryd.lays169_ren : Go.Shelf.Ren := ⟨fun | 169 => 58 | n => n, fun | 70 => 103 | 9 => 9 | 0 => 0 | 72 => 106 | 37 => 104 | 127 => 117 | 3 => 3 | 5 => 5 | n => n, fun | n => n⟩
theorem Tryd.lays169 : Go.Proofs.Lays.n169 Tryd.prog Tryd.lays169_ren := {
  mixed := by kernel_rfl
  f169 := Tryd.func58.trans (congrArg some (by kernel_rfl))
  t0 := Tryd.underlying0
  a0 := Tryd.isAgg0
  z0 := Tryd.sizeOf0
  v0 := Tryd.zeroValue0
  t3 := Tryd.underlying3
  a3 := Tryd.isAgg3
  z3 := Tryd.sizeOf3
  v3 := Tryd.zeroValue3
  t9 := Tryd.underlying9
  a9 := Tryd.isAgg9
  z9 := Tryd.sizeOf9
  v9 := Tryd.zeroValue9
  t37 := Tryd.underlying104
  a37 := Tryd.isAgg104
  z37 := Tryd.sizeOf104
  v37 := Tryd.zeroValue104
  t70 := Tryd.underlying103
  a70 := Tryd.isAgg103
  z70 := Tryd.sizeOf103
  v70 := Tryd.zeroValue103
  t72 := Tryd.underlying106
  a72 := Tryd.isAgg106
  z72 := Tryd.sizeOf106
  v72 := Tryd.zeroValue106
  t127 := Tryd.underlying117
  a127 := Tryd.isAgg117
  z127 := Tryd.sizeOf117
  v127 := Tryd.zeroValue117 }
theorem Tryd.Builder_Extra_169 : Builder.Extra Tryd.prog Tryd.lays169_ren := {
  sizeBuilder := by kernel_rfl
  liesBuilder := by kernel_rfl
  t5 := Tryd.underlying5
  a5 := Tryd.isAgg5
  z5 := Tryd.sizeOf5
  v5 := Tryd.zeroValue5
  infoByte := by kernel_rfl
  cellsByte := by kernel_rfl
  sizeByte := by kernel_rfl
  neB5 := by decide }
open Go.RowKit in
/-- (*strings.Builder).String: "String returns the accumulated string.": OF A BUILDER THAT HOLDS AT LEAST ONE BYTE. ✋ THE MODEL FREEZES THOSE BYTES IN THE BUFFER (unsafe.String): a later write INTO them ends the model's run without an answer; a later append BEHIND them goes on. The statement's order of evaluation is drawn: one draw. (LAID: no walk: one application.) -/
theorem Tryd.Builder_String (B b : Nat) (l : List UInt8) (w : World) (h : Lib.IsBuilder 106 5 B b (Lib.byteCells l) w) (h0 : l ≠ []) :
    Calls Tryd.prog 58 #[.pointer (some ⟨b, 0, none⟩)] w fun e w' => e = .returned (.string ⟨l.toArray⟩) ∧ Below B w w' := Any.Builder_String Tryd.lays169 Tryd.Builder_Extra_169 B b l w h h0
open Go.RowKit in
/-- (*strings.Builder).String OF A BUILDER THAT HOLDS NO BYTE: the empty string. (Its buffer is nil, or a row of which it has taken nothing yet; where that row has NO capacity the model lays one new block for unsafe.SliceData's 'some address'.) One draw. (LAID: no walk: one application.) -/
theorem Tryd.Builder_String_empty (B b : Nat) (w : World) (h : Lib.IsBuilder 106 5 B b [] w) (hBw : B ≤ w.heap.size) :
    Calls Tryd.prog 58 #[.pointer (some ⟨b, 0, none⟩)] w fun e w' => e = .returned (.string ⟨#[]⟩) ∧ Below B w w' := Any.Builder_String_empty Tryd.lays169 Tryd.Builder_Extra_169 B b w h hBw
open Go.RowKit in
/-- (*strings.Builder).String: "String returns the accumulated string.": WHATEVER THE BUILDER HOLDS. (LAID: no walk: one application.) -/
theorem Tryd.Builder_String_any (B b : Nat) (l : List UInt8) (w : World) (h : Lib.IsBuilder 106 5 B b (Lib.byteCells l) w) (hBw : B ≤ w.heap.size) :
    Calls Tryd.prog 58 #[.pointer (some ⟨b, 0, none⟩)] w fun e w' => e = .returned (.string ⟨l.toArray⟩) ∧ Below B w w' := Any.Builder_String_any Tryd.lays169 Tryd.Builder_Extra_169 B b l w h hBw
def Tryd.lays241_ren : Go.Shelf.Ren := ⟨fun | 241 => 70 | 277 => 86 | n => n, fun | 70 => 103 | 3 => 3 | 0 => 0 | 72 => 106 | 37 => 104 | 5 => 5 | n => n, fun | n => n⟩
theorem Tryd.lays241 : Go.Proofs.Lays.n241 Tryd.prog Tryd.lays241_ren := {
  mixed := by kernel_rfl
  f241 := Tryd.func70.trans (congrArg some (by kernel_rfl))
  f277 := Tryd.func86.trans (congrArg some (by kernel_rfl))
  t0 := Tryd.underlying0
  a0 := Tryd.isAgg0
  z0 := Tryd.sizeOf0
  v0 := Tryd.zeroValue0
  t3 := Tryd.underlying3
  a3 := Tryd.isAgg3
  z3 := Tryd.sizeOf3
  v3 := Tryd.zeroValue3
  t37 := Tryd.underlying104
  a37 := Tryd.isAgg104
  z37 := Tryd.sizeOf104
  v37 := Tryd.zeroValue104
  t70 := Tryd.underlying103
  a70 := Tryd.isAgg103
  z70 := Tryd.sizeOf103
  v70 := Tryd.zeroValue103
  t72 := Tryd.underlying106
  a72 := Tryd.isAgg106
  z72 := Tryd.sizeOf106
  v72 := Tryd.zeroValue106 }
theorem Tryd.Builder_Extra_241 : Builder.Extra Tryd.prog Tryd.lays241_ren := {
  sizeBuilder := by kernel_rfl
  liesBuilder := by kernel_rfl
  t5 := Tryd.underlying5
  a5 := Tryd.isAgg5
  z5 := Tryd.sizeOf5
  v5 := Tryd.zeroValue5
  infoByte := by kernel_rfl
  cellsByte := by kernel_rfl
  sizeByte := by kernel_rfl
  neB5 := by decide }
open Go.RowKit in
/-- (*strings.Builder).grow (no doc but "grow copies the buffer to a new, larger buffer so that there are at least n bytes of capacity beyond len(b.buf)."): AT A BUILDER WITHOUT A BUFFER: a new row of whatever bytes for its buffer, none of them its own yet. Three draws. (LAID: no walk: one application.) -/
theorem Tryd.Builder_grow_fresh (B b n : Nat) (w : World) (hB : B ≤ b) (hbk : w.heap[b]? = some (.cells #[.pointer (some ⟨b, 0, none⟩), .slice none 0 0] 106 (0, 0))) (hBw : B ≤ w.heap.size) (hn : n ≤ 281474976710656) :
    Calls Tryd.prog 70 #[.pointer (some ⟨b, 0, none⟩), .int .i64 n] w fun e w' => e = .returned (.tuple #[]) ∧ (Lib.BuilderAt 106 5 B b (.pointer (some ⟨b, 0, none⟩)) [] w' ∧ Below B w w') := Any.Builder_grow_fresh Tryd.lays241 Tryd.Builder_Extra_241 B b n w hB hbk hBw hn
def Tryd.lays165_ren : Go.Shelf.Ren := ⟨fun | 165 => 56 | 240 => 69 | 241 => 70 | 276 => 85 | 277 => 86 | n => n, fun | 70 => 103 | 3 => 3 | 0 => 0 | 4 => 4 | 9 => 9 | 20 => 20 | 72 => 106 | 37 => 104 | 164 => 125 | 5 => 5 | n => n, fun | n => n⟩
theorem Tryd.lays165 : Go.Proofs.Lays.n165 Tryd.prog Tryd.lays165_ren := {
  mixed := by kernel_rfl
  f165 := Tryd.func56.trans (congrArg some (by kernel_rfl))
  f240 := Tryd.func69.trans (congrArg some (by kernel_rfl))
  f241 := Tryd.func70.trans (congrArg some (by kernel_rfl))
  f276 := Tryd.func85.trans (congrArg some (by kernel_rfl))
  f277 := Tryd.func86.trans (congrArg some (by kernel_rfl))
  t0 := Tryd.underlying0
  a0 := Tryd.isAgg0
  z0 := Tryd.sizeOf0
  v0 := Tryd.zeroValue0
  t3 := Tryd.underlying3
  a3 := Tryd.isAgg3
  z3 := Tryd.sizeOf3
  v3 := Tryd.zeroValue3
  t4 := Tryd.underlying4
  a4 := Tryd.isAgg4
  z4 := Tryd.sizeOf4
  v4 := Tryd.zeroValue4
  t9 := Tryd.underlying9
  a9 := Tryd.isAgg9
  z9 := Tryd.sizeOf9
  v9 := Tryd.zeroValue9
  t20 := Tryd.underlying20
  a20 := Tryd.isAgg20
  z20 := Tryd.sizeOf20
  v20 := Tryd.zeroValue20
  t37 := Tryd.underlying104
  a37 := Tryd.isAgg104
  z37 := Tryd.sizeOf104
  v37 := Tryd.zeroValue104
  t70 := Tryd.underlying103
  a70 := Tryd.isAgg103
  z70 := Tryd.sizeOf103
  v70 := Tryd.zeroValue103
  t72 := Tryd.underlying106
  a72 := Tryd.isAgg106
  z72 := Tryd.sizeOf106
  v72 := Tryd.zeroValue106
  t164 := Tryd.underlying125
  a164 := Tryd.isAgg125
  z164 := Tryd.sizeOf125
  v164 := Tryd.zeroValue125 }
theorem Tryd.Builder_Extra_165 : Builder.Extra Tryd.prog Tryd.lays165_ren := {
  sizeBuilder := by kernel_rfl
  liesBuilder := by kernel_rfl
  t5 := Tryd.underlying5
  a5 := Tryd.isAgg5
  z5 := Tryd.sizeOf5
  v5 := Tryd.zeroValue5
  infoByte := by kernel_rfl
  cellsByte := by kernel_rfl
  sizeByte := by kernel_rfl
  neB5 := by decide }
open Go.RowKit in
/-- (*strings.Builder).Grow AT A BUILDER THAT HAS NOT BEEN WRITTEN ('var b strings.Builder; b.Grow(n)'): "Grow grows b's capacity, if necessary, to guarantee space for another n bytes.": it holds no byte behind it as before it. (LAID: no walk: one application.) -/
theorem Tryd.Builder_Grow_fresh (B b n : Nat) (w : World) (hB : B ≤ b) (hbk : w.heap[b]? = some (.cells #[.pointer none, .slice none 0 0] 106 (0, 0))) (hBw : B ≤ w.heap.size) (hn : n ≤ 281474976710656) :
    Calls Tryd.prog 56 #[.pointer (some ⟨b, 0, none⟩), .int .i64 n] w fun e w' => e = .returned (.tuple #[]) ∧ (Lib.BuilderAt 106 5 B b (.pointer (some ⟨b, 0, none⟩)) [] w' ∧ Below B w w') := Any.Builder_Grow_fresh Tryd.lays165 Tryd.Builder_Extra_165 B b n w hB hbk hBw hn
def Tryd.lays156_ren : Go.Shelf.Ren := ⟨fun | 156 => 33 | 165 => 56 | 166 => 57 | 169 => 58 | 240 => 69 | 241 => 70 | 276 => 85 | 277 => 86 | n => n, fun | 31 => 36 | 9 => 9 | 3 => 3 | 4 => 4 | 0 => 0 | 20 => 20 | 72 => 106 | 76 => 110 | 70 => 103 | 37 => 104 | 75 => 109 | 127 => 117 | 164 => 125 | 5 => 5 | 80 => 112 | n => n, fun | n => n⟩
theorem Tryd.lays156 : Go.Proofs.Lays.n156 Tryd.prog Tryd.lays156_ren := {
  mixed := by kernel_rfl
  f156 := Tryd.func33.trans (congrArg some (by kernel_rfl))
  f165 := Tryd.func56.trans (congrArg some (by kernel_rfl))
  f166 := Tryd.func57.trans (congrArg some (by kernel_rfl))
  f169 := Tryd.func58.trans (congrArg some (by kernel_rfl))
  f240 := Tryd.func69.trans (congrArg some (by kernel_rfl))
  f241 := Tryd.func70.trans (congrArg some (by kernel_rfl))
  f276 := Tryd.func85.trans (congrArg some (by kernel_rfl))
  f277 := Tryd.func86.trans (congrArg some (by kernel_rfl))
  t0 := Tryd.underlying0
  a0 := Tryd.isAgg0
  z0 := Tryd.sizeOf0
  v0 := Tryd.zeroValue0
  t3 := Tryd.underlying3
  a3 := Tryd.isAgg3
  z3 := Tryd.sizeOf3
  v3 := Tryd.zeroValue3
  t4 := Tryd.underlying4
  a4 := Tryd.isAgg4
  z4 := Tryd.sizeOf4
  v4 := Tryd.zeroValue4
  t9 := Tryd.underlying9
  a9 := Tryd.isAgg9
  z9 := Tryd.sizeOf9
  v9 := Tryd.zeroValue9
  t20 := Tryd.underlying20
  a20 := Tryd.isAgg20
  z20 := Tryd.sizeOf20
  v20 := Tryd.zeroValue20
  t31 := Tryd.underlying36
  a31 := Tryd.isAgg36
  z31 := Tryd.sizeOf36
  v31 := Tryd.zeroValue36
  t37 := Tryd.underlying104
  a37 := Tryd.isAgg104
  z37 := Tryd.sizeOf104
  v37 := Tryd.zeroValue104
  t70 := Tryd.underlying103
  a70 := Tryd.isAgg103
  z70 := Tryd.sizeOf103
  v70 := Tryd.zeroValue103
  t72 := Tryd.underlying106
  a72 := Tryd.isAgg106
  z72 := Tryd.sizeOf106
  v72 := Tryd.zeroValue106
  t75 := Tryd.underlying109
  a75 := Tryd.isAgg109
  z75 := Tryd.sizeOf109
  v75 := Tryd.zeroValue109
  t76 := Tryd.underlying110
  a76 := Tryd.isAgg110
  z76 := Tryd.sizeOf110
  v76 := Tryd.zeroValue110
  t127 := Tryd.underlying117
  a127 := Tryd.isAgg117
  z127 := Tryd.sizeOf117
  v127 := Tryd.zeroValue117
  t164 := Tryd.underlying125
  a164 := Tryd.isAgg125
  z164 := Tryd.sizeOf125
  v164 := Tryd.zeroValue125 }
theorem Tryd.Builder_Extra_156 : Builder.Extra Tryd.prog Tryd.lays156_ren := {
  sizeBuilder := by kernel_rfl
  liesBuilder := by kernel_rfl
  t5 := Tryd.underlying5
  a5 := Tryd.isAgg5
  z5 := Tryd.sizeOf5
  v5 := Tryd.zeroValue5
  infoByte := by kernel_rfl
  cellsByte := by kernel_rfl
  sizeByte := by kernel_rfl
  neB5 := by decide }
open Go.RowKit in
/-- No element: the empty string; the world is as it was. (Whatever the slice's address and capacity: a nil slice too.) (LAID: no walk: one application.) -/
theorem Tryd.strings_Join_none (a : Option Addr) (c : Nat) (sep : ByteArray) (w : World) :
    Calls Tryd.prog 33 #[.slice a 0 c, .string sep] w fun e w' => e = .returned (.string ⟨#[]⟩) ∧ w' = w := Any.strings_Join_none Tryd.lays156 Tryd.Builder_Extra_156 a c sep w
open Go.RowKit in
/-- strings.Join: "Join concatenates the elements of its first argument to create a single string. The separator string sep is placed between elements in the resulting string.": HOWEVER MANY ELEMENTS. Below the heap's end the world is as it was. (LAID: no walk: one application.) -/
theorem Tryd.strings_Join (bk o c : Nat) (xs : List ByteArray) (sep : ByteArray) (w : World) (hcells : ∀ (j : Nat) x, xs[j]? = some x → w.cell? ⟨bk, o + j, none⟩ = some (.string x)) (hbk : bk < w.heap.size) (hN : xs.length ≤ 140737488355328) (hcap : xs.length ≤ c) (hlen : (Lib.join (xs.map (·.data.toList)) sep.data.toList).length ≤ 140737488355328) :
    Calls Tryd.prog 33 #[.slice (some ⟨bk, o, none⟩) xs.length c, .string sep] w fun e w' => e = .returned (.string ⟨(Lib.join (xs.map (·.data.toList)) sep.data.toList).toArray⟩) ∧ Below w.heap.size w w' := Any.strings_Join Tryd.lays156 Tryd.Builder_Extra_156 bk o c xs sep w hcells hbk hN hcap hlen
def Tryd.lays210_ren : Go.Shelf.Ren := ⟨fun | 210 => 87 | 206 => 102 | n => n, fun | 9 => 9 | 4 => 4 | 3 => 3 | n => n, fun | n => n⟩
theorem Tryd.lays210 : Go.Proofs.Lays.n210 Tryd.prog Tryd.lays210_ren := {
  mixed := by kernel_rfl
  f206 := Tryd.func102.trans (congrArg some (by kernel_rfl))
  f210 := Tryd.func87.trans (congrArg some (by kernel_rfl))
  t3 := Tryd.underlying3
  a3 := Tryd.isAgg3
  z3 := Tryd.sizeOf3
  v3 := Tryd.zeroValue3
  t4 := Tryd.underlying4
  a4 := Tryd.isAgg4
  z4 := Tryd.sizeOf4
  v4 := Tryd.zeroValue4
  t9 := Tryd.underlying9
  a9 := Tryd.isAgg9
  z9 := Tryd.sizeOf9
  v9 := Tryd.zeroValue9 }
open Go.RowKit in
/-- internal/stringslite.CutPrefix (what strings.CutPrefix calls). (LAID: no walk: one application.) -/
theorem Tryd.stringslite_CutPrefix (s p : ByteArray) (w : World) :
    Calls Tryd.prog 87 #[.string s, .string p] w fun e w' => e = .returned (.tuple #[.string ⟨(Lib.trimPrefix s.data.toList p.data.toList).toArray⟩, .bool (Lib.hasPrefix s.data.toList p.data.toList)]) ∧ w' = w := Any.stringslite_CutPrefix Tryd.lays210 s p w
def Tryd.lays103_ren : Go.Shelf.Ren := ⟨fun | 103 => 73 | 210 => 87 | 206 => 102 | n => n, fun | 9 => 9 | 4 => 4 | 24 => 86 | 3 => 3 | n => n, fun | n => n⟩
theorem Tryd.lays103 : Go.Proofs.Lays.n103 Tryd.prog Tryd.lays103_ren := {
  mixed := by kernel_rfl
  f103 := Tryd.func73.trans (congrArg some (by kernel_rfl))
  f206 := Tryd.func102.trans (congrArg some (by kernel_rfl))
  f210 := Tryd.func87.trans (congrArg some (by kernel_rfl))
  t3 := Tryd.underlying3
  a3 := Tryd.isAgg3
  z3 := Tryd.sizeOf3
  v3 := Tryd.zeroValue3
  t4 := Tryd.underlying4
  a4 := Tryd.isAgg4
  z4 := Tryd.sizeOf4
  v4 := Tryd.zeroValue4
  t9 := Tryd.underlying9
  a9 := Tryd.isAgg9
  z9 := Tryd.sizeOf9
  v9 := Tryd.zeroValue9
  t24 := Tryd.underlying86
  a24 := Tryd.isAgg86
  z24 := Tryd.sizeOf86
  v24 := Tryd.zeroValue86 }
open Go.RowKit in
/-- strings.CutPrefix: "CutPrefix returns s without the provided leading prefix string and reports whether it found the prefix. If s doesn't start with prefix, CutPrefix returns s, false. If prefix is the empty string, CutPrefix returns s, true.": IT RETURNS '(Lib.trimPrefix s p, Lib.hasPrefix s p)'; the world is as it was. (LAID: no walk: one application.) -/
theorem Tryd.strings_CutPrefix (s p : ByteArray) (w : World) :
    Calls Tryd.prog 73 #[.string s, .string p] w fun e w' => e = .returned (.tuple #[.string ⟨(Lib.trimPrefix s.data.toList p.data.toList).toArray⟩, .bool (Lib.hasPrefix s.data.toList p.data.toList)]) ∧ w' = w := Any.strings_CutPrefix Tryd.lays103 s p w
open Go.RowKit in
/-- (*strings.Builder).Len: "Len returns the number of accumulated bytes; b.Len() == len(b.String()).": the world is as it was. (THE FORM '_f': 'Lib.IsBuilderF'.) (LAID: no walk: one application.) -/
theorem Tryd.Builder_Len_f (B b : Nat) (bs : List Value) (w : World) (h : Lib.IsBuilderF 106 5 B b bs w) :
    Calls Tryd.prog 90 #[.pointer (some ⟨b, 0, none⟩)] w fun e w' => e = .returned (.int .i64 bs.length) ∧ w' = w := Any.Builder_Len_f Tryd.lays170 B b bs w h
open Go.RowKit in
/-- (*strings.Builder).String: "String returns the accumulated string.": OF A BUILDER THAT HOLDS AT LEAST ONE BYTE. ✋ THE MODEL FREEZES THOSE BYTES IN THE BUFFER (unsafe.String): a later write INTO them ends the model's run without an answer; a later append BEHIND them goes on. The statement's order of evaluation is drawn: one draw. THE FORM '_f': IT SAYS BESIDES THAT THE BUILDER IS A BUILDER STILL ('Lib.IsBuilderF', the same bytes): SO IT CAN BE WRITTEN ON: 'b.WriteString(b.String()[:k])'. (LAID: no walk: one application.) -/
theorem Tryd.Builder_String_f (B b : Nat) (l : List UInt8) (w : World) (h : Lib.IsBuilderF 106 5 B b (Lib.byteCells l) w) (h0 : l ≠ []) :
    Calls Tryd.prog 58 #[.pointer (some ⟨b, 0, none⟩)] w fun e w' => e = .returned (.string ⟨l.toArray⟩) ∧ (Lib.IsBuilderF 106 5 B b (Lib.byteCells l) w' ∧ Below B w w') := Any.Builder_String_f Tryd.lays169 Tryd.Builder_Extra_169 B b l w h h0
open Go.RowKit in
/-- (*strings.Builder).String OF A BUILDER THAT HOLDS NO BYTE: the empty string; THE FORM '_f': a builder still. (LAID: no walk: one application.) -/
theorem Tryd.Builder_String_empty_f (B b : Nat) (w : World) (h : Lib.IsBuilderF 106 5 B b [] w) (hBw : B ≤ w.heap.size) :
    Calls Tryd.prog 58 #[.pointer (some ⟨b, 0, none⟩)] w fun e w' => e = .returned (.string ⟨#[]⟩) ∧ (Lib.IsBuilderF 106 5 B b [] w' ∧ Below B w w') := Any.Builder_String_empty_f Tryd.lays169 Tryd.Builder_Extra_169 B b w h hBw
open Go.RowKit in
/-- (*strings.Builder).String: "String returns the accumulated string.": WHATEVER THE BUILDER HOLDS; THE FORM '_f': OF A BUILDER THAT MAY HAVE BEEN READ BEFORE; AND IT IS A BUILDER STILL, holding the same bytes: it can be written on. (LAID: no walk: one application.) -/
theorem Tryd.Builder_String_any_f (B b : Nat) (l : List UInt8) (w : World) (h : Lib.IsBuilderF 106 5 B b (Lib.byteCells l) w) (hBw : B ≤ w.heap.size) :
    Calls Tryd.prog 58 #[.pointer (some ⟨b, 0, none⟩)] w fun e w' => e = .returned (.string ⟨l.toArray⟩) ∧ (Lib.IsBuilderF 106 5 B b (Lib.byteCells l) w' ∧ Below B w w') := Any.Builder_String_any_f Tryd.lays169 Tryd.Builder_Extra_169 B b l w h hBw
open Go.RowKit in
/-- (*strings.Builder).String: "String returns the accumulated string.": OF A BUILDER THAT HOLDS AT LEAST ONE BYTE. ✋ THE MODEL FREEZES THOSE BYTES IN THE BUFFER (unsafe.String): a later write INTO them ends the model's run without an answer; a later append BEHIND them goes on. The statement's order of evaluation is drawn: one draw. THE FORM '_k': OVER 'Lib.IsBuilderF' (a builder that 'String()' may have read), AND WITH THE FRAME THAT REACHES ABOVE THE BUILDER: 'Lib.OthersKept': every block that is not b and is no row of uint8's stands as it stood: the iterator of a range among them. (LAID: no walk: one application.) -/
theorem Tryd.Builder_String_k (B b : Nat) (l : List UInt8) (w : World) (h : Lib.IsBuilderF 106 5 B b (Lib.byteCells l) w) (h0 : l ≠ []) :
    Calls Tryd.prog 58 #[.pointer (some ⟨b, 0, none⟩)] w fun e w' => e = .returned (.string ⟨l.toArray⟩) ∧ (Lib.IsBuilderF 106 5 B b (Lib.byteCells l) w' ∧ Below B w w' ∧ Lib.OthersKept 5 (some b) w w') := Any.Builder_String_k Tryd.lays169 Tryd.Builder_Extra_169 B b l w h h0
open Go.RowKit in
/-- (*strings.Builder).String OF A BUILDER THAT HOLDS NO BYTE: the empty string; THE FORM '_k': OVER 'Lib.IsBuilderF' (a builder that 'String()' may have read), AND WITH THE FRAME THAT REACHES ABOVE THE BUILDER: 'Lib.OthersKept': every block that is not b and is no row of uint8's stands as it stood: the iterator of a range among them. (LAID: no walk: one application.) -/
theorem Tryd.Builder_String_empty_k (B b : Nat) (w : World) (h : Lib.IsBuilderF 106 5 B b [] w) (hBw : B ≤ w.heap.size) :
    Calls Tryd.prog 58 #[.pointer (some ⟨b, 0, none⟩)] w fun e w' => e = .returned (.string ⟨#[]⟩) ∧ (Lib.IsBuilderF 106 5 B b [] w' ∧ Below B w w' ∧ Lib.OthersKept 5 (some b) w w') := Any.Builder_String_empty_k Tryd.lays169 Tryd.Builder_Extra_169 B b w h hBw
open Go.RowKit in
/-- (*strings.Builder).String: "String returns the accumulated string.": WHATEVER THE BUILDER HOLDS; THE FORM '_k': OVER 'Lib.IsBuilderF' (a builder that 'String()' may have read), AND WITH THE FRAME THAT REACHES ABOVE THE BUILDER: 'Lib.OthersKept': every block that is not b and is no row of uint8's stands as it stood: the iterator of a range among them. (LAID: no walk: one application.) -/
theorem Tryd.Builder_String_any_k (B b : Nat) (l : List UInt8) (w : World) (h : Lib.IsBuilderF 106 5 B b (Lib.byteCells l) w) (hBw : B ≤ w.heap.size) :
    Calls Tryd.prog 58 #[.pointer (some ⟨b, 0, none⟩)] w fun e w' => e = .returned (.string ⟨l.toArray⟩) ∧ (Lib.IsBuilderF 106 5 B b (Lib.byteCells l) w' ∧ Below B w w' ∧ Lib.OthersKept 5 (some b) w w') := Any.Builder_String_any_k Tryd.lays169 Tryd.Builder_Extra_169 B b l w h hBw
open Go.RowKit in
/-- (*strings.Builder).grow (no doc but "grow copies the buffer to a new, larger buffer so that there are at least n bytes of capacity beyond len(b.buf)."): AT A BUILDER WITHOUT A BUFFER: a new row of whatever bytes for its buffer, none of them its own yet. Three draws. (LAID: no walk: one application.) -/
theorem Tryd.Builder_grow_fresh_cap (B b n : Nat) (w : World) (hB : B ≤ b) (hbk : w.heap[b]? = some (.cells #[.pointer (some ⟨b, 0, none⟩), .slice none 0 0] 106 (0, 0))) (hBw : B ≤ w.heap.size) (hn : n ≤ 281474976710656) :
    Calls Tryd.prog 70 #[.pointer (some ⟨b, 0, none⟩), .int .i64 n] w fun e w' => e = .returned (.tuple #[]) ∧ (Lib.BuilderAt 106 5 B b (.pointer (some ⟨b, 0, none⟩)) [] w' ∧ Below B w w') ∧ ∃ p cap, w'.cell? ⟨b, 1, none⟩ = some (.slice p 0 cap) ∧ n ≤ cap := Any.Builder_grow_fresh_cap Tryd.lays241 Tryd.Builder_Extra_241 B b n w hB hbk hBw hn
open Go.RowKit in
/-- (*strings.Builder).Grow AT A BUILDER THAT HAS NOT BEEN WRITTEN ('var b strings.Builder; b.Grow(n)'): "Grow grows b's capacity, if necessary, to guarantee space for another n bytes.": it holds no byte behind it as before it. (LAID: no walk: one application.) -/
theorem Tryd.Builder_Grow_fresh_cap (B b n : Nat) (w : World) (hB : B ≤ b) (hbk : w.heap[b]? = some (.cells #[.pointer none, .slice none 0 0] 106 (0, 0))) (hBw : B ≤ w.heap.size) (hn : n ≤ 281474976710656) :
    Calls Tryd.prog 56 #[.pointer (some ⟨b, 0, none⟩), .int .i64 n] w fun e w' => e = .returned (.tuple #[]) ∧ (Lib.BuilderAt 106 5 B b (.pointer (some ⟨b, 0, none⟩)) [] w' ∧ Below B w w') ∧ ∃ p cap, w'.cell? ⟨b, 1, none⟩ = some (.slice p 0 cap) ∧ n ≤ cap := Any.Builder_Grow_fresh_cap Tryd.lays165 Tryd.Builder_Extra_165 B b n w hB hbk hBw hn
def Tryd.lays129_ren : Go.Shelf.Ren := ⟨fun | 129 => 110 | n => n, fun | 53 => 102 | 3 => 3 | 4 => 4 | 46 => 128 | 5 => 5 | 9 => 9 | n => n, fun | n => n⟩
theorem Tryd.lays129 : Go.Proofs.Lays.n129 Tryd.prog Tryd.lays129_ren := {
  mixed := by kernel_rfl
  f129 := Tryd.func110.trans (congrArg some (by kernel_rfl))
  t3 := Tryd.underlying3
  a3 := Tryd.isAgg3
  z3 := Tryd.sizeOf3
  v3 := Tryd.zeroValue3
  t4 := Tryd.underlying4
  a4 := Tryd.isAgg4
  z4 := Tryd.sizeOf4
  v4 := Tryd.zeroValue4
  t5 := Tryd.underlying5
  a5 := Tryd.isAgg5
  z5 := Tryd.sizeOf5
  v5 := Tryd.zeroValue5
  t9 := Tryd.underlying9
  a9 := Tryd.isAgg9
  z9 := Tryd.sizeOf9
  v9 := Tryd.zeroValue9
  t46 := Tryd.underlying128
  a46 := Tryd.isAgg128
  z46 := Tryd.sizeOf128
  v46 := Tryd.zeroValue128
  t53 := Tryd.underlying102
  a53 := Tryd.isAgg102
  z53 := Tryd.sizeOf102
  v53 := Tryd.zeroValue102 }
/-- bits.Len64: "Len64 returns the minimum number of bits required to represent x; the result is 0 for x == 0.": IT RETURNS 'Lib.bitLen x'; the world is as it was. ('h0', 'h1': x is a uint64.) (LAID: no walk: one application.) -/
theorem Tryd.bits_Len64 (x : Int) (w : World) (h0 : 0 ≤ x) (h1 : x ≤ 18446744073709551615) :
    Calls Tryd.prog 110 #[.int .u64 x] w fun e w' => e = .returned (.int .i64 (Lib.bitLen x.toNat)) ∧ w' = w := Any.bits_Len64 Tryd.lays129 x w h0 h1
def Tryd.lays317_ren : Go.Shelf.Ren := ⟨fun | 317 => 109 | n => n, fun | 3 => 3 | 46 => 128 | n => n, fun | n => n⟩
theorem Tryd.lays317 : Go.Proofs.Lays.n317 Tryd.prog Tryd.lays317_ren := {
  mixed := by kernel_rfl
  f317 := Tryd.func109.trans (congrArg some (by kernel_rfl))
  t3 := Tryd.underlying3
  a3 := Tryd.isAgg3
  z3 := Tryd.sizeOf3
  v3 := Tryd.zeroValue3
  t46 := Tryd.underlying128
  a46 := Tryd.isAgg128
  z46 := Tryd.sizeOf128
  v46 := Tryd.zeroValue128 }
open Go.Lib in
/-- internal/strconv.log10Pow2: "log10Pow2(x) returns ⌊log₁₀ 2**x⌋ = ⌊x * log₁₀ 2⌋.": '(x * 78913) >> 18', at an x up to 64 (a length in bits). The world is as it was. (LAID: no walk: one application.) -/
theorem Tryd.internal_strconv_log10Pow2 (x : Nat) (h : x ≤ 64) (w : World) :
    Calls Tryd.prog 109 #[.int .i64 x] w fun e w' => e = .returned (.int .i64 (Lib.l10 x)) ∧ w' = w := Any.internal_strconv_log10Pow2 Tryd.lays317 x h w
def Tryd.lays318_ren : Go.Shelf.Ren := ⟨fun | 318 => 111 | n => n, fun | 3 => 3 | 4 => 4 | n => n, fun | n => n⟩
theorem Tryd.lays318 : Go.Proofs.Lays.n318 Tryd.prog Tryd.lays318_ren := {
  mixed := by kernel_rfl
  f318 := Tryd.func111.trans (congrArg some (by kernel_rfl))
  t3 := Tryd.underlying3
  a3 := Tryd.isAgg3
  z3 := Tryd.sizeOf3
  v3 := Tryd.zeroValue3
  t4 := Tryd.underlying4
  a4 := Tryd.isAgg4
  z4 := Tryd.sizeOf4
  v4 := Tryd.zeroValue4 }
open Go.Lib in
/-- internal/strconv.bool2: "bool2 converts b to an integer: 1 for true, 0 for false." The world is as it was. (LAID: no walk: one application.) -/
theorem Tryd.internal_strconv_bool2_int (b : Bool) (w : World) :
    Calls Tryd.prog 111 #[.bool b] w fun e w' => e = .returned (.int .i64 (if b then 1 else 0)) ∧ w' = w := Any.internal_strconv_bool2_int Tryd.lays318 b w
def Tryd.lays283_ren : Go.Shelf.Ren := ⟨fun | 283 => 98 | n => n, fun | 3 => 3 | 9 => 9 | 4 => 4 | n => n, fun | n => n⟩
theorem Tryd.lays283 : Go.Proofs.Lays.n283 Tryd.prog Tryd.lays283_ren := {
  mixed := by kernel_rfl
  f283 := Tryd.func98.trans (congrArg some (by kernel_rfl))
  t3 := Tryd.underlying3
  a3 := Tryd.isAgg3
  z3 := Tryd.sizeOf3
  v3 := Tryd.zeroValue3
  t4 := Tryd.underlying4
  a4 := Tryd.isAgg4
  z4 := Tryd.sizeOf4
  v4 := Tryd.zeroValue4
  t9 := Tryd.underlying9
  a9 := Tryd.isAgg9
  z9 := Tryd.sizeOf9
  v9 := Tryd.zeroValue9 }
open Go.Lib in
/-- internal/strconv.small: "small returns the string for an i with 0 <= i < nSmalls.": i's decimal numeral. The world is as it was. (LAID: no walk: one application.) -/
theorem Tryd.internal_strconv_small (i : Nat) (h : i < 100) (w : World) :
    Calls Tryd.prog 98 #[.int .i64 i] w fun e w' => e = .returned (.string ⟨(Lib.decDigits i).toArray⟩) ∧ w' = w := Any.internal_strconv_small Tryd.lays283 i h w
def Tryd.laysM284_ren : Go.Shelf.Ren := ⟨fun | 284 => 99 | 129 => 110 | 317 => 109 | 318 => 111 | n => n, fun | 53 => 102 | 3 => 3 | 212 => 148 | 0 => 0 | 4 => 4 | 46 => 128 | 5 => 5 | 9 => 9 | n => n, fun | 17 => 1 | n => n⟩
theorem Tryd.laysM284 : Go.Proofs.LaysM.n284 Tryd.prog Tryd.laysM284_ren := {
  mixed := by kernel_rfl
  f129 := Tryd.func110.trans (congrArg some (by kernel_rfl))
  f284 := Tryd.func99.trans (congrArg some (by kernel_rfl))
  f317 := Tryd.func109.trans (congrArg some (by kernel_rfl))
  f318 := Tryd.func111.trans (congrArg some (by kernel_rfl))
  t0 := Tryd.underlying0
  a0 := Tryd.isAgg0
  z0 := Tryd.sizeOf0
  v0 := Tryd.zeroValue0
  t3 := Tryd.underlying3
  a3 := Tryd.isAgg3
  z3 := Tryd.sizeOf3
  v3 := Tryd.zeroValue3
  t4 := Tryd.underlying4
  a4 := Tryd.isAgg4
  z4 := Tryd.sizeOf4
  v4 := Tryd.zeroValue4
  t5 := Tryd.underlying5
  a5 := Tryd.isAgg5
  z5 := Tryd.sizeOf5
  v5 := Tryd.zeroValue5
  t9 := Tryd.underlying9
  a9 := Tryd.isAgg9
  z9 := Tryd.sizeOf9
  v9 := Tryd.zeroValue9
  t46 := Tryd.underlying128
  a46 := Tryd.isAgg128
  z46 := Tryd.sizeOf128
  v46 := Tryd.zeroValue128
  t53 := Tryd.underlying102
  a53 := Tryd.isAgg102
  z53 := Tryd.sizeOf102
  v53 := Tryd.zeroValue102
  t212 := Tryd.underlying148
  a212 := Tryd.isAgg148
  z212 := Tryd.sizeOf148
  v212 := Tryd.zeroValue148
  g17 := by kernel_rfl
  i0 := by kernel_rfl
  i3 := by kernel_rfl
  i4 := by kernel_rfl
  i5 := by kernel_rfl
  i9 := by kernel_rfl
  i46 := by kernel_rfl
  i53 := by kernel_rfl
  i212 := by kernel_rfl
  m17 := by kernel_rfl }
open Go.Lib in
/-- internal/strconv.numDigits, at a d that is not 0: THE NUMBER OF d's DECIMAL DIGITS. The world is as it was. (LAID: no walk: one application.) -/
theorem Tryd.internal_strconv_numDigits (u : Nat) (h1 : 1 ≤ u) (h2 : u < 18446744073709551616) (w : World) (htab : Lib.TabIs Tryd.prog w "internal/strconv.uint64pow10" .u64 Lib.pow10Tab) :
    Calls Tryd.prog 99 #[.int .u64 u] w fun e w' => e = .returned (.int .i64 (Lib.nDigits u)) ∧ w' = w := Any.internal_strconv_numDigits Tryd.laysM284 u h1 h2 w htab
def Tryd.lays285_ren : Go.Shelf.Ren := ⟨fun | 285 => 100 | n => n, fun | 37 => 104 | 53 => 102 | 3 => 3 | 4 => 4 | 51 => 141 | 9 => 9 | 5 => 5 | 0 => 0 | n => n, fun | n => n⟩
theorem Tryd.lays285 : Go.Proofs.Lays.n285 Tryd.prog Tryd.lays285_ren := {
  mixed := by kernel_rfl
  f285 := Tryd.func100.trans (congrArg some (by kernel_rfl))
  t0 := Tryd.underlying0
  a0 := Tryd.isAgg0
  z0 := Tryd.sizeOf0
  v0 := Tryd.zeroValue0
  t3 := Tryd.underlying3
  a3 := Tryd.isAgg3
  z3 := Tryd.sizeOf3
  v3 := Tryd.zeroValue3
  t4 := Tryd.underlying4
  a4 := Tryd.isAgg4
  z4 := Tryd.sizeOf4
  v4 := Tryd.zeroValue4
  t5 := Tryd.underlying5
  a5 := Tryd.isAgg5
  z5 := Tryd.sizeOf5
  v5 := Tryd.zeroValue5
  t9 := Tryd.underlying9
  a9 := Tryd.isAgg9
  z9 := Tryd.sizeOf9
  v9 := Tryd.zeroValue9
  t37 := Tryd.underlying104
  a37 := Tryd.isAgg104
  z37 := Tryd.sizeOf104
  v37 := Tryd.zeroValue104
  t51 := Tryd.underlying141
  a51 := Tryd.isAgg141
  z51 := Tryd.sizeOf141
  v51 := Tryd.zeroValue141
  t53 := Tryd.underlying102
  a53 := Tryd.isAgg102
  z53 := Tryd.sizeOf102
  v53 := Tryd.zeroValue102 }
open Go.RowKit Go.Sort Go.Lib in
/-- internal/strconv.formatBase10: "formatBase10 formats the decimal representation of u into a. The caller is responsible for ensuring that a is big enough to hold u. If a is too big, leading zeros will be filled in as needed.": THE ROW HOLDS u's DIGITS ('FmtInv .. 0 ..': every place t holds 'dg u (len - 1 - t)'); all else is as it was but for the count of draws. (LAID: no walk: one application.) -/
theorem Tryd.internal_strconv_formatBase10 (blk off cap : Nat) (u : Nat) (d : Array UInt8) (w : World) (hH : Holds (fun (b : UInt8) => Value.int .u8 (b.toNat : Int)) w blk off d) (hu : u < 10 ^ d.size) (hu64 : u < 18446744073709551616) (hsz : d.size < 4611686018427387904) :
    Calls Tryd.prog 100 #[.slice (some ⟨blk, off, none⟩) d.size cap, .int .u64 u] w fun e w' =>
      e = .returned (.tuple #[]) ∧ ∃ (n v' : Nat) (dk : Array UInt8), w' = (putRow (fun (b : UInt8) => Value.int .u8 (b.toNat : Int)) w blk off dk).drewN n ∧ FmtInv d.size u 0 v' dk := Any.internal_strconv_formatBase10 Tryd.lays285 blk off cap u d w hH hu hu64 hsz
def Tryd.laysM246_ren : Go.Shelf.Ren := ⟨fun | 246 => 84 | 283 => 98 | 284 => 99 | 285 => 100 | 286 => 101 | 129 => 110 | 317 => 109 | 318 => 111 | 319 => 112 | 320 => 113 | 337 => 115 | 338 => 116 | n => n, fun | 2 => 2 | 3 => 3 | 9 => 9 | 4 => 4 | 171 => 136 | 0 => 0 | 53 => 102 | 37 => 104 | 5 => 5 | 173 => 139 | 212 => 148 | 51 => 141 | 20 => 20 | 213 => 149 | 46 => 128 | 232 => 152 | 233 => 153 | n => n, fun | 17 => 1 | 18 => 2 | 19 => 3 | n => n⟩
theorem Tryd.laysM246 : Go.Proofs.LaysM.n246 Tryd.prog Tryd.laysM246_ren := {
  mixed := by kernel_rfl
  f129 := Tryd.func110.trans (congrArg some (by kernel_rfl))
  f246 := Tryd.func84.trans (congrArg some (by kernel_rfl))
  f283 := Tryd.func98.trans (congrArg some (by kernel_rfl))
  f284 := Tryd.func99.trans (congrArg some (by kernel_rfl))
  f285 := Tryd.func100.trans (congrArg some (by kernel_rfl))
  f286 := Tryd.func101.trans (congrArg some (by kernel_rfl))
  f317 := Tryd.func109.trans (congrArg some (by kernel_rfl))
  f318 := Tryd.func111.trans (congrArg some (by kernel_rfl))
  f319 := Tryd.func112.trans (congrArg some (by kernel_rfl))
  f320 := Tryd.func113.trans (congrArg some (by kernel_rfl))
  f337 := Tryd.func115.trans (congrArg some (by kernel_rfl))
  f338 := Tryd.func116.trans (congrArg some (by kernel_rfl))
  t0 := Tryd.underlying0
  a0 := Tryd.isAgg0
  z0 := Tryd.sizeOf0
  v0 := Tryd.zeroValue0
  t2 := Tryd.underlying2
  a2 := Tryd.isAgg2
  z2 := Tryd.sizeOf2
  v2 := Tryd.zeroValue2
  t3 := Tryd.underlying3
  a3 := Tryd.isAgg3
  z3 := Tryd.sizeOf3
  v3 := Tryd.zeroValue3
  t4 := Tryd.underlying4
  a4 := Tryd.isAgg4
  z4 := Tryd.sizeOf4
  v4 := Tryd.zeroValue4
  t5 := Tryd.underlying5
  a5 := Tryd.isAgg5
  z5 := Tryd.sizeOf5
  v5 := Tryd.zeroValue5
  t9 := Tryd.underlying9
  a9 := Tryd.isAgg9
  z9 := Tryd.sizeOf9
  v9 := Tryd.zeroValue9
  t20 := Tryd.underlying20
  a20 := Tryd.isAgg20
  z20 := Tryd.sizeOf20
  v20 := Tryd.zeroValue20
  t37 := Tryd.underlying104
  a37 := Tryd.isAgg104
  z37 := Tryd.sizeOf104
  v37 := Tryd.zeroValue104
  t46 := Tryd.underlying128
  a46 := Tryd.isAgg128
  z46 := Tryd.sizeOf128
  v46 := Tryd.zeroValue128
  t51 := Tryd.underlying141
  a51 := Tryd.isAgg141
  z51 := Tryd.sizeOf141
  v51 := Tryd.zeroValue141
  t53 := Tryd.underlying102
  a53 := Tryd.isAgg102
  z53 := Tryd.sizeOf102
  v53 := Tryd.zeroValue102
  t171 := Tryd.underlying136
  a171 := Tryd.isAgg136
  z171 := Tryd.sizeOf136
  v171 := Tryd.zeroValue136
  t173 := Tryd.underlying139
  a173 := Tryd.isAgg139
  z173 := Tryd.sizeOf139
  v173 := Tryd.zeroValue139
  t212 := Tryd.underlying148
  a212 := Tryd.isAgg148
  z212 := Tryd.sizeOf148
  v212 := Tryd.zeroValue148
  t213 := Tryd.underlying149
  a213 := Tryd.isAgg149
  z213 := Tryd.sizeOf149
  t232 := Tryd.underlying152
  a232 := Tryd.isAgg152
  z232 := Tryd.sizeOf152
  v232 := Tryd.zeroValue152
  t233 := Tryd.underlying153
  a233 := Tryd.isAgg153
  z233 := Tryd.sizeOf153
  v233 := Tryd.zeroValue153
  g17 := by kernel_rfl
  g18 := by kernel_rfl
  g19 := by kernel_rfl
  i0 := by kernel_rfl
  i2 := by kernel_rfl
  i3 := by kernel_rfl
  i4 := by kernel_rfl
  i5 := by kernel_rfl
  i9 := by kernel_rfl
  i20 := by kernel_rfl
  i37 := by kernel_rfl
  i46 := by kernel_rfl
  i51 := by kernel_rfl
  i53 := by kernel_rfl
  i171 := by kernel_rfl
  i173 := by kernel_rfl
  i212 := by kernel_rfl
  i232 := by kernel_rfl
  i233 := by kernel_rfl
  m17 := by kernel_rfl
  m18 := by kernel_rfl
  m19 := by kernel_rfl }
open Go.RowKit Go.Sort Go.Lib in
/-- internal/strconv.FormatInt: "FormatInt returns the string representation of i in the given base": AT BASE 10: i's decimal numeral, for every int64. The world behind the call: the world before it, new blocks behind the heap, draws. (LAID: no walk: one application.) -/
theorem Tryd.internal_strconv_FormatInt_10 (n : Int) (h0 : -9223372036854775808 ≤ n) (h1 : n ≤ 9223372036854775807) (w : World) (htab : Lib.TabIs Tryd.prog w "internal/strconv.uint64pow10" .u64 Lib.pow10Tab) :
    Calls Tryd.prog 84 #[.int .i64 n, .int .i64 10] w fun e w' => e = .returned (.string ⟨(Lib.itoa n).toArray⟩) ∧ ∃ k os, w' = grow (w.drewN k) os := Any.internal_strconv_FormatInt_10 Tryd.laysM246 n h0 h1 w htab
def Tryd.lays246_ren : Go.Shelf.Ren := ⟨fun | 246 => 84 | 283 => 98 | 284 => 99 | 285 => 100 | 286 => 101 | 129 => 110 | 317 => 109 | 318 => 111 | 319 => 112 | 320 => 113 | 337 => 115 | 338 => 116 | n => n, fun | 2 => 2 | 3 => 3 | 9 => 9 | 4 => 4 | 171 => 136 | 0 => 0 | 53 => 102 | 37 => 104 | 5 => 5 | 173 => 139 | 212 => 148 | 51 => 141 | 20 => 20 | 213 => 149 | 46 => 128 | 232 => 152 | 233 => 153 | n => n, fun | 17 => 1 | 18 => 2 | 19 => 3 | n => n⟩
theorem Tryd.lays246 : Go.Proofs.Lays.n246 Tryd.prog Tryd.lays246_ren := {
  mixed := by kernel_rfl
  f129 := Tryd.func110.trans (congrArg some (by kernel_rfl))
  f246 := Tryd.func84.trans (congrArg some (by kernel_rfl))
  f283 := Tryd.func98.trans (congrArg some (by kernel_rfl))
  f284 := Tryd.func99.trans (congrArg some (by kernel_rfl))
  f285 := Tryd.func100.trans (congrArg some (by kernel_rfl))
  f286 := Tryd.func101.trans (congrArg some (by kernel_rfl))
  f317 := Tryd.func109.trans (congrArg some (by kernel_rfl))
  f318 := Tryd.func111.trans (congrArg some (by kernel_rfl))
  f319 := Tryd.func112.trans (congrArg some (by kernel_rfl))
  f320 := Tryd.func113.trans (congrArg some (by kernel_rfl))
  f337 := Tryd.func115.trans (congrArg some (by kernel_rfl))
  f338 := Tryd.func116.trans (congrArg some (by kernel_rfl))
  t0 := Tryd.underlying0
  a0 := Tryd.isAgg0
  z0 := Tryd.sizeOf0
  v0 := Tryd.zeroValue0
  t2 := Tryd.underlying2
  a2 := Tryd.isAgg2
  z2 := Tryd.sizeOf2
  v2 := Tryd.zeroValue2
  t3 := Tryd.underlying3
  a3 := Tryd.isAgg3
  z3 := Tryd.sizeOf3
  v3 := Tryd.zeroValue3
  t4 := Tryd.underlying4
  a4 := Tryd.isAgg4
  z4 := Tryd.sizeOf4
  v4 := Tryd.zeroValue4
  t5 := Tryd.underlying5
  a5 := Tryd.isAgg5
  z5 := Tryd.sizeOf5
  v5 := Tryd.zeroValue5
  t9 := Tryd.underlying9
  a9 := Tryd.isAgg9
  z9 := Tryd.sizeOf9
  v9 := Tryd.zeroValue9
  t20 := Tryd.underlying20
  a20 := Tryd.isAgg20
  z20 := Tryd.sizeOf20
  v20 := Tryd.zeroValue20
  t37 := Tryd.underlying104
  a37 := Tryd.isAgg104
  z37 := Tryd.sizeOf104
  v37 := Tryd.zeroValue104
  t46 := Tryd.underlying128
  a46 := Tryd.isAgg128
  z46 := Tryd.sizeOf128
  v46 := Tryd.zeroValue128
  t51 := Tryd.underlying141
  a51 := Tryd.isAgg141
  z51 := Tryd.sizeOf141
  v51 := Tryd.zeroValue141
  t53 := Tryd.underlying102
  a53 := Tryd.isAgg102
  z53 := Tryd.sizeOf102
  v53 := Tryd.zeroValue102
  t171 := Tryd.underlying136
  a171 := Tryd.isAgg136
  z171 := Tryd.sizeOf136
  v171 := Tryd.zeroValue136
  t173 := Tryd.underlying139
  a173 := Tryd.isAgg139
  z173 := Tryd.sizeOf139
  v173 := Tryd.zeroValue139
  t212 := Tryd.underlying148
  a212 := Tryd.isAgg148
  z212 := Tryd.sizeOf148
  v212 := Tryd.zeroValue148
  t213 := Tryd.underlying149
  a213 := Tryd.isAgg149
  z213 := Tryd.sizeOf149
  t232 := Tryd.underlying152
  a232 := Tryd.isAgg152
  z232 := Tryd.sizeOf152
  v232 := Tryd.zeroValue152
  t233 := Tryd.underlying153
  a233 := Tryd.isAgg153
  z233 := Tryd.sizeOf153
  v233 := Tryd.zeroValue153
  g17 := by kernel_rfl
  g18 := by kernel_rfl
  g19 := by kernel_rfl }
open Go.RowKit Go.Sort Go.Lib in
/-- THE ROAD WITHOUT THE TABLE: 0 <= i < 100: two constants are read, nothing is laid: no premise on the world, and the world is as it was. (LAID: no walk: one application.) -/
theorem Tryd.internal_strconv_FormatInt_10_small (i : Nat) (hi : i < 100) (w : World) :
    Calls Tryd.prog 84 #[.int .i64 i, .int .i64 10] w fun e w' => e = .returned (.string ⟨(Lib.decDigits i).toArray⟩) ∧ w' = w := Any.internal_strconv_FormatInt_10_small Tryd.lays246 i hi w
def Tryd.laysM243_ren : Go.Shelf.Ren := ⟨fun | 243 => 68 | 246 => 84 | 283 => 98 | 284 => 99 | 285 => 100 | 286 => 101 | 129 => 110 | 317 => 109 | 318 => 111 | 319 => 112 | 320 => 113 | 337 => 115 | 338 => 116 | n => n, fun | 3 => 3 | 9 => 9 | 2 => 2 | 4 => 4 | 171 => 136 | 0 => 0 | 53 => 102 | 37 => 104 | 5 => 5 | 173 => 139 | 212 => 148 | 51 => 141 | 20 => 20 | 213 => 149 | 46 => 128 | 232 => 152 | 233 => 153 | n => n, fun | 17 => 1 | 18 => 2 | 19 => 3 | n => n⟩
theorem Tryd.laysM243 : Go.Proofs.LaysM.n243 Tryd.prog Tryd.laysM243_ren := {
  mixed := by kernel_rfl
  f129 := Tryd.func110.trans (congrArg some (by kernel_rfl))
  f243 := Tryd.func68.trans (congrArg some (by kernel_rfl))
  f246 := Tryd.func84.trans (congrArg some (by kernel_rfl))
  f283 := Tryd.func98.trans (congrArg some (by kernel_rfl))
  f284 := Tryd.func99.trans (congrArg some (by kernel_rfl))
  f285 := Tryd.func100.trans (congrArg some (by kernel_rfl))
  f286 := Tryd.func101.trans (congrArg some (by kernel_rfl))
  f317 := Tryd.func109.trans (congrArg some (by kernel_rfl))
  f318 := Tryd.func111.trans (congrArg some (by kernel_rfl))
  f319 := Tryd.func112.trans (congrArg some (by kernel_rfl))
  f320 := Tryd.func113.trans (congrArg some (by kernel_rfl))
  f337 := Tryd.func115.trans (congrArg some (by kernel_rfl))
  f338 := Tryd.func116.trans (congrArg some (by kernel_rfl))
  t0 := Tryd.underlying0
  a0 := Tryd.isAgg0
  z0 := Tryd.sizeOf0
  v0 := Tryd.zeroValue0
  t2 := Tryd.underlying2
  a2 := Tryd.isAgg2
  z2 := Tryd.sizeOf2
  v2 := Tryd.zeroValue2
  t3 := Tryd.underlying3
  a3 := Tryd.isAgg3
  z3 := Tryd.sizeOf3
  v3 := Tryd.zeroValue3
  t4 := Tryd.underlying4
  a4 := Tryd.isAgg4
  z4 := Tryd.sizeOf4
  v4 := Tryd.zeroValue4
  t5 := Tryd.underlying5
  a5 := Tryd.isAgg5
  z5 := Tryd.sizeOf5
  v5 := Tryd.zeroValue5
  t9 := Tryd.underlying9
  a9 := Tryd.isAgg9
  z9 := Tryd.sizeOf9
  v9 := Tryd.zeroValue9
  t20 := Tryd.underlying20
  a20 := Tryd.isAgg20
  z20 := Tryd.sizeOf20
  v20 := Tryd.zeroValue20
  t37 := Tryd.underlying104
  a37 := Tryd.isAgg104
  z37 := Tryd.sizeOf104
  v37 := Tryd.zeroValue104
  t46 := Tryd.underlying128
  a46 := Tryd.isAgg128
  z46 := Tryd.sizeOf128
  v46 := Tryd.zeroValue128
  t51 := Tryd.underlying141
  a51 := Tryd.isAgg141
  z51 := Tryd.sizeOf141
  v51 := Tryd.zeroValue141
  t53 := Tryd.underlying102
  a53 := Tryd.isAgg102
  z53 := Tryd.sizeOf102
  v53 := Tryd.zeroValue102
  t171 := Tryd.underlying136
  a171 := Tryd.isAgg136
  z171 := Tryd.sizeOf136
  v171 := Tryd.zeroValue136
  t173 := Tryd.underlying139
  a173 := Tryd.isAgg139
  z173 := Tryd.sizeOf139
  v173 := Tryd.zeroValue139
  t212 := Tryd.underlying148
  a212 := Tryd.isAgg148
  z212 := Tryd.sizeOf148
  v212 := Tryd.zeroValue148
  t213 := Tryd.underlying149
  a213 := Tryd.isAgg149
  z213 := Tryd.sizeOf149
  t232 := Tryd.underlying152
  a232 := Tryd.isAgg152
  z232 := Tryd.sizeOf152
  v232 := Tryd.zeroValue152
  t233 := Tryd.underlying153
  a233 := Tryd.isAgg153
  z233 := Tryd.sizeOf153
  v233 := Tryd.zeroValue153
  g17 := by kernel_rfl
  g18 := by kernel_rfl
  g19 := by kernel_rfl
  i0 := by kernel_rfl
  i2 := by kernel_rfl
  i3 := by kernel_rfl
  i4 := by kernel_rfl
  i5 := by kernel_rfl
  i9 := by kernel_rfl
  i20 := by kernel_rfl
  i37 := by kernel_rfl
  i46 := by kernel_rfl
  i51 := by kernel_rfl
  i53 := by kernel_rfl
  i171 := by kernel_rfl
  i173 := by kernel_rfl
  i212 := by kernel_rfl
  i232 := by kernel_rfl
  i233 := by kernel_rfl
  m17 := by kernel_rfl
  m18 := by kernel_rfl
  m19 := by kernel_rfl }
open Go.RowKit Go.Sort Go.Lib in
/-- internal/strconv.Itoa: "Itoa is equivalent to FormatInt(int64(i), 10).": i's decimal numeral, for every int. (LAID: no walk: one application.) -/
theorem Tryd.internal_strconv_Itoa (n : Int) (h0 : -9223372036854775808 ≤ n) (h1 : n ≤ 9223372036854775807) (w : World) (htab : Lib.TabIs Tryd.prog w "internal/strconv.uint64pow10" .u64 Lib.pow10Tab) :
    Calls Tryd.prog 68 #[.int .i64 n] w fun e w' => e = .returned (.string ⟨(Lib.itoa n).toArray⟩) ∧ ∃ k os, w' = grow (w.drewN k) os := Any.internal_strconv_Itoa Tryd.laysM243 n h0 h1 w htab
def Tryd.lays243_ren : Go.Shelf.Ren := ⟨fun | 243 => 68 | 246 => 84 | 283 => 98 | 284 => 99 | 285 => 100 | 286 => 101 | 129 => 110 | 317 => 109 | 318 => 111 | 319 => 112 | 320 => 113 | 337 => 115 | 338 => 116 | n => n, fun | 3 => 3 | 9 => 9 | 2 => 2 | 4 => 4 | 171 => 136 | 0 => 0 | 53 => 102 | 37 => 104 | 5 => 5 | 173 => 139 | 212 => 148 | 51 => 141 | 20 => 20 | 213 => 149 | 46 => 128 | 232 => 152 | 233 => 153 | n => n, fun | 17 => 1 | 18 => 2 | 19 => 3 | n => n⟩
theorem Tryd.lays243 : Go.Proofs.Lays.n243 Tryd.prog Tryd.lays243_ren := {
  mixed := by kernel_rfl
  f129 := Tryd.func110.trans (congrArg some (by kernel_rfl))
  f243 := Tryd.func68.trans (congrArg some (by kernel_rfl))
  f246 := Tryd.func84.trans (congrArg some (by kernel_rfl))
  f283 := Tryd.func98.trans (congrArg some (by kernel_rfl))
  f284 := Tryd.func99.trans (congrArg some (by kernel_rfl))
  f285 := Tryd.func100.trans (congrArg some (by kernel_rfl))
  f286 := Tryd.func101.trans (congrArg some (by kernel_rfl))
  f317 := Tryd.func109.trans (congrArg some (by kernel_rfl))
  f318 := Tryd.func111.trans (congrArg some (by kernel_rfl))
  f319 := Tryd.func112.trans (congrArg some (by kernel_rfl))
  f320 := Tryd.func113.trans (congrArg some (by kernel_rfl))
  f337 := Tryd.func115.trans (congrArg some (by kernel_rfl))
  f338 := Tryd.func116.trans (congrArg some (by kernel_rfl))
  t0 := Tryd.underlying0
  a0 := Tryd.isAgg0
  z0 := Tryd.sizeOf0
  v0 := Tryd.zeroValue0
  t2 := Tryd.underlying2
  a2 := Tryd.isAgg2
  z2 := Tryd.sizeOf2
  v2 := Tryd.zeroValue2
  t3 := Tryd.underlying3
  a3 := Tryd.isAgg3
  z3 := Tryd.sizeOf3
  v3 := Tryd.zeroValue3
  t4 := Tryd.underlying4
  a4 := Tryd.isAgg4
  z4 := Tryd.sizeOf4
  v4 := Tryd.zeroValue4
  t5 := Tryd.underlying5
  a5 := Tryd.isAgg5
  z5 := Tryd.sizeOf5
  v5 := Tryd.zeroValue5
  t9 := Tryd.underlying9
  a9 := Tryd.isAgg9
  z9 := Tryd.sizeOf9
  v9 := Tryd.zeroValue9
  t20 := Tryd.underlying20
  a20 := Tryd.isAgg20
  z20 := Tryd.sizeOf20
  v20 := Tryd.zeroValue20
  t37 := Tryd.underlying104
  a37 := Tryd.isAgg104
  z37 := Tryd.sizeOf104
  v37 := Tryd.zeroValue104
  t46 := Tryd.underlying128
  a46 := Tryd.isAgg128
  z46 := Tryd.sizeOf128
  v46 := Tryd.zeroValue128
  t51 := Tryd.underlying141
  a51 := Tryd.isAgg141
  z51 := Tryd.sizeOf141
  v51 := Tryd.zeroValue141
  t53 := Tryd.underlying102
  a53 := Tryd.isAgg102
  z53 := Tryd.sizeOf102
  v53 := Tryd.zeroValue102
  t171 := Tryd.underlying136
  a171 := Tryd.isAgg136
  z171 := Tryd.sizeOf136
  v171 := Tryd.zeroValue136
  t173 := Tryd.underlying139
  a173 := Tryd.isAgg139
  z173 := Tryd.sizeOf139
  v173 := Tryd.zeroValue139
  t212 := Tryd.underlying148
  a212 := Tryd.isAgg148
  z212 := Tryd.sizeOf148
  v212 := Tryd.zeroValue148
  t213 := Tryd.underlying149
  a213 := Tryd.isAgg149
  z213 := Tryd.sizeOf149
  t232 := Tryd.underlying152
  a232 := Tryd.isAgg152
  z232 := Tryd.sizeOf152
  v232 := Tryd.zeroValue152
  t233 := Tryd.underlying153
  a233 := Tryd.isAgg153
  z233 := Tryd.sizeOf153
  v233 := Tryd.zeroValue153
  g17 := by kernel_rfl
  g18 := by kernel_rfl
  g19 := by kernel_rfl }
open Go.RowKit Go.Sort Go.Lib in
/-- THE ROAD WITHOUT THE TABLE: 0 <= i < 100. (LAID: no walk: one application.) -/
theorem Tryd.internal_strconv_Itoa_small (i : Nat) (hi : i < 100) (w : World) :
    Calls Tryd.prog 68 #[.int .i64 i] w fun e w' => e = .returned (.string ⟨(Lib.decDigits i).toArray⟩) ∧ w' = w := Any.internal_strconv_Itoa_small Tryd.lays243 i hi w
def Tryd.laysM171_ren : Go.Shelf.Ren := ⟨fun | 171 => 54 | 243 => 68 | 246 => 84 | 283 => 98 | 284 => 99 | 285 => 100 | 286 => 101 | 129 => 110 | 317 => 109 | 318 => 111 | 319 => 112 | 320 => 113 | 337 => 115 | 338 => 116 | n => n, fun | 3 => 3 | 9 => 9 | 2 => 2 | 4 => 4 | 171 => 136 | 0 => 0 | 53 => 102 | 37 => 104 | 5 => 5 | 173 => 139 | 212 => 148 | 51 => 141 | 20 => 20 | 213 => 149 | 46 => 128 | 232 => 152 | 233 => 153 | n => n, fun | 17 => 1 | 18 => 2 | 19 => 3 | n => n⟩
theorem Tryd.laysM171 : Go.Proofs.LaysM.n171 Tryd.prog Tryd.laysM171_ren := {
  mixed := by kernel_rfl
  f129 := Tryd.func110.trans (congrArg some (by kernel_rfl))
  f171 := Tryd.func54.trans (congrArg some (by kernel_rfl))
  f243 := Tryd.func68.trans (congrArg some (by kernel_rfl))
  f246 := Tryd.func84.trans (congrArg some (by kernel_rfl))
  f283 := Tryd.func98.trans (congrArg some (by kernel_rfl))
  f284 := Tryd.func99.trans (congrArg some (by kernel_rfl))
  f285 := Tryd.func100.trans (congrArg some (by kernel_rfl))
  f286 := Tryd.func101.trans (congrArg some (by kernel_rfl))
  f317 := Tryd.func109.trans (congrArg some (by kernel_rfl))
  f318 := Tryd.func111.trans (congrArg some (by kernel_rfl))
  f319 := Tryd.func112.trans (congrArg some (by kernel_rfl))
  f320 := Tryd.func113.trans (congrArg some (by kernel_rfl))
  f337 := Tryd.func115.trans (congrArg some (by kernel_rfl))
  f338 := Tryd.func116.trans (congrArg some (by kernel_rfl))
  t0 := Tryd.underlying0
  a0 := Tryd.isAgg0
  z0 := Tryd.sizeOf0
  v0 := Tryd.zeroValue0
  t2 := Tryd.underlying2
  a2 := Tryd.isAgg2
  z2 := Tryd.sizeOf2
  v2 := Tryd.zeroValue2
  t3 := Tryd.underlying3
  a3 := Tryd.isAgg3
  z3 := Tryd.sizeOf3
  v3 := Tryd.zeroValue3
  t4 := Tryd.underlying4
  a4 := Tryd.isAgg4
  z4 := Tryd.sizeOf4
  v4 := Tryd.zeroValue4
  t5 := Tryd.underlying5
  a5 := Tryd.isAgg5
  z5 := Tryd.sizeOf5
  v5 := Tryd.zeroValue5
  t9 := Tryd.underlying9
  a9 := Tryd.isAgg9
  z9 := Tryd.sizeOf9
  v9 := Tryd.zeroValue9
  t20 := Tryd.underlying20
  a20 := Tryd.isAgg20
  z20 := Tryd.sizeOf20
  v20 := Tryd.zeroValue20
  t37 := Tryd.underlying104
  a37 := Tryd.isAgg104
  z37 := Tryd.sizeOf104
  v37 := Tryd.zeroValue104
  t46 := Tryd.underlying128
  a46 := Tryd.isAgg128
  z46 := Tryd.sizeOf128
  v46 := Tryd.zeroValue128
  t51 := Tryd.underlying141
  a51 := Tryd.isAgg141
  z51 := Tryd.sizeOf141
  v51 := Tryd.zeroValue141
  t53 := Tryd.underlying102
  a53 := Tryd.isAgg102
  z53 := Tryd.sizeOf102
  v53 := Tryd.zeroValue102
  t171 := Tryd.underlying136
  a171 := Tryd.isAgg136
  z171 := Tryd.sizeOf136
  v171 := Tryd.zeroValue136
  t173 := Tryd.underlying139
  a173 := Tryd.isAgg139
  z173 := Tryd.sizeOf139
  v173 := Tryd.zeroValue139
  t212 := Tryd.underlying148
  a212 := Tryd.isAgg148
  z212 := Tryd.sizeOf148
  v212 := Tryd.zeroValue148
  t213 := Tryd.underlying149
  a213 := Tryd.isAgg149
  z213 := Tryd.sizeOf149
  t232 := Tryd.underlying152
  a232 := Tryd.isAgg152
  z232 := Tryd.sizeOf152
  v232 := Tryd.zeroValue152
  t233 := Tryd.underlying153
  a233 := Tryd.isAgg153
  z233 := Tryd.sizeOf153
  v233 := Tryd.zeroValue153
  g17 := by kernel_rfl
  g18 := by kernel_rfl
  g19 := by kernel_rfl
  i0 := by kernel_rfl
  i2 := by kernel_rfl
  i3 := by kernel_rfl
  i4 := by kernel_rfl
  i5 := by kernel_rfl
  i9 := by kernel_rfl
  i20 := by kernel_rfl
  i37 := by kernel_rfl
  i46 := by kernel_rfl
  i51 := by kernel_rfl
  i53 := by kernel_rfl
  i171 := by kernel_rfl
  i173 := by kernel_rfl
  i212 := by kernel_rfl
  i232 := by kernel_rfl
  i233 := by kernel_rfl
  m17 := by kernel_rfl
  m18 := by kernel_rfl
  m19 := by kernel_rfl }
open Go.RowKit Go.Sort Go.Lib in
/-- strconv.Itoa: "Itoa is equivalent to FormatInt(int64(i), 10).": i's DECIMAL NUMERAL ('Lib.itoa': a '-' where i is negative, then the digits), FOR EVERY int. The world behind the call: the world before it, new blocks behind the heap (the library's 'var a [24]byte'), draws. (LAID: no walk: one application.) -/
theorem Tryd.strconv_Itoa (n : Int) (h0 : -9223372036854775808 ≤ n) (h1 : n ≤ 9223372036854775807) (w : World) (htab : Lib.TabIs Tryd.prog w "internal/strconv.uint64pow10" .u64 Lib.pow10Tab) :
    Calls Tryd.prog 54 #[.int .i64 n] w fun e w' => e = .returned (.string ⟨(Lib.itoa n).toArray⟩) ∧ ∃ k os, w' = grow (w.drewN k) os := Any.strconv_Itoa Tryd.laysM171 n h0 h1 w htab
def Tryd.lays171_ren : Go.Shelf.Ren := ⟨fun | 171 => 54 | 243 => 68 | 246 => 84 | 283 => 98 | 284 => 99 | 285 => 100 | 286 => 101 | 129 => 110 | 317 => 109 | 318 => 111 | 319 => 112 | 320 => 113 | 337 => 115 | 338 => 116 | n => n, fun | 3 => 3 | 9 => 9 | 2 => 2 | 4 => 4 | 171 => 136 | 0 => 0 | 53 => 102 | 37 => 104 | 5 => 5 | 173 => 139 | 212 => 148 | 51 => 141 | 20 => 20 | 213 => 149 | 46 => 128 | 232 => 152 | 233 => 153 | n => n, fun | 17 => 1 | 18 => 2 | 19 => 3 | n => n⟩
theorem Tryd.lays171 : Go.Proofs.Lays.n171 Tryd.prog Tryd.lays171_ren := {
  mixed := by kernel_rfl
  f129 := Tryd.func110.trans (congrArg some (by kernel_rfl))
  f171 := Tryd.func54.trans (congrArg some (by kernel_rfl))
  f243 := Tryd.func68.trans (congrArg some (by kernel_rfl))
  f246 := Tryd.func84.trans (congrArg some (by kernel_rfl))
  f283 := Tryd.func98.trans (congrArg some (by kernel_rfl))
  f284 := Tryd.func99.trans (congrArg some (by kernel_rfl))
  f285 := Tryd.func100.trans (congrArg some (by kernel_rfl))
  f286 := Tryd.func101.trans (congrArg some (by kernel_rfl))
  f317 := Tryd.func109.trans (congrArg some (by kernel_rfl))
  f318 := Tryd.func111.trans (congrArg some (by kernel_rfl))
  f319 := Tryd.func112.trans (congrArg some (by kernel_rfl))
  f320 := Tryd.func113.trans (congrArg some (by kernel_rfl))
  f337 := Tryd.func115.trans (congrArg some (by kernel_rfl))
  f338 := Tryd.func116.trans (congrArg some (by kernel_rfl))
  t0 := Tryd.underlying0
  a0 := Tryd.isAgg0
  z0 := Tryd.sizeOf0
  v0 := Tryd.zeroValue0
  t2 := Tryd.underlying2
  a2 := Tryd.isAgg2
  z2 := Tryd.sizeOf2
  v2 := Tryd.zeroValue2
  t3 := Tryd.underlying3
  a3 := Tryd.isAgg3
  z3 := Tryd.sizeOf3
  v3 := Tryd.zeroValue3
  t4 := Tryd.underlying4
  a4 := Tryd.isAgg4
  z4 := Tryd.sizeOf4
  v4 := Tryd.zeroValue4
  t5 := Tryd.underlying5
  a5 := Tryd.isAgg5
  z5 := Tryd.sizeOf5
  v5 := Tryd.zeroValue5
  t9 := Tryd.underlying9
  a9 := Tryd.isAgg9
  z9 := Tryd.sizeOf9
  v9 := Tryd.zeroValue9
  t20 := Tryd.underlying20
  a20 := Tryd.isAgg20
  z20 := Tryd.sizeOf20
  v20 := Tryd.zeroValue20
  t37 := Tryd.underlying104
  a37 := Tryd.isAgg104
  z37 := Tryd.sizeOf104
  v37 := Tryd.zeroValue104
  t46 := Tryd.underlying128
  a46 := Tryd.isAgg128
  z46 := Tryd.sizeOf128
  v46 := Tryd.zeroValue128
  t51 := Tryd.underlying141
  a51 := Tryd.isAgg141
  z51 := Tryd.sizeOf141
  v51 := Tryd.zeroValue141
  t53 := Tryd.underlying102
  a53 := Tryd.isAgg102
  z53 := Tryd.sizeOf102
  v53 := Tryd.zeroValue102
  t171 := Tryd.underlying136
  a171 := Tryd.isAgg136
  z171 := Tryd.sizeOf136
  v171 := Tryd.zeroValue136
  t173 := Tryd.underlying139
  a173 := Tryd.isAgg139
  z173 := Tryd.sizeOf139
  v173 := Tryd.zeroValue139
  t212 := Tryd.underlying148
  a212 := Tryd.isAgg148
  z212 := Tryd.sizeOf148
  v212 := Tryd.zeroValue148
  t213 := Tryd.underlying149
  a213 := Tryd.isAgg149
  z213 := Tryd.sizeOf149
  t232 := Tryd.underlying152
  a232 := Tryd.isAgg152
  z232 := Tryd.sizeOf152
  v232 := Tryd.zeroValue152
  t233 := Tryd.underlying153
  a233 := Tryd.isAgg153
  z233 := Tryd.sizeOf153
  v233 := Tryd.zeroValue153
  g17 := by kernel_rfl
  g18 := by kernel_rfl
  g19 := by kernel_rfl }
open Go.RowKit Go.Sort Go.Lib in
/-- THE ROAD WITHOUT THE TABLE: 0 <= i < 100: NO PREMISE ON THE WORLD, AND THE WORLD IS AS IT WAS: a row that keeps its argument in that range need list no table ('laid = []'). (LAID: no walk: one application.) -/
theorem Tryd.strconv_Itoa_small (i : Nat) (hi : i < 100) (w : World) :
    Calls Tryd.prog 54 #[.int .i64 i] w fun e w' => e = .returned (.string ⟨(Lib.decDigits i).toArray⟩) ∧ w' = w := Any.strconv_Itoa_small Tryd.lays171 i hi w
def Tryd.lays206_ren : Go.Shelf.Ren := ⟨fun | 206 => 102 | n => n, fun | 9 => 9 | 4 => 4 | 3 => 3 | n => n, fun | n => n⟩
theorem Tryd.lays206 : Go.Proofs.Lays.n206 Tryd.prog Tryd.lays206_ren := {
  mixed := by kernel_rfl
  f206 := Tryd.func102.trans (congrArg some (by kernel_rfl))
  t3 := Tryd.underlying3
  a3 := Tryd.isAgg3
  z3 := Tryd.sizeOf3
  v3 := Tryd.zeroValue3
  t4 := Tryd.underlying4
  a4 := Tryd.isAgg4
  z4 := Tryd.sizeOf4
  v4 := Tryd.zeroValue4
  t9 := Tryd.underlying9
  a9 := Tryd.isAgg9
  z9 := Tryd.sizeOf9
  v9 := Tryd.zeroValue9 }
open Go.RowKit Go.Lib in
/-- internal/stringslite.HasPrefix (what strings.HasPrefix calls). (LAID: no walk: one application.) -/
theorem Tryd.stringslite_HasPrefix (s p : ByteArray) (w : World) :
    Calls Tryd.prog 102 #[.string s, .string p] w fun e w' => e = .returned (.bool (Lib.hasPrefix s.data.toList p.data.toList)) ∧ w' = w := Any.stringslite_HasPrefix Tryd.lays206 s p w
def Tryd.lays99_ren : Go.Shelf.Ren := ⟨fun | 99 => 89 | 206 => 102 | n => n, fun | 9 => 9 | 4 => 4 | 3 => 3 | n => n, fun | n => n⟩
theorem Tryd.lays99 : Go.Proofs.Lays.n99 Tryd.prog Tryd.lays99_ren := {
  mixed := by kernel_rfl
  f99 := Tryd.func89.trans (congrArg some (by kernel_rfl))
  f206 := Tryd.func102.trans (congrArg some (by kernel_rfl))
  t3 := Tryd.underlying3
  a3 := Tryd.isAgg3
  z3 := Tryd.sizeOf3
  v3 := Tryd.zeroValue3
  t4 := Tryd.underlying4
  a4 := Tryd.isAgg4
  z4 := Tryd.sizeOf4
  v4 := Tryd.zeroValue4
  t9 := Tryd.underlying9
  a9 := Tryd.isAgg9
  z9 := Tryd.sizeOf9
  v9 := Tryd.zeroValue9 }
open Go.RowKit Go.Lib in
/-- strings.HasPrefix: "HasPrefix reports whether the string s begins with prefix.": IT RETURNS 'Lib.hasPrefix s prefix'; the world is as it was. (LAID: no walk: one application.) -/
theorem Tryd.strings_HasPrefix (s p : ByteArray) (w : World) :
    Calls Tryd.prog 89 #[.string s, .string p] w fun e w' => e = .returned (.bool (Lib.hasPrefix s.data.toList p.data.toList)) ∧ w' = w := Any.strings_HasPrefix Tryd.lays99 s p w
def Tryd.lays264_ren : Go.Shelf.Ren := ⟨fun | 264 => 104 | n => n, fun | 53 => 102 | 46 => 128 | n => n, fun | n => n⟩
theorem Tryd.lays264 : Go.Proofs.Lays.n264 Tryd.prog Tryd.lays264_ren := {
  mixed := by kernel_rfl
  f264 := Tryd.func104.trans (congrArg some (by kernel_rfl))
  t46 := Tryd.underlying128
  a46 := Tryd.isAgg128
  z46 := Tryd.sizeOf128
  v46 := Tryd.zeroValue128
  t53 := Tryd.underlying102
  a53 := Tryd.isAgg102
  z53 := Tryd.sizeOf102
  v53 := Tryd.zeroValue102 }
open Go.RowKit Go.Lib in
theorem Tryd.bits_Mul64 (x y : Nat) (hx : x < 18446744073709551616) (hy : y < 18446744073709551616) (w : World) :
    Calls Tryd.prog 104 #[.int .u64 x, .int .u64 y] w fun e w' => e = .returned (.tuple #[.int .u64 ((x * y / 18446744073709551616 : Nat) : Int), .int .u64 ((x * y % 18446744073709551616 : Nat) : Int)]) ∧ w' = w := Any.bits_Mul64 Tryd.lays264 x y hx hy w
def Tryd.lays212_ren : Go.Shelf.Ren := ⟨fun | 212 => 88 | 263 => 103 | 264 => 104 | n => n, fun | 46 => 128 | 51 => 141 | 146 => 142 | 53 => 102 | 148 => 144 | n => n, fun | n => n⟩
theorem Tryd.lays212 : Go.Proofs.Lays.n212 Tryd.prog Tryd.lays212_ren := {
  mixed := by kernel_rfl
  f212 := Tryd.func88.trans (congrArg some (by kernel_rfl))
  f263 := Tryd.func103.trans (congrArg some (by kernel_rfl))
  f264 := Tryd.func104.trans (congrArg some (by kernel_rfl))
  t46 := Tryd.underlying128
  a46 := Tryd.isAgg128
  z46 := Tryd.sizeOf128
  v46 := Tryd.zeroValue128
  t51 := Tryd.underlying141
  a51 := Tryd.isAgg141
  z51 := Tryd.sizeOf141
  v51 := Tryd.zeroValue141
  t53 := Tryd.underlying102
  a53 := Tryd.isAgg102
  z53 := Tryd.sizeOf102
  v53 := Tryd.zeroValue102
  t146 := Tryd.underlying142
  a146 := Tryd.isAgg142
  z146 := Tryd.sizeOf142
  v146 := Tryd.zeroValue142
  t148 := Tryd.underlying144
  a148 := Tryd.isAgg144
  z148 := Tryd.sizeOf144
  v148 := Tryd.zeroValue144 }
open Go.RowKit Go.Lib in
/-- math/bits.Mul: "Mul returns the full-width product of x and y": on a machine of 64 bits: Mul64's. (LAID: no walk: one application.) -/
theorem Tryd.bits_Mul (x y : Nat) (hx : x < 18446744073709551616) (hy : y < 18446744073709551616) (w : World) :
    Calls Tryd.prog 88 #[.int .u64 x, .int .u64 y] w fun e w' => e = .returned (.tuple #[.int .u64 ((x * y / 18446744073709551616 : Nat) : Int), .int .u64 ((x * y % 18446744073709551616 : Nat) : Int)]) ∧ w' = w := Any.bits_Mul Tryd.lays212 x y hx hy w
def Tryd.lays105_ren : Go.Shelf.Ren := ⟨fun | 105 => 74 | 212 => 88 | 99 => 89 | 165 => 56 | 166 => 57 | 170 => 90 | 169 => 58 | 263 => 103 | 264 => 104 | 206 => 102 | 240 => 69 | 241 => 70 | 276 => 85 | 277 => 86 | n => n, fun | 9 => 9 | 3 => 3 | 4 => 4 | 20 => 20 | 0 => 0 | 46 => 128 | 109 => 129 | 5 => 5 | 72 => 106 | 76 => 110 | 51 => 141 | 146 => 142 | 53 => 102 | 148 => 144 | 70 => 103 | 37 => 104 | 75 => 109 | 127 => 117 | 164 => 125 | 80 => 112 | n => n, fun | n => n⟩
theorem Tryd.lays105 : Go.Proofs.Lays.n105 Tryd.prog Tryd.lays105_ren := {
  mixed := by kernel_rfl
  f99 := Tryd.func89.trans (congrArg some (by kernel_rfl))
  f105 := Tryd.func74.trans (congrArg some (by kernel_rfl))
  f165 := Tryd.func56.trans (congrArg some (by kernel_rfl))
  f166 := Tryd.func57.trans (congrArg some (by kernel_rfl))
  f169 := Tryd.func58.trans (congrArg some (by kernel_rfl))
  f170 := Tryd.func90.trans (congrArg some (by kernel_rfl))
  f206 := Tryd.func102.trans (congrArg some (by kernel_rfl))
  f212 := Tryd.func88.trans (congrArg some (by kernel_rfl))
  f240 := Tryd.func69.trans (congrArg some (by kernel_rfl))
  f241 := Tryd.func70.trans (congrArg some (by kernel_rfl))
  f263 := Tryd.func103.trans (congrArg some (by kernel_rfl))
  f264 := Tryd.func104.trans (congrArg some (by kernel_rfl))
  f276 := Tryd.func85.trans (congrArg some (by kernel_rfl))
  f277 := Tryd.func86.trans (congrArg some (by kernel_rfl))
  t0 := Tryd.underlying0
  a0 := Tryd.isAgg0
  z0 := Tryd.sizeOf0
  v0 := Tryd.zeroValue0
  t3 := Tryd.underlying3
  a3 := Tryd.isAgg3
  z3 := Tryd.sizeOf3
  v3 := Tryd.zeroValue3
  t4 := Tryd.underlying4
  a4 := Tryd.isAgg4
  z4 := Tryd.sizeOf4
  v4 := Tryd.zeroValue4
  t5 := Tryd.underlying5
  a5 := Tryd.isAgg5
  z5 := Tryd.sizeOf5
  v5 := Tryd.zeroValue5
  t9 := Tryd.underlying9
  a9 := Tryd.isAgg9
  z9 := Tryd.sizeOf9
  v9 := Tryd.zeroValue9
  t20 := Tryd.underlying20
  a20 := Tryd.isAgg20
  z20 := Tryd.sizeOf20
  v20 := Tryd.zeroValue20
  t37 := Tryd.underlying104
  a37 := Tryd.isAgg104
  z37 := Tryd.sizeOf104
  v37 := Tryd.zeroValue104
  t46 := Tryd.underlying128
  a46 := Tryd.isAgg128
  z46 := Tryd.sizeOf128
  v46 := Tryd.zeroValue128
  t51 := Tryd.underlying141
  a51 := Tryd.isAgg141
  z51 := Tryd.sizeOf141
  v51 := Tryd.zeroValue141
  t53 := Tryd.underlying102
  a53 := Tryd.isAgg102
  z53 := Tryd.sizeOf102
  v53 := Tryd.zeroValue102
  t70 := Tryd.underlying103
  a70 := Tryd.isAgg103
  z70 := Tryd.sizeOf103
  v70 := Tryd.zeroValue103
  t72 := Tryd.underlying106
  a72 := Tryd.isAgg106
  z72 := Tryd.sizeOf106
  v72 := Tryd.zeroValue106
  t75 := Tryd.underlying109
  a75 := Tryd.isAgg109
  z75 := Tryd.sizeOf109
  v75 := Tryd.zeroValue109
  t76 := Tryd.underlying110
  a76 := Tryd.isAgg110
  z76 := Tryd.sizeOf110
  v76 := Tryd.zeroValue110
  t109 := Tryd.underlying129
  a109 := Tryd.isAgg129
  z109 := Tryd.sizeOf129
  v109 := Tryd.zeroValue129
  t127 := Tryd.underlying117
  a127 := Tryd.isAgg117
  z127 := Tryd.sizeOf117
  v127 := Tryd.zeroValue117
  t146 := Tryd.underlying142
  a146 := Tryd.isAgg142
  z146 := Tryd.sizeOf142
  v146 := Tryd.zeroValue142
  t148 := Tryd.underlying144
  a148 := Tryd.isAgg144
  z148 := Tryd.sizeOf144
  v148 := Tryd.zeroValue144
  t164 := Tryd.underlying125
  a164 := Tryd.isAgg125
  z164 := Tryd.sizeOf125
  v164 := Tryd.zeroValue125 }
theorem Tryd.Builder_Extra_105 : Builder.Extra Tryd.prog Tryd.lays105_ren := {
  sizeBuilder := by kernel_rfl
  liesBuilder := by kernel_rfl
  t5 := Tryd.underlying5
  a5 := Tryd.isAgg5
  z5 := Tryd.sizeOf5
  v5 := Tryd.zeroValue5
  infoByte := by kernel_rfl
  cellsByte := by kernel_rfl
  sizeByte := by kernel_rfl
  neB5 := by decide }
open Go.RowKit Go.Lib in
/-- THE MAIN CASE: at least two copies of a string that is not empty. (LAID: no walk: one application.) -/
theorem Tryd.strings_Repeat_main (s : ByteArray) (c : Nat) (w : World) (hc2 : 2 ≤ c) (hc : c ≤ 9223372036854775807) (hlen : s.size * c ≤ 140737488355328) (h0 : 0 < s.size) :
    Calls Tryd.prog 74 #[.string s, .int .i64 c] w fun e w' => e = .returned (.string ⟨(Lib.repeatL s.data.toList c).toArray⟩) ∧ Below w.heap.size w w' := Any.strings_Repeat_main Tryd.lays105 Tryd.Builder_Extra_105 s c w hc2 hc hlen h0
open Go.RowKit Go.Lib in
theorem Tryd.strings_Repeat_zero (s : ByteArray) (w : World) :
    Calls Tryd.prog 74 #[.string s, .int .i64 0] w fun e w' => e = .returned (.string ⟨#[]⟩) ∧ w' = w := Any.strings_Repeat_zero Tryd.lays105 s w
open Go.RowKit Go.Lib in
theorem Tryd.strings_Repeat_one (s : ByteArray) (w : World) :
    Calls Tryd.prog 74 #[.string s, .int .i64 1] w fun e w' => e = .returned (.string s) ∧ w' = w := Any.strings_Repeat_one Tryd.lays105 s w
open Go.RowKit Go.Lib in
/-- Copies of the empty string. (LAID: no walk: one application.) -/
theorem Tryd.strings_Repeat_empty (s : ByteArray) (c : Nat) (w : World) (hc2 : 2 ≤ c) (hc : c ≤ 9223372036854775807) (h0 : s.size = 0) :
    Calls Tryd.prog 74 #[.string s, .int .i64 c] w fun e w' => e = .returned (.string ⟨#[]⟩) ∧ w' = w := Any.strings_Repeat_empty Tryd.lays105 s c w hc2 hc h0
open Go.RowKit Go.Lib in
/-- count < 0: "It panics if count is negative". (LAID: no walk: one application.) -/
theorem Tryd.strings_Repeat_negative (s : ByteArray) (c : Int) (w : World) (hc : c < 0) :
    Calls Tryd.prog 74 #[.string s, .int .i64 c] w fun e w' => e = .panicked [{ v := repeatPanic Tryd.lays105_ren "strings: negative Repeat count", recovered := false }] ∧ w' = w := Any.strings_Repeat_negative Tryd.lays105 s c w hc
open Go.RowKit Go.Lib in
/-- len(s) * count is no int: ".. or if the result of (len(s) * count) overflows". (LAID: no walk: one application.) -/
theorem Tryd.strings_Repeat_overflow (s : ByteArray) (c : Nat) (w : World) (hc : c ≤ 9223372036854775807) (hs : s.size ≤ 9223372036854775807) (hbig : 9223372036854775807 < s.size * c) :
    Calls Tryd.prog 74 #[.string s, .int .i64 c] w fun e w' => e = .panicked [{ v := repeatPanic Tryd.lays105_ren "strings: Repeat output length overflow", recovered := false }] ∧ w' = w := Any.strings_Repeat_overflow Tryd.lays105 s c w hc hs hbig
open Go.RowKit Go.Lib in
/-- **strings.Repeat: count ≥ 0, the result within one allocation: count copies of s.** (LAID: no walk: one application.) -/
theorem Tryd.strings_Repeat (s : ByteArray) (c : Nat) (w : World) (hc : c ≤ 9223372036854775807) (hlen : s.size * c ≤ 140737488355328) :
    Calls Tryd.prog 74 #[.string s, .int .i64 c] w fun e w' => e = .returned (.string ⟨(Lib.repeatL s.data.toList c).toArray⟩) ∧ Below w.heap.size w w' := Any.strings_Repeat Tryd.lays105 Tryd.Builder_Extra_105 s c w hc hlen
end Go.Proofs
set_option linter.unusedVariables false
set_option linter.unusedSimpArgs false
namespace Go.Fx.Tryd
open Go Go.Fm Go.Proofs

def I64 (n : Int) : Prop := -9223372036854775808 ≤ n ∧ n ≤ 9223372036854775807
theorem w64 {n : Int} (h : I64 n) : IntKind.i64.wrap n = n := by
  obtain ⟨h1, h2⟩ := h
  simp only [IntKind.wrap, IntKind.bits, IntKind.signed]
  have e : (2 ^ 64 : Int) = 18446744073709551616 := by decide
  have e2 : (2 ^ (64 - 1) : Int) = 9223372036854775808 := by decide
  simp only [e, e2, Bool.true_and, decide_eq_true_eq]
  split <;> rename_i hc <;> omega

theorem itoa_call {n : Int} (h : I64 n) : FCall Tryd.prog n_strconv_Itoa [.int .i64 n] (· = .str (Lib.itoa n)) := by
  refine FCall.prim (us := [.int .i64 n]) rfl (v := .string ⟨(Lib.itoa n).toArray⟩) (by simp [constOk]) fun w S hA => ?_
  have hg : Tryd.prog.globalNamed "internal/strconv.uint64pow10" = some 1 := by kernel_rfl
  have ht := (hA ("internal/strconv.uint64pow10", .u64, Lib.pow10Tab) (by simp [ambTabs]) _ hg).2
  refine (Tryd.strconv_Itoa n h.1 h.2 w ht).mono ?_
  rintro e w' ⟨rfl, k, os, rfl⟩
  exact ⟨rfl, Stood.grow w k os⟩
theorem repeat_call {s : List UInt8} {c : Nat} (hc : c ≤ 9223372036854775807) (hl : s.length * c ≤ 140737488355328) : FCall Tryd.prog n_strings_Repeat [.str s, .int .i64 c] (· = .str (Lib.repeatL s c)) := by
  refine FCall.prim (us := [.string ⟨s.toArray⟩, .int .i64 c]) rfl (v := .string ⟨(Lib.repeatL s c).toArray⟩) (by simp [constOk]) fun w S hA => ?_
  refine (Tryd.strings_Repeat ⟨s.toArray⟩ c w hc (by simpa [ByteArray.size] using hl)).mono ?_
  rintro e w' ⟨rfl, hw⟩
  exact ⟨by simp, Stood.below hw⟩
theorem join_call {full : Bool} {xs : List (List UInt8)} {sep : List UInt8} (hN : xs.length ≤ 140737488355328) (hl : (Lib.join xs sep).length ≤ 140737488355328) : FCall Tryd.prog n_strings_Join [.sl full (strs xs), .str sep] (· = .str (Lib.join xs sep)) :=
  FCall.join Tryd.strings_Join_none Tryd.strings_Join hN hl
theorem cut_call {s p : List UInt8} : FCall Tryd.prog n_strings_CutPrefix [.str s, .str p] (· = .tup [.str (Lib.trimPrefix s p), .bool (Lib.hasPrefix s p)]) := by
  refine ⟨fun {w S R vs} hA hrep hnd hsep => ?_⟩
  obtain ⟨rfl, rfl⟩ := lits_rep (us := [.string ⟨s.toArray⟩, .string ⟨p.toArray⟩]) rfl hrep
  refine (Tryd.strings_CutPrefix ⟨s.toArray⟩ ⟨p.toArray⟩ w).mono ?_
  rintro e w' ⟨rfl, rfl⟩
  refine ⟨_, _, S, [], rfl, rfl, ?_, by simp, hsep, (Stood.refl _).ext S []⟩
  exact Rep.tup (cs := [.string ⟨(Lib.trimPrefix s p).toArray⟩, .bool (Lib.hasPrefix s p)]) (R1 := []) (.str (.bool .nil)) .nil
theorem fmtInt_call {n : Int} (h : I64 n) : FCall Tryd.prog n_numtext_FormatInt [.int .i64 n] (· = .str (Lib.itoa n)) := by
  refine FCall.walk u_numtext_FormatInt k_numtext_FormatInt rfl ?_
  unfold c_numtext_FormatInt
  simp only [go_sem, simprocAttr]
  refine FCallT.of (itoa_call h) ?_
  rintro r rfl
  simp only [go_sem, simprocAttr]
theorem or_call {s : List UInt8} {b : Bool} : FCall Tryd.prog n_report_or [.str s, .bool b] (· = .str (if b then s else [63])) := by
  refine FCall.walk u_report_or k_report_or rfl ?_
  unfold c_report_or
  simp only [go_sem, simprocAttr]
  cases b <;> simp
def kindS (n : Int) : List UInt8 := if n = 1 then [112, 97, 121, 109, 101, 110, 116] else if n = 2 then [114, 101, 99, 111, 118, 101, 114, 121] else if n = 3 then [114, 101, 112, 97, 121, 109, 101, 110, 116] else if n = 4 then [119, 97, 105, 118, 101, 114] else [63]
theorem kind_call {n : Int} : FCall Tryd.prog n_report_kind [.int .i64 n] (· = .str (kindS n)) := by
  refine FCall.walk u_report_kind k_report_kind rfl ?_
  unfold c_report_kind
  simp only [go_sem, simprocAttr]
  unfold kindS
  repeat' split <;> simp_all
theorem kind2_call {n : Int} : FCall Tryd.prog n_ref54_kindText [.int .i64 n] (· = .str (kindS n)) := by
  refine FCall.walk u_ref54_kindText k_ref54_kindText rfl ?_
  unfold c_ref54_kindText
  simp only [go_sem, simprocAttr]
  unfold kindS
  repeat' split <;> simp_all
def leap (n : Int) : Bool := decide (n.tmod 4 = 0) && (!decide (n.tmod 100 = 0) || decide (n.tmod 400 = 0))
theorem leap_call {n : Int} : FCall Tryd.prog n_date_IsLeap [.int .i64 n] (· = .bool (leap n)) := by
  refine FCall.walk u_date_IsLeap k_date_IsLeap rfl ?_
  unfold c_date_IsLeap
  simp only [go_sem, simprocAttr]
  unfold leap
  refine ⟨fun h => ⟨fun h2 => ?_, fun h2 => ?_⟩, fun h => ?_⟩ <;> simp_all
theorem leap2_call {n : Int} : FCall Tryd.prog n_ref04_IsLeap [.int .i64 n] (· = .bool (leap n)) := by
  refine FCall.walk u_ref04_IsLeap k_ref04_IsLeap rfl ?_
  unfold c_ref04_IsLeap
  simp only [go_sem, simprocAttr]
  unfold leap
  refine ⟨fun h => ⟨fun h2 => ?_, fun h2 => ?_⟩, fun h => ?_⟩ <;> simp_all
def diy (y : Int) : Int := if leap y then 366 else 365
theorem diy_call {n : Int} : FCall Tryd.prog n_date_daysInYear [.int .i64 n] (· = .int .i64 (diy n)) := by
  refine FCall.walk u_date_daysInYear k_date_daysInYear rfl ?_
  unfold c_date_daysInYear
  simp only [go_sem, simprocAttr]
  refine FCallT.of leap_call ?_
  rintro r rfl
  simp only [go_sem, simprocAttr]
  unfold diy
  constructor <;> intro h <;> simp [h]
theorem diy2_call {n : Int} : FCall Tryd.prog n_ref04_daysInYear [.int .i64 n] (· = .int .i64 (diy n)) := by
  refine FCall.walk u_ref04_daysInYear k_ref04_daysInYear rfl ?_
  unfold c_ref04_daysInYear
  simp only [go_sem, simprocAttr]
  refine FCallT.of leap2_call ?_
  rintro r rfl
  simp only [go_sem, simprocAttr]
  unfold diy
  constructor <;> intro h <;> simp [h]
end Go.Fx.Tryd
set_option linter.unusedVariables false
set_option linter.unusedSimpArgs false
namespace Go.Fx.Tryd
open Go Go.Fm Go.Proofs

def dim (y m : Int) : Int := if m < 1 ∨ 12 < m then 0 else if m = 2 then (if leap y then 29 else 28) else if m = 4 ∨ m = 6 ∨ m = 9 ∨ m = 11 then 30 else 31
theorem dim_call {y m : Int} : FCall Tryd.prog n_date_DaysInMonth [.int .i64 y, .int .i64 m] (· = .int .i64 (dim y m)) := by
  by_cases h1 : m < 1
  · refine FCall.walk u_date_DaysInMonth k_date_DaysInMonth rfl ?_
    unfold c_date_DaysInMonth
    simp only [go_sem, simprocAttr, h1]
    simp [dim, h1]
  by_cases h2 : 12 < m
  · refine FCall.walk u_date_DaysInMonth k_date_DaysInMonth rfl ?_
    unfold c_date_DaysInMonth
    simp only [go_sem, simprocAttr, h1, h2]
    simp [dim, h2]
  have hm : m = 1 ∨ m = 2 ∨ m = 3 ∨ m = 4 ∨ m = 5 ∨ m = 6 ∨ m = 7 ∨ m = 8 ∨ m = 9 ∨ m = 10 ∨ m = 11 ∨ m = 12 := by omega
  rcases hm with rfl | rfl | rfl | rfl | rfl | rfl | rfl | rfl | rfl | rfl | rfl | rfl
  case inr.inl =>
    refine FCall.walk u_date_DaysInMonth k_date_DaysInMonth rfl ?_
    unfold c_date_DaysInMonth
    simp only [go_sem, simprocAttr]
    refine FCallT.of (leap_call) ?_
    rintro _ rfl
    simp only [go_sem, simprocAttr]
    constructor <;> intro h <;> simp [dim, h]
  all_goals
    refine FCall.walk u_date_DaysInMonth k_date_DaysInMonth rfl ?_
    unfold c_date_DaysInMonth
    simp only [go_sem, simprocAttr]
    first | rfl | simp [dim]
theorem dim2_call {y m : Int} : FCall Tryd.prog n_ref04_DaysInMonth [.int .i64 y, .int .i64 m] (· = .int .i64 (dim y m)) := by
  by_cases hb : m < 1 ∨ 12 < m
  · have e : ∀ k : Int, 1 ≤ k → k ≤ 12 → (m = k) = False := fun k h1 h2 => eq_false (by omega)
    refine FCall.walk u_ref04_DaysInMonth k_ref04_DaysInMonth rfl ?_
    unfold c_ref04_DaysInMonth
    simp only [go_sem, simprocAttr, e 1 (by decide) (by decide), e 2 (by decide) (by decide), e 3 (by decide) (by decide), e 4 (by decide) (by decide), e 5 (by decide) (by decide), e 6 (by decide) (by decide), e 7 (by decide) (by decide), e 8 (by decide) (by decide), e 9 (by decide) (by decide), e 10 (by decide) (by decide), e 11 (by decide) (by decide), e 12 (by decide) (by decide)]
    simp [dim, hb]
  have hm : m = 1 ∨ m = 2 ∨ m = 3 ∨ m = 4 ∨ m = 5 ∨ m = 6 ∨ m = 7 ∨ m = 8 ∨ m = 9 ∨ m = 10 ∨ m = 11 ∨ m = 12 := by omega
  rcases hm with rfl | rfl | rfl | rfl | rfl | rfl | rfl | rfl | rfl | rfl | rfl | rfl
  case inr.inl =>
    refine FCall.walk u_ref04_DaysInMonth k_ref04_DaysInMonth rfl ?_
    unfold c_ref04_DaysInMonth
    simp only [go_sem, simprocAttr]
    refine FCallT.of (leap2_call) ?_
    rintro _ rfl
    simp only [go_sem, simprocAttr]
    constructor <;> intro h <;> simp [dim, h]
  all_goals
    refine FCall.walk u_ref04_DaysInMonth k_ref04_DaysInMonth rfl ?_
    unfold c_ref04_DaysInMonth
    simp only [go_sem, simprocAttr]
    first | rfl | simp [dim]

/-- the years that are full: what is left, and the year -/
def yl : Nat → Int → Int → Int × Int
  | 0, d, y => (d, y)
  | k + 1, d, y => if diy y ≤ d then yl k (d - diy y) (y + 1) else (d, y)
def ml : Nat → Int → Int → Int → Int × Int
  | 0, d, y, m => (d, m)
  | k + 1, d, y, m => if dim y m ≤ d then ml k (d - dim y m) y (m + 1) else (d, m)
theorem diy_ge (y : Int) : 365 ≤ diy y ∧ diy y ≤ 366 := by unfold diy; split <;> omega
/-- days of a year from a month on -/
def restM (y m : Int) : Int := if m ≤ 1 then diy y else if m = 2 then diy y - 31 else diy y - (if leap y then 29 else 28) - 31 - (if m = 3 then 0 else if m = 4 then 31 else if m = 5 then 61 else if m = 6 then 92 else if m = 7 then 122 else if m = 8 then 153 else if m = 9 then 184 else if m = 10 then 214 else if m = 11 then 245 else if m = 12 then 275 else 306)
theorem rest_step {y m : Int} (h1 : 1 ≤ m) (h2 : m ≤ 12) : restM y (m + 1) = restM y m - dim y m ∧ restM y 13 = 0 ∧ 28 ≤ dim y m ∧ dim y m ≤ 31 := by
  have hm : m = 1 ∨ m = 2 ∨ m = 3 ∨ m = 4 ∨ m = 5 ∨ m = 6 ∨ m = 7 ∨ m = 8 ∨ m = 9 ∨ m = 10 ∨ m = 11 ∨ m = 12 := by omega
  have hd : diy y = if leap y then 366 else 365 := rfl
  rcases hm with rfl | rfl | rfl | rfl | rfl | rfl | rfl | rfl | rfl | rfl | rfl | rfl <;> simp [restM, dim, hd] <;> split <;> omega
def ymd (d : Int) : Int × Int × Int :=
  if 0 ≤ d ∧ d ≤ 109572 then
    ((yl 400 d 1900).2, (ml 13 (yl 400 d 1900).1 (yl 400 d 1900).2 1).2, (ml 13 (yl 400 d 1900).1 (yl 400 d 1900).2 1).1 + 1)
  else (0, 0, 0)
theorem valid_call {d : Int} : FCall Tryd.prog n_date_valid [.int .i64 d] (· = .bool (decide (0 ≤ d ∧ d ≤ 109572))) := by
  refine FCall.walk u_date_valid k_date_valid rfl ?_
  unfold c_date_valid
  simp only [go_sem, simprocAttr]
  constructor <;> intro h <;> simp <;> omega
theorem valid2_call {d : Int} : FCall Tryd.prog n_ref04_Valid [.int .i64 d] (· = .bool (decide (0 ≤ d ∧ d ≤ 109572))) := by
  refine FCall.walk u_ref04_Valid k_ref04_Valid rfl ?_
  unfold c_ref04_Valid
  simp only [go_sem, simprocAttr]
  constructor <;> intro h <;> simp <;> omega
theorem ymd_call {d : Int} : FCall Tryd.prog n_date_ToYMD [.int .i64 d] (· = .tup [.int .i64 (ymd d).1, .int .i64 (ymd d).2.1, .int .i64 (ymd d).2.2]) := by
  refine FCall.walk u_date_ToYMD k_date_ToYMD rfl ?_
  unfold c_date_ToYMD
  simp only [go_sem, simprocAttr]
  refine FCallT.of (valid_call) ?_
  rintro _ rfl
  simp only [go_sem, simprocAttr]
  refine ⟨fun h => ?_, fun h => ?_⟩
  · simp [ymd, h]
  refine FWT.loopK [] (fun s : Nat × Int × Int => [(0, .int .i64 s.2.1), (5, .int .i64 s.2.2), (6, .int .i64 1)]) (fun s => s.1) (fun s => yl s.1 s.2.1 s.2.2 = yl 400 d 1900 ∧ 0 ≤ s.2.1 ∧ s.2.1 < 365 * s.1 ∧ s.2.2 + s.1 = 2300 ∧ s.1 ≤ 400) (400, d, 1900) rfl ⟨rfl, h.1, by simp; omega, by simp, by simp⟩ ?_
  rintro ⟨k, d1, y⟩ ⟨g1, g2, g3, g4, g5⟩
  simp only at g1 g2 g3 g4 g5
  have hdy := diy_ge y
  simp only [go_sem, simprocAttr]
  refine FCallT.of (diy_call) ?_
  rintro _ rfl
  simp only [go_sem, simprocAttr]
  refine ⟨fun h1 => ?_, fun h1 => ?_⟩
  · refine FCallT.of (diy_call) ?_
    rintro _ rfl
    simp only [go_sem, simprocAttr]
    match k, g1, g3, g4, g5 with
    | 0, _, g3, _, _ => simp at g3; omega
    | k + 1, g1, g3, g4, g5 =>
    refine ⟨(k, d1 - diy y, y + 1), ?_, ⟨?_, ?_, ?_, ?_, ?_⟩, by simp⟩
    · rw [w64 (by unfold I64; omega), w64 (by unfold I64; omega)]
    · rw [← g1]; simp only [yl, if_pos h1]
    all_goals (simp only; omega)
  have hyl : yl 400 d 1900 = (d1, y) := by
    rw [← g1]
    cases k <;> simp [yl, h1]
  refine FWT.loopK [13] (fun s : Nat × Int × Int => [(0, .int .i64 s.2.1), (5, .int .i64 y), (6, .int .i64 s.2.2)]) (fun s => s.1) (fun s => ml s.1 s.2.1 y s.2.2 = ml 13 d1 y 1 ∧ 0 ≤ s.2.1 ∧ s.2.1 < restM y s.2.2 ∧ s.2.2 + s.1 = 14 ∧ 1 ≤ s.2.2 ∧ s.2.2 ≤ 12 ∧ s.2.1 ≤ 366) (13, d1, 1) ?_ ⟨rfl, g2, by simp [restM]; omega, by simp, by simp, by simp, by simp only; omega⟩ ?_
  · simp only [go_sem, simprocAttr]
  rintro ⟨j, d2, m⟩ ⟨m1, m2, m3, m4, m5, m6, m7⟩
  simp only at m1 m2 m3 m4 m5 m6 m7
  have hst := rest_step (y := y) m5 m6
  simp only [go_sem, simprocAttr]
  refine FCallT.of (dim_call) ?_
  rintro _ rfl
  simp only [go_sem, simprocAttr]
  refine ⟨fun h2 => ?_, fun h2 => ?_⟩
  · refine FCallT.of (dim_call) ?_
    rintro _ rfl
    simp only [go_sem, simprocAttr]
    match j, m1, m4 with
    | 0, _, m4 => simp at m4; omega
    | j + 1, m1, m4 =>
    have hm : m + 1 ≤ 12 := by
      rcases Int.lt_or_le 12 (m + 1) with h3 | h3
      · have : m = 12 := by omega
        subst this
        have h13 : restM y (12 + 1) = 0 := hst.2.1
        omega
      · exact h3
    refine ⟨(j, d2 - dim y m, m + 1), ?_, ⟨?_, ?_, ?_, ?_, ?_, ?_, ?_⟩, by simp⟩
    · rw [w64 (by unfold I64; omega), w64 (by unfold I64; omega)]
    · rw [← m1]; simp only [ml, if_pos h2]
    all_goals (simp only; omega)
  have hml : ml 13 d1 y 1 = (d2, m) := by
    rw [← m1]
    cases j <;> simp [ml, h2]
  have hymd : ymd d = (y, m, d2 + 1) := by
    unfold ymd
    rw [if_pos h, hyl]
    simp only [hml]
  rw [hymd, w64 (by unfold I64; omega)]
end Go.Fx.Tryd
set_option linter.unusedVariables false
set_option linter.unusedSimpArgs false
namespace Go.Fx.Tryd
open Go Go.Fm Go.Proofs

theorem wu64 {n : Int} (h : 0 ≤ n ∧ n < 18446744073709551616) : IntKind.u64.wrap n = n := by
  obtain ⟨h1, h2⟩ := h
  simp only [IntKind.wrap, IntKind.bits, IntKind.signed]
  have e : (2 ^ 64 : Int) = 18446744073709551616 := by decide
  simp only [e, Bool.false_and, Bool.false_eq_true, if_false]
  omega
theorem wu8 {n : Int} (h : 0 ≤ n ∧ n < 256) : IntKind.u8.wrap n = n := by
  obtain ⟨h1, h2⟩ := h
  simp only [IntKind.wrap, IntKind.bits, IntKind.signed]
  have e : (2 ^ 8 : Int) = 256 := by decide
  simp only [e, Bool.false_and, Bool.false_eq_true, if_false]
  omega

theorem dig_len {u : Nat} (h : u < 18446744073709551616) : (Lib.decDigits u).length ≤ 20 := by rw [Lib.decDigits_length]; exact Lib.nDigits_le20 u h
theorem itoa_len {n : Int} (h : I64 n) : (Lib.itoa n).length ≤ 21 := Lib.itoa_length_le n h.1 h.2
theorem dig_head : ∀ (u : Nat), ∃ c l, Lib.decDigits u = c :: l ∧ c ≠ 45 := by
  intro u
  induction u using Nat.strongRecOn with
  | _ u ih =>
  by_cases h : u < 10
  · refine ⟨_, [], Lib.decDigits_one h, ?_⟩
    intro e
    have := congrArg UInt8.toNat e
    simp at this
    omega
  · obtain ⟨c, l, h1, h2⟩ := ih (u / 10) (by omega)
    rw [Lib.decDigits, dif_neg h, h1]
    exact ⟨c, l ++ [UInt8.ofNat (48 + u % 10)], rfl, h2⟩
theorem itoa_cases (n : Int) : (n < 0 ∧ Lib.itoa n = 45 :: Lib.decDigits n.natAbs) ∨ (0 ≤ n ∧ Lib.itoa n = Lib.decDigits n.natAbs) := by
  unfold Lib.itoa
  by_cases h : n < 0
  · exact .inl ⟨h, if_pos h⟩
  · refine .inr ⟨by omega, ?_⟩
    rw [if_neg h]
    congr 1
    omega

theorem digits_call : ∀ (u : Nat), u < 18446744073709551616 → FCall Tryd.prog n_ref01_digits [.int .u64 (u : Int)] (· = .str (Lib.decDigits u)) := by
  intro u
  induction u using Nat.strongRecOn with
  | _ u ih =>
  intro hu
  by_cases h : u < 10
  · have e1 : ((u : Int) < 10) = True := eq_true (by omega)
    have e2 : IntKind.u64.wrap (48 + (u : Int)) = 48 + u := wu64 (by omega)
    have e3 : IntKind.u8.wrap (48 + (u : Int)) = 48 + u := wu8 (by omega)
    refine FCall.walk u_ref01_digits k_ref01_digits rfl ?_
    unfold c_ref01_digits
    simp only [go_sem, simprocAttr, e1, e2, e3]
    rw [Lib.decDigits_one h]
    congr 3
  · have e1 : ((u : Int) < 10) = False := eq_false (by omega)
    have e0 : (u : Int).tdiv 10 = ((u / 10 : Nat) : Int) := rfl
    have em : (u : Int).tmod 10 = ((u % 10 : Nat) : Int) := rfl
    have e2 : IntKind.u64.wrap ((u / 10 : Nat) : Int) = ((u / 10 : Nat) : Int) := wu64 (by omega)
    have e3 : IntKind.u64.wrap (48 + ((u % 10 : Nat) : Int)) = 48 + ((u % 10 : Nat) : Int) := wu64 (by omega)
    have e4 : IntKind.u8.wrap (48 + ((u % 10 : Nat) : Int)) = 48 + ((u % 10 : Nat) : Int) := wu8 (by omega)
    refine FCall.walk u_ref01_digits k_ref01_digits rfl ?_
    unfold c_ref01_digits
    simp only [go_sem, simprocAttr, e0, em, e1, e2, e3, e4]
    refine detCall_of _ (ih (u / 10) (by omega) (by omega)) ?_
    simp only [go_sem, simprocAttr, e0, em, e1, e2, e3, e4]
    have hl := dig_len (u := u / 10) (by omega)
    refine ⟨by omega, ?_⟩
    conv => rhs; rw [Lib.decDigits, dif_neg h]
    congr 3
theorem fmtInt2_call {n : Int} (h : I64 n) : FCall Tryd.prog n_ref01_FormatInt [.int .i64 n] (· = .str (Lib.itoa n)) := by
  obtain ⟨h1, h2⟩ := h
  by_cases hn : n < 0
  · have e1 : IntKind.i64.wrap (n + 1) = n + 1 := w64 (by unfold I64; omega)
    have e2 : IntKind.i64.wrap (0 - (n + 1)) = 0 - (n + 1) := w64 (by unfold I64; omega)
    have e3 : IntKind.u64.wrap (0 - (n + 1)) = 0 - (n + 1) := wu64 (by omega)
    have e4 : IntKind.u64.wrap (0 - (n + 1) + 1) = (n.natAbs : Int) := by rw [wu64 (by omega)]; omega
    refine FCall.walk u_ref01_FormatInt k_ref01_FormatInt rfl ?_
    unfold c_ref01_FormatInt
    simp only [go_sem, simprocAttr, hn, e1, e2, e3, e4]
    refine FCallT.of (digits_call n.natAbs (by omega)) ?_
    rintro _ rfl
    simp only [go_sem, simprocAttr]
    have hl := dig_len (u := n.natAbs) (by omega)
    refine ⟨by omega, ?_⟩
    rcases itoa_cases n with h | h
    · rw [h.2]
    · omega
  · have e3 : IntKind.u64.wrap n = (n.natAbs : Int) := by rw [wu64 (by omega)]; omega
    refine FCall.walk u_ref01_FormatInt k_ref01_FormatInt rfl ?_
    unfold c_ref01_FormatInt
    simp only [go_sem, simprocAttr, hn, e3]
    refine FCallT.of (digits_call n.natAbs (by omega)) ?_
    rintro _ rfl
    simp only [go_sem, simprocAttr]
    rcases itoa_cases n with h | h
    · omega
    · rw [h.2]
theorem clamp_call {n : Int} (h : 0 ≤ n ∧ n ≤ 9) : FCall Tryd.prog n_numtext_clamp [.int .i64 n] (· = .int .i64 n) := by
  refine FCall.walk u_numtext_clamp k_numtext_clamp rfl ?_
  unfold c_numtext_clamp
  simp only [go_sem, simprocAttr]
  congr 1; omega
theorem clamp2_call {n : Int} (h : 0 ≤ n ∧ n ≤ 9) : FCall Tryd.prog n_ref01_clamp [.int .i64 n] (· = .int .i64 n) := by
  refine FCall.walk u_ref01_clamp k_ref01_clamp rfl ?_
  unfold c_ref01_clamp
  simp only [go_sem, simprocAttr]
  congr 1; omega
theorem sign_call {n : Int} : FCall Tryd.prog n_ref01_sign [.str (Lib.itoa n)] (· = .tup [.str (Lib.decDigits n.natAbs), .bool (decide (n < 0))]) := by
  obtain ⟨c, l, hd, hc⟩ := dig_head n.natAbs
  rcases itoa_cases n with ⟨h1, h2⟩ | ⟨h1, h2⟩
  · rw [h2]
    refine FCall.walk u_ref01_sign k_ref01_sign rfl ?_
    unfold c_ref01_sign
    simp only [go_sem, simprocAttr]
    refine ⟨fun _ => ⟨⟨by omega, by omega⟩, ?_⟩, fun hn => absurd (by omega) hn⟩
    rw [List.take_of_length_le (by omega)]
    simp [h1]
  · rw [h2, hd]
    have hc2 : ¬ ((UInt8.toNat c : Nat) : Int) = 45 := by
      intro e
      have e2 : c.toNat = 45 := by omega
      exact hc (UInt8.toNat_inj.1 (e2.trans rfl))
    refine FCall.walk u_ref01_sign k_ref01_sign rfl ?_
    unfold c_ref01_sign
    simp only [go_sem, simprocAttr]
    refine ⟨fun _ => ⟨fun h => absurd h hc2, fun _ => ?_⟩, fun hn => absurd (by omega) hn⟩
    have : ¬ n < 0 := by omega
    simp [this]
theorem cut_itoa {n : Int} : FCall Tryd.prog n_strings_CutPrefix [.str (Lib.itoa n), .str [45]] (· = .tup [.str (Lib.decDigits n.natAbs), .bool (decide (n < 0))]) := by
  obtain ⟨c, l, hd, hc⟩ := dig_head n.natAbs
  have hh : Lib.hasPrefix (Lib.itoa n) [45] = decide (n < 0) := by
    rcases itoa_cases n with ⟨h1, h2⟩ | ⟨h1, h2⟩
    · rw [h2]; simp [Lib.hasPrefix, h1]
    · have : ¬ n < 0 := by omega
      have h3 : ((45 : UInt8) == c) = false := by simpa using fun e => hc (Eq.symm e)
      rw [h2, hd]; simp [Lib.hasPrefix, this, List.isPrefixOf, h3]
  refine FCall.mono cut_call ?_
  rintro r rfl
  unfold Lib.trimPrefix
  rw [hh]
  rcases itoa_cases n with ⟨h1, h2⟩ | ⟨h1, h2⟩
  · rw [h2]; simp [h1]
  · have : ¬ n < 0 := by omega
    rw [h2]; simp [this]
/-- padded with zeros -/
def padL (s : List UInt8) (w : Nat) : List UInt8 := List.replicate (w - s.length) 48 ++ s
theorem rep48 (c : Nat) : Lib.repeatL [48] c = List.replicate c 48 := by
  have := Lib.repeatL_replicate 48 1 c
  simpa using this
theorem pad_call {n : Int} {w : Nat} (h : I64 n) (hw : w ≤ 100) : FCall Tryd.prog n_date_pad [.int .i64 n, .int .i64 (w : Int)] (· = .str (padL (Lib.itoa n) w)) := by
  have hl := itoa_len h
  have e1 : max 0 (IntKind.i64.wrap ((w : Int) - (Lib.itoa n).length)) = ((w - (Lib.itoa n).length : Nat) : Int) := by
    rw [w64 (by unfold I64; omega)]; omega
  refine FCall.walk u_date_pad k_date_pad rfl ?_
  unfold c_date_pad
  simp only [go_sem, simprocAttr]
  refine FCallT.of (fmtInt_call h) ?_
  rintro _ rfl
  simp only [go_sem, simprocAttr, e1]
  refine FCallT.of (repeat_call (by omega) (by simp; omega)) ?_
  rintro _ rfl
  simp only [go_sem, simprocAttr]
  rw [rep48]
  refine ⟨by simp; omega, rfl⟩
theorem pad2_call {n : Int} {w : Nat} (h : I64 n) (hw : w ≤ 100) : FCall Tryd.prog n_ref04_pad [.int .i64 n, .int .i64 (w : Int)] (· = .str (padL (Lib.itoa n) w)) := by
  have hl := itoa_len h
  refine FCall.walk u_ref04_pad k_ref04_pad rfl ?_
  unfold c_ref04_pad
  simp only [go_sem, simprocAttr]
  refine FCallT.of (fmtInt2_call h) ?_
  rintro _ rfl
  simp only [go_sem, simprocAttr]
  refine FWT.loopK [] (fun s : List UInt8 => [(1, .int .i64 (w : Int)), (5, .str s)]) (fun s => w - s.length) (fun s => padL s w = padL (Lib.itoa n) w ∧ s.length ≤ 121) (Lib.itoa n) rfl ⟨rfl, by omega⟩ ?_
  rintro s ⟨g1, g2⟩
  simp only [go_sem, simprocAttr]
  refine ⟨fun h1 => ⟨by omega, [48] ++ s, rfl, ⟨?_, ?_⟩, ?_⟩, fun h1 => ?_⟩
  · rw [← g1]
    simp only [padL]
    have e : w - s.length = (w - ([48] ++ s).length) + 1 := by simp; omega
    rw [e, List.replicate_succ']
    simp
  · simp; omega
  · simp; omega
  · rw [← g1]
    simp only [padL]
    have e : w - s.length = 0 := by omega
    rw [e]; rfl
def dateS (d : Int) : List UInt8 := if 0 ≤ d ∧ d ≤ 109572 then padL (Lib.itoa (ymd d).1) 4 ++ [45] ++ padL (Lib.itoa (ymd d).2.1) 2 ++ [45] ++ padL (Lib.itoa (ymd d).2.2) 2 else []
theorem yl_bd : ∀ (k : Nat) (d y : Int), 0 ≤ d → 0 ≤ (yl k d y).1 ∧ (yl k d y).1 ≤ d ∧ y ≤ (yl k d y).2 ∧ (yl k d y).2 ≤ y + k
  | 0, d, y, h => by simp [yl, h]
  | k + 1, d, y, h => by
    have hd := diy_ge y
    simp only [yl]
    split
    · have := yl_bd k (d - diy y) (y + 1) (by omega)
      omega
    · simp only; omega
theorem dim_ge (y m : Int) : 0 ≤ dim y m := by unfold dim; repeat' split
                                               all_goals omega
theorem ml_bd : ∀ (k : Nat) (d y m : Int), 0 ≤ d → 0 ≤ (ml k d y m).1 ∧ (ml k d y m).1 ≤ d ∧ m ≤ (ml k d y m).2 ∧ (ml k d y m).2 ≤ m + k
  | 0, d, y, m, h => by simp [ml, h]
  | k + 1, d, y, m, h => by
    have hd := dim_ge y m
    simp only [ml]
    split
    · have := ml_bd k (d - dim y m) y (m + 1) (by omega)
      omega
    · simp only; omega
theorem ymd_bd {d : Int} : I64 (ymd d).1 ∧ I64 (ymd d).2.1 ∧ I64 (ymd d).2.2 := by
  unfold ymd I64
  split
  · rename_i h
    have h1 := yl_bd 400 d 1900 h.1
    have h2 := ml_bd 13 (yl 400 d 1900).1 (yl 400 d 1900).2 1 h1.1
    simp only
    omega
  · simp
theorem padL_len {s : List UInt8} {w : Nat} (h1 : s.length ≤ 21) (h2 : w ≤ 4) : (padL s w).length ≤ 25 := by simp [padL]; omega
theorem date_call {d : Int} : FCall Tryd.prog n_date_Format [.int .i64 d] (· = .str (dateS d)) := by
  refine FCall.walk u_date_Format k_date_Format rfl ?_
  unfold c_date_Format
  simp only [go_sem, simprocAttr]
  refine FCallT.of (valid_call) ?_
  rintro _ rfl
  simp only [go_sem, simprocAttr]
  refine ⟨fun h => ?_, fun h => ?_⟩
  · simp [dateS, h]
  obtain ⟨b1, b2, b3⟩ := ymd_bd (d := d)
  refine FCallT.of (ymd_call) ?_
  rintro _ rfl
  simp only [go_sem, simprocAttr]
  refine FCallT.of (pad_call (w := 4) b1 (by omega)) ?_
  rintro _ rfl
  simp only [go_sem, simprocAttr]
  have l1 := padL_len (w := 4) (itoa_len b1) (by omega)
  have l2 := padL_len (w := 2) (itoa_len b2) (by omega)
  have l3 := padL_len (w := 2) (itoa_len b3) (by omega)
  refine ⟨by omega, ?_⟩
  refine FCallT.of (pad_call (w := 2) b2 (by omega)) ?_
  rintro _ rfl
  simp only [go_sem, simprocAttr]
  refine ⟨by simp; omega, by simp; omega, ?_⟩
  refine FCallT.of (pad_call (w := 2) b3 (by omega)) ?_
  rintro _ rfl
  simp only [go_sem, simprocAttr]
  refine ⟨by simp; omega, ?_⟩
  simp [dateS, h]
theorem ymd2_call {d : Int} : FCall Tryd.prog n_ref04_ToYMD [.int .i64 d] (· = .tup [.int .i64 (ymd d).1, .int .i64 (ymd d).2.1, .int .i64 (ymd d).2.2]) := by
  refine FCall.walk u_ref04_ToYMD k_ref04_ToYMD rfl ?_
  unfold c_ref04_ToYMD
  simp only [go_sem, simprocAttr]
  refine FCallT.of (valid2_call) ?_
  rintro _ rfl
  simp only [go_sem, simprocAttr]
  refine ⟨fun h => ?_, fun h => ?_⟩
  · simp [ymd, h]
  refine FWT.loopK [] (fun s : Nat × Int × Int => [(0, .int .i64 s.2.1), (5, .int .i64 s.2.2), (6, .int .i64 1)]) (fun s => s.1) (fun s => yl s.1 s.2.1 s.2.2 = yl 400 d 1900 ∧ 0 ≤ s.2.1 ∧ s.2.1 < 365 * s.1 ∧ s.2.2 + s.1 = 2300 ∧ s.1 ≤ 400) (400, d, 1900) rfl ⟨rfl, h.1, by simp; omega, by simp, by simp⟩ ?_
  rintro ⟨k, d1, y⟩ ⟨g1, g2, g3, g4, g5⟩
  simp only at g1 g2 g3 g4 g5
  have hdy := diy_ge y
  simp only [go_sem, simprocAttr]
  refine FCallT.of (diy2_call) ?_
  rintro _ rfl
  simp only [go_sem, simprocAttr]
  refine ⟨fun h1 => ?_, fun h1 => ?_⟩
  · refine FCallT.of (diy2_call) ?_
    rintro _ rfl
    simp only [go_sem, simprocAttr]
    match k, g1, g3, g4, g5 with
    | 0, _, g3, _, _ => simp at g3; omega
    | k + 1, g1, g3, g4, g5 =>
    refine ⟨(k, d1 - diy y, y + 1), ?_, ⟨?_, ?_, ?_, ?_, ?_⟩, by simp⟩
    · rw [w64 (by unfold I64; omega), w64 (by unfold I64; omega)]
    · rw [← g1]; simp only [yl, if_pos h1]
    all_goals (simp only; omega)
  have hyl : yl 400 d 1900 = (d1, y) := by
    rw [← g1]
    cases k <;> simp [yl, h1]
  refine FWT.loopK [13] (fun s : Nat × Int × Int => [(0, .int .i64 s.2.1), (5, .int .i64 y), (6, .int .i64 s.2.2)]) (fun s => s.1) (fun s => ml s.1 s.2.1 y s.2.2 = ml 13 d1 y 1 ∧ 0 ≤ s.2.1 ∧ s.2.1 < restM y s.2.2 ∧ s.2.2 + s.1 = 14 ∧ 1 ≤ s.2.2 ∧ s.2.2 ≤ 12 ∧ s.2.1 ≤ 366) (13, d1, 1) ?_ ⟨rfl, g2, by simp [restM]; omega, by simp, by simp, by simp, by simp only; omega⟩ ?_
  · simp only [go_sem, simprocAttr]
  rintro ⟨j, d2, m⟩ ⟨m1, m2, m3, m4, m5, m6, m7⟩
  simp only at m1 m2 m3 m4 m5 m6 m7
  have hst := rest_step (y := y) m5 m6
  simp only [go_sem, simprocAttr]
  refine FCallT.of (dim2_call) ?_
  rintro _ rfl
  simp only [go_sem, simprocAttr]
  refine ⟨fun h2 => ?_, fun h2 => ?_⟩
  · refine FCallT.of (dim2_call) ?_
    rintro _ rfl
    simp only [go_sem, simprocAttr]
    match j, m1, m4 with
    | 0, _, m4 => simp at m4; omega
    | j + 1, m1, m4 =>
    have hm : m + 1 ≤ 12 := by
      rcases Int.lt_or_le 12 (m + 1) with h3 | h3
      · have : m = 12 := by omega
        subst this
        have h13 : restM y (12 + 1) = 0 := hst.2.1
        omega
      · exact h3
    refine ⟨(j, d2 - dim y m, m + 1), ?_, ⟨?_, ?_, ?_, ?_, ?_, ?_, ?_⟩, by simp⟩
    · rw [w64 (by unfold I64; omega), w64 (by unfold I64; omega)]
    · rw [← m1]; simp only [ml, if_pos h2]
    all_goals (simp only; omega)
  have hml : ml 13 d1 y 1 = (d2, m) := by
    rw [← m1]
    cases j <;> simp [ml, h2]
  have hymd : ymd d = (y, m, d2 + 1) := by
    unfold ymd
    rw [if_pos h, hyl]
    simp only [hml]
  rw [hymd, w64 (by unfold I64; omega)]
theorem date2_call {d : Int} : FCall Tryd.prog n_ref04_Format [.int .i64 d] (· = .str (dateS d)) := by
  refine FCall.walk u_ref04_Format k_ref04_Format rfl ?_
  unfold c_ref04_Format
  simp only [go_sem, simprocAttr]
  refine FCallT.of (valid2_call) ?_
  rintro _ rfl
  simp only [go_sem, simprocAttr]
  refine ⟨fun h => ?_, fun h => ?_⟩
  · simp [dateS, h]
  obtain ⟨b1, b2, b3⟩ := ymd_bd (d := d)
  refine FCallT.of (ymd2_call) ?_
  rintro _ rfl
  simp only [go_sem, simprocAttr]
  refine FCallT.of (pad2_call (w := 4) b1 (by omega)) ?_
  rintro _ rfl
  simp only [go_sem, simprocAttr]
  have l1 := padL_len (w := 4) (itoa_len b1) (by omega)
  have l2 := padL_len (w := 2) (itoa_len b2) (by omega)
  have l3 := padL_len (w := 2) (itoa_len b3) (by omega)
  refine ⟨by omega, ?_⟩
  refine FCallT.of (pad2_call (w := 2) b2 (by omega)) ?_
  rintro _ rfl
  simp only [go_sem, simprocAttr]
  refine ⟨by simp; omega, by simp; omega, ?_⟩
  refine FCallT.of (pad2_call (w := 2) b3 (by omega)) ?_
  rintro _ rfl
  simp only [go_sem, simprocAttr]
  refine ⟨by simp; omega, ?_⟩
  simp [dateS, h]
end Go.Fx.Tryd
