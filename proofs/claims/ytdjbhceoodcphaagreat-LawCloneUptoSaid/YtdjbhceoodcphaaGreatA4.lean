/- Part of a proof: see the last text of the claim. -/
import Derived.Test.YtdjbhceoodcphaaGreatA3
import Derived.Test.YtdjbhceoodcphaaGreatProg
import Derived.KernelRfl
import Derived.Shelf.Strconv.Itoa0
import Derived.Shelf.Strings.Search1
import Derived.Shelf.Strings.Search2
import Derived.Shelf.Strings.Search3
import Derived.Shelf.LaysM
import Derived.Shelf.Strings.Shaped
import Derived.Shelf.Sort.Plain
import Derived.Ground.Names2Prog
import Derived.Shelf.Slices.CompactI
import Derived.Shelf.Slices.In.SortNone
import GoSem.ClaimChange
import Derived.Carry
import Derived.RowKit
import Derived.Stop.LaidErr
import Derived.WalkKit
import Derived.ProofKit
import Derived.OpenShut
import Derived.Deep.DeepHandedRow
import Derived.Sort.Grow
import Derived.Lib.IndexMore
import Derived.Lib.SlicesCompact
set_option linter.unusedVariables false
namespace Go.Fx.Tryz
open Go Go.Fm Go.Proofs Go.Fm.Q
abbrev n_law17_LawClone : FuncId := 7
abbrev n_same_SmallLaw : FuncId := 9
abbrev n_law17_awake : FuncId := 10
abbrev n_law_Validate : FuncId := 11
abbrev n_law_Signature : FuncId := 14
abbrev n_law_Clone : FuncId := 23
abbrev n_law_Equal : FuncId := 24
abbrev n_ref17_Equal : FuncId := 25
abbrev n_same_smallScope : FuncId := 27
abbrev n_same_TinyLaw : FuncId := 28
abbrev n_law_bad : FuncId := 29
abbrev n_law_name : FuncId := 30
abbrev n_law_enum : FuncId := 31
abbrev n_law_rows : FuncId := 32
abbrev n_law_scope : FuncId := 33
abbrev n_same_Enums : FuncId := 37
abbrev n_same_Tables : FuncId := 38
abbrev n_law_enums : FuncId := 40
abbrev n_law_tables : FuncId := 41
abbrev n_law_types : FuncId := 42
abbrev n_law_member : FuncId := 43
abbrev n_same_Strings : FuncId := 45
abbrev n_law_names : FuncId := 46
abbrev n_expr_TypeOf : FuncId := 53
abbrev n_deps_Direct : FuncId := 54
abbrev n_slices_Clone_api_Field_api_Field : FuncId := 57
abbrev n_slices_Clone_api_Node_api_Node : FuncId := 58
abbrev n_slices_EqualFunc_api_Enum_api_Enum_api_Enum_api_Enum : FuncId := 59
abbrev n_law_sameEnum : FuncId := 60
abbrev n_slices_EqualFunc_api_Table_api_Table_api_Table_api_Table : FuncId := 61
abbrev n_law_sameTable : FuncId := 62
abbrev n_slices_EqualFunc_api_Scope_api_Scope_api_Scope_api_Scope : FuncId := 63
abbrev n_law_sameScope : FuncId := 64
abbrev n_same_Law : FuncId := 65
abbrev n_slices_Clone_string_string : FuncId := 66
abbrev n_lexer_IsIdentifier : FuncId := 69
abbrev n_slices_Contains_string_string : FuncId := 70
abbrev n_table_Validate : FuncId := 71
abbrev n_law_fields : FuncId := 72
abbrev n_law_rule : FuncId := 73
abbrev n_slices_Contains_int_int : FuncId := 74
abbrev n_deps_Transitive : FuncId := 75
abbrev n_same_Enum : FuncId := 82
abbrev n_same_Table : FuncId := 83
abbrev n_slices_Clone_api_Row_api_Row : FuncId := 84
abbrev n_expr_starts : FuncId := 85
abbrev n_expr_operands : FuncId := 86
abbrev n_expr_typeOf : FuncId := 87
abbrev n_deps_valid : FuncId := 88
abbrev n_expr_References : FuncId := 89
abbrev n_slices_Sort_int_int : FuncId := 90
abbrev n_slices_Compact_int_int : FuncId := 91
abbrev n_slices_Equal_string_string : FuncId := 93
abbrev n_slices_Equal_api_Row_api_Row : FuncId := 94
abbrev n_slices_Equal_api_Field_api_Field : FuncId := 95
abbrev n_slices_EqualFunc_api_Rule_api_Rule_api_Rule_api_Rule : FuncId := 96
abbrev n_law_sameRule : FuncId := 97
abbrev n_same_Scopes : FuncId := 98
abbrev n_daterange_Valid : FuncId := 99
abbrev n_lexer_lower : FuncId := 101
abbrev n_lexer_run : FuncId := 102
abbrev n_lexer_part : FuncId := 103
abbrev n_strings_Contains : FuncId := 104
abbrev n_slices_Index_string_string : FuncId := 105
abbrev n_value_ValidType : FuncId := 106
abbrev n_table_check : FuncId := 107
abbrev n_table_conflict : FuncId := 108
abbrev n_law_named : FuncId := 109
abbrev n_law_source : FuncId := 110
abbrev n_law_expression : FuncId := 111
abbrev n_slices_Index_int_int : FuncId := 112
abbrev n_same_Rows : FuncId := 125
abbrev n_expr_Arity : FuncId := 126
abbrev n_expr_number : FuncId := 127
abbrev n_expr_leaf : FuncId := 128
abbrev n_expr_table : FuncId := 129
abbrev n_expr_result : FuncId := 130
abbrev n_expr_References_1 : FuncId := 131
abbrev n_slices_Equal_api_Node_api_Node : FuncId := 134
abbrev n_same_Scope : FuncId := 135
abbrev n_lexer_digit : FuncId := 136
abbrev n_value_Bounds : FuncId := 138
abbrev n_daterange_Intersect : FuncId := 139
abbrev n_expr_meaning : FuncId := 146
abbrev n_expr_at_api_Enum : FuncId := 147
abbrev n_expr_at_string : FuncId := 148
abbrev n_expr_at_api_Type : FuncId := 149
abbrev n_expr_aggregate : FuncId := 150
abbrev n_expr_at_api_Table : FuncId := 151
abbrev n_expr_result_1 : FuncId := 152
abbrev n_expr_numeric : FuncId := 153
abbrev n_expr_arithmetic : FuncId := 154
abbrev n_expr_ordered : FuncId := 155
abbrev n_same_Fields : FuncId := 167
abbrev n_same_Rules : FuncId := 168
abbrev n_daterange_proper : FuncId := 170
abbrev n_expr_literal : FuncId := 176
abbrev n_same_Rule : FuncId := 183
abbrev n_same_Nodes : FuncId := 195
theorem mixed : Tryz.prog.follows .mixedOrders = true := by kernel_rfl
attribute [go_sem] mixed
end Go.Fx.Tryz
set_option linter.unusedVariables false
namespace Go.Fx.Tryz
open Go Go.Fm Go.Proofs Go.Fm.Q
def c_law17_LawClone : FC :=
 R [X 3 0,X 4 1,O 6 (.mv (.k (.bool false)))] [0,1,6] <|
 I [M 10 3 3,C 11 n_same_SmallLaw [t 10],U 12 11,V 13 12,H 13 (M 14 4 3),H 13 (C 15 n_same_SmallLaw [t 14]),H 13 (U 16 15),Po 17 13 16] [10,11,12,13,14,15,16] 17 (R [C 18 n_law17_awake [],O 6 (.mvP true (t 18))] [2,3,4,17,18] <|
 .ret) <|
 D 6 [M 19 3 3,C 20 n_law_Clone [t 19],M 21 3 3,C 22 n_law_Clone [t 21],A 7 [e,e,e],A 8 [e,e,e],S 7 20 3,O 0 (.storeS (t 8) (t 22) 3)] [17,19,20,21,22] <|
 Q (D 25 [M 23 3 3,M 24 4 3,C 25 n_law_Equal [t 23,t 24],M 26 3 3,M 27 4 3,C 28 n_ref17_Equal [t 26,t 27],O 29 (.eqB true (t 25) (t 28)),V 30 29,H 30 (M 31 7 3),H 30 (M 32 3 3),H 30 (B 33 n_law_Equal [t 31,t 32]),H 30 (U 34 33),Po 35 30 34,V 36 35,H 36 (M 37 7 3),H 36 (M 38 3 3),H 36 (B 39 n_ref17_Equal [t 37,t 38]),H 36 (U 40 39),Po 41 36 40,V 42 41,H 42 (M 43 8 3),H 42 (M 44 3 3),H 42 (C 45 n_ref17_Equal [t 43,t 44]),H 42 (U 46 45),Po 47 42 46] [4,23,24,25,26,27,28,29,30,31,32,33,34,35,36,37,38,39,40,41,42,43,44,45,46] <|
 .cond (t 47) (R [O 6 (.mv (.k (.bool false)))] [2,3,7,8,47] <|
 .ret) (.skip)) <|
 I [F 48 7 2,L 49 48,N 50 49,bEk 51 50 0] [47,48,49,50] 51 (R [C 52 n_law17_awake [],O 6 (.mvP true (t 52))] [2,3,7,8,51,52] <|
 .ret) <|
 D 17 [F 53 7 2,L 54 53,V 55 2,F 56 7 2,L 57 56,N 58 57,O 59 (.bin .rem (t 55) (t 58)),F 60 7 2,L 61 60,N 62 61,bA 63 59 62,F 64 7 2,L 65 64,N 66 65,O 67 (.bin .rem (t 63) (t 66)),J 68 54 67 5,V 9 68] [2,51,55,56,57,58,59,60,61,62,63,64,65,66] <|
 R [V 69 9,O 70 (.nilCheck (t 69)),F 71 70 0,L 72 71,O 73 (.bin .add (t 72) (.k (.str [120]))),O 74 (.nilCheck (t 69)),F 75 74 0,S 75 73 1] [69,70,71,72,73,74,75] <|
 I [V 76 9,O 77 (.nilCheck (t 76)),F 78 77 4,L 79 78,N 80 79,bGk 81 80 0] [76,77,78,79,80] 81 (R [V 82 9,O 83 (.nilCheck (t 82)),F 84 83 4,L 85 84,O 86 (.ia (t 85) (K 0) 9),F 87 86 3,L 88 87,bAk 89 88 1,O 90 (.ia (t 85) (K 0) 9),F 91 90 3,S 91 89 1] [81,82,83,84,85,86,87,88,89,90,91] <|
 R [V 92 9,O 93 (.nilCheck (t 92)),F 94 93 4,L 95 94,O 96 (.ia (t 95) (K 0) 9),F 97 96 7,L 98 97,N 99 98,bGk 100 99 0] [92,93,94,95,96,97,98,99] <|
 .cond (t 100) (r [V 101 9,O 102 (.nilCheck (t 101)),F 103 102 4,L 104 103,O 105 (.ia (t 104) (K 0) 9),F 106 105 7,L 107 106,O 108 (.ia (t 107) (K 0) 2),F 109 108 1,L 110 109,bAk 111 110 1,O 112 (.ia (t 107) (K 0) 2),F 113 112 1,S 113 111 1] [9,53,54,67,68,100,101,102,103,104,105,106,107,108,109,110,111,112,113]) (.skip)) <|
 R [O 114 (.loadM true (t 7) 3 true),M 115 3 3,B 116 n_law_Equal [t 114,t 115],U 117 116,V 118 117,G 118 (M 119 8 3),G 118 (M 120 3 3),G 118 (C 121 n_law_Equal [t 119,t 120]),Pa 122 118 121,V 123 122,G 123 (O 124 (.loadM true (t 8) 3 true)),G 123 (O 125 (.loadM true (t 3) 3 true)),G 123 (C 126 n_ref17_Equal [t 124,t 125]),Pa 127 123 126,V 128 127,G 128 (C 129 n_law17_awake []),Pa 130 128 129,V 6 130] [3,7,8,9,53,54,67,68,81,100,114,115,116,117,118,119,120,121,122,123,124,125,126,127,128,129,130] <|
 .ret
theorem k_law17_LawClone : fnOk Tryz.prog Tryz.f7 c_law17_LawClone 131 3 [.t 6] = true := by kernel_rfl
abbrev u_law17_LawClone := Tryz.func7
def c_same_SmallLaw : FC :=
 R [X 1 0,O 2 (.mv (.k (.bool false)))] [0,2] <|
 I [F 9 1 0,L 10 9,N 11 10,bGk 12 11 9,V 13 12,H 13 (F 14 1 1),H 13 (L 15 14),H 13 (N 16 15),H 13 (bGk 17 16 9),Po 18 13 17,V 19 18,H 19 (F 20 1 2),H 19 (L 21 20),H 19 (N 22 21),H 19 (bGk 23 22 5),Po 24 19 23] [9,10,11,12,13,14,15,16,17,18,19,20,21,22,23] 24 (R [O 2 (.mv (.k (.bool false)))] [1,24] <|
 .ret) <|
 R [W 3 0] [24] <|
 R [W 4 0] [] <|
 Q (R [W 5 0] [] <|
 .block 0 <| .loop <| E [V 25 5,F 26 1 0,L 27 26,N 28 27,bL 29 25 28] [25,26,27,28] 29 (.skip) (.exit 0) <|
 Q (.block 1 <| I [F 32 1 0,L 33 32,V 34 5,J 35 33 34 2,F 36 35 0,L 37 36,O 38 (.lenS (t 37)),bGk 39 38 80,V 40 39,H 40 (F 41 1 0),H 40 (L 42 41),H 40 (V 43 5),H 40 (J 44 42 43 2),H 40 (F 45 44 1),H 40 (L 46 45),H 40 (N 47 46),H 40 (bGk 48 47 20),Po 49 40 48] [29,32,33,34,35,36,37,38,39,40,41,42,43,44,45,46,47,48] 49 (R [O 2 (.mv (.k (.bool false)))] [1,3,4,5,49] <|
 .ret) <|
 R [W 6 0] [49] <|
 .block 2 <| .loop <| E [V 50 6,F 51 1 0,L 52 51,V 53 5,J 54 52 53 2,F 55 54 1,L 56 55,N 57 56,bL 58 50 57] [50,51,52,53,54,55,56,57] 58 (.skip) (.exit 2) <|
 Q (.block 3 <| R [F 61 1 0,L 62 61,V 63 5,J 64 62 63 2,F 65 64 1,L 66 65,V 67 6,J 68 66 67 1,L 69 68,O 70 (.lenS (t 69)),bGk 71 70 80] [58,61,62,63,64,65,66,67,68,69,70] <|
 .cond (t 71) (R [O 2 (.mv (.k (.bool false)))] [1,3,4,5,6,71] <|
 .ret) (.skip)) <|
 r [V 59 6,bAk 60 59 1,V 6 60] [59,60,71]) <|
 r [V 30 5,bAk 31 30 1,V 5 31] [6,30,31,58]) <|
 Q (R [W 7 0] [5,29] <|
 .block 4 <| .loop <| E [V 72 7,F 73 1 1,L 74 73,N 75 74,bL 76 72 75] [72,73,74,75] 76 (.skip) (.exit 4) <|
 Q (.block 5 <| R [V 79 3,F 80 1 1,L 81 80,V 82 7,J 83 81 82 6,F 84 83 5,L 85 84,N 86 85,bA 87 79 86,V 3 87] [76,79,80,81,82,83,84,85,86,87] <|
 R [F 88 1 1,L 89 88,V 90 7,J 91 89 90 6,F 92 91 0,L 93 92,O 94 (.lenS (t 93)),bGk 95 94 80,V 96 95,H 96 (V 97 3),H 96 (bGk 98 97 150),Po 99 96 98] [88,89,90,91,92,93,94,95,96,97,98] <|
 .cond (t 99) (R [O 2 (.mv (.k (.bool false)))] [1,3,4,7,99] <|
 .ret) (.skip)) <|
 r [V 77 7,bAk 78 77 1,V 7 78] [77,78,99]) <|
 Q (R [W 8 0] [3,7,76] <|
 .block 6 <| .loop <| E [V 100 8,F 101 1 2,L 102 101,N 103 102,bL 104 100 103] [100,101,102,103] 104 (.skip) (.exit 6) <|
 Q (.block 7 <| R [V 107 4,F 108 1 2,L 109 108,V 110 8,J 111 109 110 5,F 112 111 4,L 113 112,N 114 113,bA 115 107 114,V 4 115] [104,107,108,109,110,111,112,113,114,115] <|
 R [V 116 4,bGk 117 116 60,V 118 117,H 118 (F 119 1 2),H 118 (L 120 119),H 118 (V 121 8),H 118 (J 122 120 121 5),H 118 (M 123 122 5),H 118 (C 124 n_same_smallScope [t 123]),H 118 (U 125 124),Po 126 118 125] [116,117,118,119,120,121,122,123,124,125] <|
 .cond (t 126) (R [O 2 (.mv (.k (.bool false)))] [1,4,8,126] <|
 .ret) (.skip)) <|
 r [V 105 8,bAk 106 105 1,V 8 106] [105,106,126]) <|
 R [O 2 (.mv (.k (.bool true)))] [1,4,8,104] <|
 .ret
theorem k_same_SmallLaw : fnOk Tryz.prog Tryz.f9 c_same_SmallLaw 127 1 [.t 2] = true := by kernel_rfl
abbrev u_same_SmallLaw := Tryz.func9
def c_law17_awake : FC :=
 R [O 0 (.mv (.k (.bool false)))] [0] <|
 R [O 3 (.build [z,z] [(0,1),(1,1)] [K 2,K 5]),O 4 (.buildSl [z,z] 1 [0] [t 3]),⟨5,.call n_same_TinyLaw [(false,t 4)],none⟩,B 6 n_law_Validate [t 5],A 1 [z,z,z,z],S 1 6 4] [3,4,5,6] <|
 R [O 7 (.build [z,z] [(0,1),(1,1)] [K 3,K 5]),O 8 (.buildSl [z,z] 1 [0] [t 7]),⟨9,.call n_same_TinyLaw [(false,t 8)],none⟩,B 10 n_law_Validate [t 9],A 2 [z,z,z,z],S 2 10 4] [7,8,9,10] <|
 R [M 11 1 4,O 12 (.build [z,z,z,z] [(0,1),(1,1),(3,1)] [K 8,K 3,K 300]),O 13 (.eqS false [0,0,0,0] (t 11) (t 12)),V 14 13,G 14 (M 15 2 4),G 14 (O 16 (.build [z,z,z,z] [] [])),G 14 (O 17 (.eqS false [0,0,0,0] (t 15) (t 16))),Pa 18 14 17,V 0 18] [1,2,11,12,13,14,15,16,17,18] <|
 .ret
theorem k_law17_awake : fnOk Tryz.prog Tryz.f10 c_law17_awake 19 0 [.t 0] = true := by kernel_rfl
abbrev u_law17_awake := Tryz.func10
def c_law_Clone : FC :=
 R [X 1 0,A 2 [e,e,e]] [0] <|
 D 8 [F 9 1 0,L 10 9,C 11 n_law_enums [t 10],F 12 1 1,L 13 12,C 14 n_law_tables [t 13],O 15 (.build [e,e,e] [(0,1),(1,1)] [t 11,t 14]),A 3 [e,e,e],S 3 15 3] [9,10,11,12,13,14,15] <|
 Q (R [F 16 1 2,L 17 16,N 18 17,W 19 0] [] <|
 .block 0 <| .loop <| R [bL 20 19 18] [] <|
 Q (.cond (t 20) (.skip) (.exit 0)) <|
 Q (.block 1 <| R [J 21 17 19 5,M 22 21 5,A 5 [o,z,e,e,e],S 5 22 5] [20,21,22] <|
 D 7 [F 23 5 2,L 24 23,C 25 n_slices_Clone_api_Field_api_Field [t 24],F 26 5 3,L 27 26,C 28 n_slices_Clone_api_Field_api_Field [t 27],F 29 5 2,S 29 25 1,F 30 5 3,S 30 28 1] [23,24,25,26,27,28,29,30] <|
 R [O 6 (.mv (.k (.arr [])))] [] <|
 Q (R [F 31 5 4,L 32 31,N 33 32,W 34 0] [] <|
 .block 2 <| .loop <| R [bL 35 34 33] [] <|
 Q (.cond (t 35) (.skip) (.exit 2)) <|
 Q (.block 3 <| R [J 36 32 34 9,M 37 36 9,A 8 [o,z,z,z,z,z,e,e,o],S 8 37 9] [35,36,37] <|
 D 7 [F 38 8 6,L 39 38,C 40 n_slices_Clone_api_Node_api_Node [t 39],F 41 8 7,L 42 41,C 43 n_slices_Clone_api_Node_api_Node [t 42],F 44 8 6,S 44 40 1,F 45 8 7,S 45 43 1] [38,39,40,41,42,43,44,45] <|
 r [V 46 6,O 47 (.loadM true (t 8) 9 true),O 48 (.buildSl [o,z,z,z,z,z,e,e,o] 1 [0] [t 47]),O 49 (.app (t 46) (t 48) 9 120),O 6 (.mvP true (t 49))] [8,46,47,48,49]) <|
 r [bAk 50 34 1,V 34 50] [50]) <|
 R [V 51 6,F 52 5 4,S 52 51 1] [6,31,32,33,34,35,51,52] <|
 r [F 53 3 2,L 54 53,O 55 (.loadM true (t 5) 5 true),O 56 (.buildSl [o,z,e,e,e] 1 [0] [t 55]),O 57 (.app (t 54) (t 56) 5 96),F 58 3 2,S 58 57 1] [5,53,54,55,56,57,58]) <|
 r [bAk 59 19 1,V 19 59] [59]) <|
 R [O 60 (.loadM true (t 3) 3 true),S 2 60 3] [1,3,16,17,18,19,20,60] <|
 .ret
theorem k_law_Clone : fnOk Tryz.prog Tryz.f23 c_law_Clone 61 1 [.c 2 3 true] = true := by kernel_rfl
abbrev u_law_Clone := Tryz.func23
def c_law_Equal : FC :=
 R [X 2 0,X 3 1,O 4 (.mv (.k (.bool false)))] [0,1,4] <|
 R [F 5 2 0,L 6 5,F 7 3 0,L 8 7,C 9 n_slices_EqualFunc_api_Enum_api_Enum_api_Enum_api_Enum [t 6,t 8,.k (.fn n_law_sameEnum [])],V 10 9,G 10 (F 11 2 1),G 10 (L 12 11),G 10 (F 13 3 1),G 10 (L 14 13),G 10 (C 15 n_slices_EqualFunc_api_Table_api_Table_api_Table_api_Table [t 12,t 14,.k (.fn n_law_sameTable [])]),Pa 16 10 15,V 17 16,G 17 (F 18 2 2),G 17 (L 19 18),G 17 (F 20 3 2),G 17 (L 21 20),G 17 (C 22 n_slices_EqualFunc_api_Scope_api_Scope_api_Scope_api_Scope [t 19,t 21,.k (.fn n_law_sameScope [])]),Pa 23 17 22,V 4 23] [2,3,5,6,7,8,9,10,11,12,13,14,15,16,17,18,19,20,21,22,23] <|
 .ret
theorem k_law_Equal : fnOk Tryz.prog Tryz.f24 c_law_Equal 24 2 [.t 4] = true := by kernel_rfl
abbrev u_law_Equal := Tryz.func24
def c_ref17_Equal : FC :=
 R [X 2 0,X 3 1,O 4 (.mv (.k (.bool false)))] [0,1,4] <|
 R [O 5 (.loadM true (t 2) 3 true),O 6 (.loadM true (t 3) 3 true),C 7 n_same_Law [t 5,t 6],O 4 (.mvP true (t 7))] [2,3,5,6,7] <|
 .ret
theorem k_ref17_Equal : fnOk Tryz.prog Tryz.f25 c_ref17_Equal 8 2 [.t 4] = true := by kernel_rfl
abbrev u_ref17_Equal := Tryz.func25
def c_same_smallScope : FC :=
 R [X 1 0,O 2 (.mv (.k (.bool false)))] [0,2] <|
 I [F 7 1 0,L 8 7,O 9 (.lenS (t 8)),bGk 10 9 80,V 11 10,H 11 (F 12 1 2),H 11 (L 13 12),H 11 (N 14 13),H 11 (bGk 15 14 14),Po 16 11 15,V 17 16,H 17 (F 18 1 3),H 17 (L 19 18),H 17 (N 20 19),H 17 (bGk 21 20 14),Po 22 17 21,V 23 22,H 23 (F 24 1 4),H 23 (L 25 24),H 23 (N 26 25),H 23 (bGk 27 26 60),Po 28 23 27] [7,8,9,10,11,12,13,14,15,16,17,18,19,20,21,22,23,24,25,26,27] 28 (R [O 2 (.mv (.k (.bool false)))] [1,28] <|
 .ret) <|
 Q (R [W 3 0] [28] <|
 .block 0 <| .loop <| E [V 29 3,F 30 1 2,L 31 30,N 32 31,bL 33 29 32] [29,30,31,32] 33 (.skip) (.exit 0) <|
 Q (.block 1 <| R [F 36 1 2,L 37 36,V 38 3,J 39 37 38 3,F 40 39 0,L 41 40,O 42 (.lenS (t 41)),bGk 43 42 80] [33,36,37,38,39,40,41,42] <|
 .cond (t 43) (R [O 2 (.mv (.k (.bool false)))] [1,3,43] <|
 .ret) (.skip)) <|
 r [V 34 3,bAk 35 34 1,V 3 35] [34,35,43]) <|
 Q (R [W 4 0] [3,33] <|
 .block 2 <| .loop <| E [V 44 4,F 45 1 3,L 46 45,N 47 46,bL 48 44 47] [44,45,46,47] 48 (.skip) (.exit 2) <|
 Q (.block 3 <| R [F 51 1 3,L 52 51,V 53 4,J 54 52 53 3,F 55 54 0,L 56 55,O 57 (.lenS (t 56)),bGk 58 57 80] [48,51,52,53,54,55,56,57] <|
 .cond (t 58) (R [O 2 (.mv (.k (.bool false)))] [1,4,58] <|
 .ret) (.skip)) <|
 r [V 49 4,bAk 50 49 1,V 4 50] [49,50,58]) <|
 Q (R [W 5 0] [4,48] <|
 .block 4 <| .loop <| E [V 59 5,F 60 1 4,L 61 60,N 62 61,bL 63 59 62] [59,60,61,62] 63 (.skip) (.exit 4) <|
 Q (.block 5 <| R [F 66 1 4,L 67 66,V 68 5,J 69 67 68 9,M 70 69 9,A 6 [o,z,z,z,z,z,e,e,o],S 6 70 9] [63,66,67,68,69,70] <|
 R [F 71 6 0,L 72 71,O 73 (.lenS (t 72)),bGk 74 73 80,V 75 74,H 75 (F 76 6 8),H 75 (L 77 76),H 75 (O 78 (.lenS (t 77))),H 75 (bGk 79 78 80),Po 80 75 79,V 81 80,H 81 (F 82 6 6),H 81 (L 83 82),H 81 (N 84 83),H 81 (bGk 85 84 50),Po 86 81 85,V 87 86,H 87 (F 88 6 7),H 87 (L 89 88),H 87 (N 90 89),H 87 (bGk 91 90 50),Po 92 87 91] [6,71,72,73,74,75,76,77,78,79,80,81,82,83,84,85,86,87,88,89,90,91] <|
 .cond (t 92) (R [O 2 (.mv (.k (.bool false)))] [1,5,92] <|
 .ret) (.skip)) <|
 r [V 64 5,bAk 65 64 1,V 5 65] [64,65,92]) <|
 R [O 2 (.mv (.k (.bool true)))] [1,5,63] <|
 .ret
theorem k_same_smallScope : fnOk Tryz.prog Tryz.f27 c_same_smallScope 93 1 [.t 2] = true := by kernel_rfl
abbrev u_same_smallScope := Tryz.func27
def c_same_TinyLaw : FC :=
 R [A 2 [e,e,e]] [] <|
 R [O 6 (.build [z,z] [(0,1),(1,1)] [K 0,K 109573]),A 3 [z,z],S 3 6 2] [6] <|
 R [O 7 (.build [z,z] [(0,1)] [K 3]),A 4 [z,z],S 4 7 2] [7] <|
 R [M 8 3 2,V 9 0,O 10 (.build [o,z,z,z,z,z,e,e,o] [(0,1),(2,1),(4,2),(7,1)] [.k (.str [98,97,115,101]),K (-1),t 8,t 9]),A 5 [o,z,z,z,z,z,e,e,o],S 5 10 9] [0,3,8,9,10] <|
 R [M 11 4 2,O 12 (.build [o,z,z] [(0,1),(1,2)] [.k (.str [97]),t 11]),O 13 (.buildSl [o,z,z] 1 [0] [t 12]),M 14 4 2,O 15 (.build [o,z,z] [(0,1),(1,2)] [.k (.str [100]),t 14]),O 16 (.buildSl [o,z,z] 1 [0] [t 15]),O 17 (.loadM true (t 5) 9 true),O 18 (.buildSl [o,z,z,z,z,z,e,e,o] 1 [0] [t 17]),O 19 (.build [o,z,e,e,e] [(0,1),(1,1),(2,1),(3,1),(4,1)] [.k (.str [104,111,117,115,101]),K (-1),t 13,t 16,t 18]),O 20 (.buildSl [o,z,e,e,e] 1 [0] [t 19]),O 21 (.build [e,e,e] [(2,1)] [t 20]),S 2 21 3] [4,5,11,12,13,14,15,16,17,18,19,20,21] <|
 .ret
theorem k_same_TinyLaw : fnOk Tryz.prog Tryz.f28 c_same_TinyLaw 22 1 [.c 2 3 true] = true := by kernel_rfl
abbrev u_same_TinyLaw := Tryz.func28
def c_law_Validate : FC :=
 R [X 1 0,A 2 [z,z,z,z]] [0] <|
 R [O 3 (.mv (.k (.arr [])))] [] <|
 I [F 16 1 0,L 17 16,N 18 17,bGk 19 18 8] [16,17,18] 19 (R [C 20 n_law_bad [K 4,K 1,K 8,K 0],S 2 20 4] [1,3,19,20] <|
 .ret) <|
 Q (R [F 21 1 0,L 22 21,N 23 22,W 24 0] [19] <|
 .block 0 <| .loop <| R [bL 25 24 23] [] <|
 Q (.cond (t 25) (.skip) (.exit 0)) <|
 Q (.block 1 <| R [V 26 24,J 27 22 24 2,M 28 27 2,A 5 [o,e],V 4 26,S 5 28 2] [25,26,27,28] <|
 Q (R [F 29 5 0,L 30 29,V 31 3,V 32 4,B 33 n_law_name [t 30,t 31,K 1,t 32],A 6 [z,z,z,z],S 6 33 4] [29,30,31,32,33] <|
 R [F 34 6 0,L 35 34,bNk 36 35 0] [34,35] <|
 .cond (t 36) (R [M 37 6 4,S 2 37 4] [1,3,4,5,6,21,22,23,24,36,37] <|
 .ret) (.skip)) <|
 R [V 38 3,F 39 5 0,L 40 39,O 41 (.buildSl [o] 1 [0] [t 40]),O 42 (.app (t 38) (t 41) 1 16),O 3 (.mvP true (t 42))] [6,36,38,39,40,41,42] <|
 R [O 43 (.loadM true (t 5) 2 true),V 44 4,C 45 n_law_enum [t 43,t 44],A 7 [z,z,z,z],S 7 45 4] [4,5,43,44,45] <|
 R [F 46 7 0,L 47 46,bNk 48 47 0] [46,47] <|
 .cond (t 48) (R [M 49 7 4,S 2 49 4] [1,3,7,21,22,23,24,48,49] <|
 .ret) (.skip)) <|
 r [bAk 50 24 1,V 24 50] [7,48,50]) <|
 I [F 51 1 1,L 52 51,N 53 52,bGk 54 53 8] [21,22,23,24,25,51,52,53] 54 (R [C 55 n_law_bad [K 4,K 2,K 8,K 0],S 2 55 4] [1,3,54,55] <|
 .ret) <|
 Q (R [F 56 1 1,L 57 56,N 58 57,W 59 0] [54] <|
 .block 2 <| .loop <| R [bL 60 59 58] [] <|
 Q (.cond (t 60) (.skip) (.exit 2)) <|
 Q (.block 3 <| R [V 61 59,J 62 57 59 6,M 63 62 6,A 9 [o,z,z,z,z,e],V 8 61,S 9 63 6] [60,61,62,63] <|
 Q (R [F 64 9 0,L 65 64,V 66 3,V 67 8,B 68 n_law_name [t 65,t 66,K 2,t 67],A 10 [z,z,z,z],S 10 68 4] [64,65,66,67,68] <|
 R [F 69 10 0,L 70 69,bNk 71 70 0] [69,70] <|
 .cond (t 71) (R [M 72 10 4,S 2 72 4] [1,3,8,9,10,56,57,58,59,71,72] <|
 .ret) (.skip)) <|
 R [V 73 3,F 74 9 0,L 75 74,O 76 (.buildSl [o] 1 [0] [t 75]),O 77 (.app (t 73) (t 76) 1 16),O 3 (.mvP true (t 77))] [10,71,73,74,75,76,77] <|
 R [O 78 (.loadM true (t 9) 6 true),V 79 8,F 80 1 0,L 81 80,C 82 n_law_rows [t 78,t 79,t 81],A 11 [z,z,z,z],S 11 82 4] [8,9,78,79,80,81,82] <|
 R [F 83 11 0,L 84 83,bNk 85 84 0] [83,84] <|
 .cond (t 85) (R [M 86 11 4,S 2 86 4] [1,3,11,56,57,58,59,85,86] <|
 .ret) (.skip)) <|
 r [bAk 87 59 1,V 59 87] [11,85,87]) <|
 I [F 88 1 2,L 89 88,N 90 89,bGk 91 90 4] [56,57,58,59,60,88,89,90] 91 (R [C 92 n_law_bad [K 4,K 3,K 4,K 0],S 2 92 4] [1,3,91,92] <|
 .ret) <|
 Q (R [F 93 1 2,L 94 93,N 95 94,W 96 0] [91] <|
 .block 4 <| .loop <| R [bL 97 96 95] [] <|
 Q (.cond (t 97) (.skip) (.exit 4)) <|
 Q (.block 5 <| R [V 98 96,J 99 94 96 5,M 100 99 5,A 13 [o,z,e,e,e],V 12 98,S 13 100 5] [97,98,99,100] <|
 Q (R [F 101 13 0,L 102 101,V 103 3,V 104 12,B 105 n_law_name [t 102,t 103,K 3,t 104],A 14 [z,z,z,z],S 14 105 4] [101,102,103,104,105] <|
 R [F 106 14 0,L 107 106,bNk 108 107 0] [106,107] <|
 .cond (t 108) (R [M 109 14 4,S 2 109 4] [1,3,12,13,14,93,94,95,96,108,109] <|
 .ret) (.skip)) <|
 R [V 110 3,F 111 13 0,L 112 111,O 113 (.buildSl [o] 1 [0] [t 112]),O 114 (.app (t 110) (t 113) 1 16),O 3 (.mvP true (t 114))] [13,14,108,110,111,112,113,114] <|
 R [M 115 1 3,V 116 12,C 117 n_law_scope [t 115,t 116],A 15 [z,z,z,z],S 15 117 4] [12,115,116,117] <|
 R [F 118 15 0,L 119 118,bNk 120 119 0] [118,119] <|
 .cond (t 120) (R [M 121 15 4,S 2 121 4] [1,3,15,93,94,95,96,120,121] <|
 .ret) (.skip)) <|
 r [bAk 122 96 1,V 96 122] [15,120,122]) <|
 R [O 123 (.build [z,z,z,z] [] []),S 2 123 4] [1,3,93,94,95,96,97,123] <|
 .ret
theorem k_law_Validate : fnOk Tryz.prog Tryz.f11 c_law_Validate 124 1 [.c 2 4 true] = true := by kernel_rfl
abbrev u_law_Validate := Tryz.func11
def c_law_enums : FC :=
 R [O 2 (.mv (.k (.arr [])))] [2] <|
 R [O 3 (.mv (.k (.arr [])))] [] <|
 Q (R [V 6 0,N 7 6,W 8 0] [] <|
 .block 0 <| .loop <| R [bL 9 8 7] [] <|
 Q (.cond (t 9) (.skip) (.exit 0)) <|
 Q (.block 1 <| R [J 10 6 8 2,M 11 10 2,A 5 [o,e],S 5 11 2] [9,10,11] <|
 d 8 [V 12 3,F 13 5 0,L 14 13,F 15 5 1,L 16 15,C 17 n_slices_Clone_string_string [t 16],O 18 (.build [o,e] [(0,1),(1,1)] [t 14,t 17]),O 19 (.buildSl [o,e] 1 [0] [t 18]),O 20 (.app (t 12) (t 19) 2 40),O 3 (.mvP true (t 20))] [5,12,13,14,15,16,17,18,19,20]) <|
 r [bAk 21 8 1,V 8 21] [21]) <|
 R [V 22 3,V 2 22] [0,6,7,8,9] <|
 .ret
theorem k_law_enums : fnOk Tryz.prog Tryz.f40 c_law_enums 23 1 [.t 2] = true := by kernel_rfl
abbrev u_law_enums := Tryz.func40
def c_law_tables : FC :=
 R [O 2 (.mv (.k (.arr [])))] [2] <|
 R [O 3 (.mv (.k (.arr [])))] [] <|
 Q (R [V 6 0,N 7 6,W 8 0] [] <|
 .block 0 <| .loop <| R [bL 9 8 7] [] <|
 Q (.cond (t 9) (.skip) (.exit 0)) <|
 Q (.block 1 <| R [J 10 6 8 6,M 11 10 6,A 5 [o,z,z,z,z,e],S 5 11 6] [9,10,11] <|
 R [F 12 5 5,L 13 12,C 14 n_slices_Clone_api_Row_api_Row [t 13],F 15 5 5,S 15 14 1] [12,13,14,15] <|
 r [V 16 3,O 17 (.loadM true (t 5) 6 true),O 18 (.buildSl [o,z,z,z,z,e] 1 [0] [t 17]),O 19 (.app (t 16) (t 18) 6 72),O 3 (.mvP true (t 19))] [5,16,17,18,19]) <|
 r [bAk 20 8 1,V 8 20] [20]) <|
 R [V 21 3,V 2 21] [0,6,7,8,9] <|
 .ret
theorem k_law_tables : fnOk Tryz.prog Tryz.f41 c_law_tables 22 1 [.t 2] = true := by kernel_rfl
abbrev u_law_tables := Tryz.func41
def c_slices_Clone_api_Field_api_Field : FC :=
 R [O 2 (.mv (.k (.arr [])))] [2] <|
 I [V 3 0,⟨4,.isNil false (t 3),none⟩] [3] 4 (R [O 2 (.mv (.k (.arr [])))] [0,4] <|
 .ret) <|
 R [O 5 (.buildSl [o,z,z] 0 [] []),V 6 0,O 7 (.app (t 5) (t 6) 3 32),O 2 (.mvP true (t 7))] [0,4,5,6,7] <|
 .ret
theorem k_slices_Clone_api_Field_api_Field : fnOk Tryz.prog Tryz.f57 c_slices_Clone_api_Field_api_Field 8 1 [.t 2] = true := by kernel_rfl
abbrev u_slices_Clone_api_Field_api_Field := Tryz.func57
def c_slices_Clone_api_Node_api_Node : FC :=
 R [O 2 (.mv (.k (.arr [])))] [2] <|
 I [V 3 0,⟨4,.isNil false (t 3),none⟩] [3] 4 (R [O 2 (.mv (.k (.arr [])))] [0,4] <|
 .ret) <|
 R [O 5 (.buildSl [z,z] 0 [] []),V 6 0,O 7 (.app (t 5) (t 6) 2 16),O 2 (.mvP true (t 7))] [0,4,5,6,7] <|
 .ret
theorem k_slices_Clone_api_Node_api_Node : fnOk Tryz.prog Tryz.f58 c_slices_Clone_api_Node_api_Node 8 1 [.t 2] = true := by kernel_rfl
abbrev u_slices_Clone_api_Node_api_Node := Tryz.func58
def c_slices_EqualFunc_api_Enum_api_Enum_api_Enum_api_Enum : FC :=
 R [O 6 (.mv (.k (.bool false)))] [6] <|
 I [V 10 0,N 11 10,V 12 1,N 13 12,bN 14 11 13] [10,11,12,13] 14 (R [O 6 (.mv (.k (.bool false)))] [0,1,2,14] <|
 .ret) <|
 Q (R [V 15 0,N 16 15,W 17 0] [14] <|
 .block 0 <| .loop <| R [bL 18 17 16] [] <|
 Q (.cond (t 18) (.skip) (.exit 0)) <|
 Q (.block 1 <| R [V 19 17,J 20 15 17 2,M 21 20 2,A 8 [o,e],V 7 19,S 8 21 2] [18,19,20,21] <|
 R [V 22 1,V 23 7,J 24 22 23 2,M 25 24 2,A 9 [o,e],S 9 25 2] [7,22,23,24,25] <|
 R [V 26 2,O 27 (.loadM true (t 8) 2 true),O 28 (.loadM true (t 9) 2 true),⟨29,.callV (t 26) [t 27,t 28],none⟩,U 30 29] [8,9,26,27,28,29] <|
 .cond (t 30) (R [O 6 (.mv (.k (.bool false)))] [0,1,2,15,16,17,30] <|
 .ret) (.skip)) <|
 r [bAk 31 17 1,V 17 31] [30,31]) <|
 R [O 6 (.mv (.k (.bool true)))] [0,1,2,15,16,17,18] <|
 .ret
theorem k_slices_EqualFunc_api_Enum_api_Enum_api_Enum_api_Enum : fnOk Tryz.prog Tryz.f59 c_slices_EqualFunc_api_Enum_api_Enum_api_Enum_api_Enum 32 3 [.t 6] = true := by kernel_rfl
abbrev u_slices_EqualFunc_api_Enum_api_Enum_api_Enum_api_Enum := Tryz.func59
def c_law_sameEnum : FC :=
 R [X 2 0,X 3 1,O 4 (.mv (.k (.bool false)))] [0,1,4] <|
 R [F 5 2 0,L 6 5,F 7 3 0,L 8 7,bE 9 6 8,V 10 9,G 10 (F 11 2 1),G 10 (L 12 11),G 10 (F 13 3 1),G 10 (L 14 13),G 10 (C 15 n_slices_Equal_string_string [t 12,t 14]),Pa 16 10 15,V 4 16] [2,3,5,6,7,8,9,10,11,12,13,14,15,16] <|
 .ret
theorem k_law_sameEnum : fnOk Tryz.prog Tryz.f60 c_law_sameEnum 17 2 [.t 4] = true := by kernel_rfl
abbrev u_law_sameEnum := Tryz.func60
def c_slices_EqualFunc_api_Table_api_Table_api_Table_api_Table : FC :=
 R [O 6 (.mv (.k (.bool false)))] [6] <|
 I [V 10 0,N 11 10,V 12 1,N 13 12,bN 14 11 13] [10,11,12,13] 14 (R [O 6 (.mv (.k (.bool false)))] [0,1,2,14] <|
 .ret) <|
 Q (R [V 15 0,N 16 15,W 17 0] [14] <|
 .block 0 <| .loop <| R [bL 18 17 16] [] <|
 Q (.cond (t 18) (.skip) (.exit 0)) <|
 Q (.block 1 <| R [V 19 17,J 20 15 17 6,M 21 20 6,A 8 [o,z,z,z,z,e],V 7 19,S 8 21 6] [18,19,20,21] <|
 R [V 22 1,V 23 7,J 24 22 23 6,M 25 24 6,A 9 [o,z,z,z,z,e],S 9 25 6] [7,22,23,24,25] <|
 R [V 26 2,O 27 (.loadM true (t 8) 6 true),O 28 (.loadM true (t 9) 6 true),⟨29,.callV (t 26) [t 27,t 28],none⟩,U 30 29] [8,9,26,27,28,29] <|
 .cond (t 30) (R [O 6 (.mv (.k (.bool false)))] [0,1,2,15,16,17,30] <|
 .ret) (.skip)) <|
 r [bAk 31 17 1,V 17 31] [30,31]) <|
 R [O 6 (.mv (.k (.bool true)))] [0,1,2,15,16,17,18] <|
 .ret
theorem k_slices_EqualFunc_api_Table_api_Table_api_Table_api_Table : fnOk Tryz.prog Tryz.f61 c_slices_EqualFunc_api_Table_api_Table_api_Table_api_Table 32 3 [.t 6] = true := by kernel_rfl
abbrev u_slices_EqualFunc_api_Table_api_Table_api_Table_api_Table := Tryz.func61
def c_law_sameTable : FC :=
 R [X 2 0,X 3 1,O 4 (.mv (.k (.bool false)))] [0,1,4] <|
 R [F 5 2 0,L 6 5,F 7 3 0,L 8 7,bE 9 6 8,V 10 9,G 10 (F 11 2 1),G 10 (M 12 11 2),G 10 (F 13 3 1),G 10 (M 14 13 2),G 10 (O 15 (.eqS false [0,0] (t 12) (t 14))),Pa 16 10 15,V 17 16,G 17 (F 18 2 3),G 17 (M 19 18 2),G 17 (F 20 3 3),G 17 (M 21 20 2),G 17 (O 22 (.eqS false [0,0] (t 19) (t 21))),Pa 23 17 22,V 24 23,G 24 (F 25 2 5),G 24 (L 26 25),G 24 (F 27 3 5),G 24 (L 28 27),G 24 (C 29 n_slices_Equal_api_Row_api_Row [t 26,t 28]),Pa 30 24 29,V 4 30] [2,3,5,6,7,8,9,10,11,12,13,14,15,16,17,18,19,20,21,22,23,24,25,26,27,28,29,30] <|
 .ret
theorem k_law_sameTable : fnOk Tryz.prog Tryz.f62 c_law_sameTable 31 2 [.t 4] = true := by kernel_rfl
abbrev u_law_sameTable := Tryz.func62
def c_slices_EqualFunc_api_Scope_api_Scope_api_Scope_api_Scope : FC :=
 R [O 6 (.mv (.k (.bool false)))] [6] <|
 I [V 10 0,N 11 10,V 12 1,N 13 12,bN 14 11 13] [10,11,12,13] 14 (R [O 6 (.mv (.k (.bool false)))] [0,1,2,14] <|
 .ret) <|
 Q (R [V 15 0,N 16 15,W 17 0] [14] <|
 .block 0 <| .loop <| R [bL 18 17 16] [] <|
 Q (.cond (t 18) (.skip) (.exit 0)) <|
 Q (.block 1 <| R [V 19 17,J 20 15 17 5,M 21 20 5,A 8 [o,z,e,e,e],V 7 19,S 8 21 5] [18,19,20,21] <|
 R [V 22 1,V 23 7,J 24 22 23 5,M 25 24 5,A 9 [o,z,e,e,e],S 9 25 5] [7,22,23,24,25] <|
 R [V 26 2,O 27 (.loadM true (t 8) 5 true),O 28 (.loadM true (t 9) 5 true),⟨29,.callV (t 26) [t 27,t 28],none⟩,U 30 29] [8,9,26,27,28,29] <|
 .cond (t 30) (R [O 6 (.mv (.k (.bool false)))] [0,1,2,15,16,17,30] <|
 .ret) (.skip)) <|
 r [bAk 31 17 1,V 17 31] [30,31]) <|
 R [O 6 (.mv (.k (.bool true)))] [0,1,2,15,16,17,18] <|
 .ret
theorem k_slices_EqualFunc_api_Scope_api_Scope_api_Scope_api_Scope : fnOk Tryz.prog Tryz.f63 c_slices_EqualFunc_api_Scope_api_Scope_api_Scope_api_Scope 32 3 [.t 6] = true := by kernel_rfl
abbrev u_slices_EqualFunc_api_Scope_api_Scope_api_Scope_api_Scope := Tryz.func63
def c_law_sameScope : FC :=
 R [X 2 0,X 3 1,O 4 (.mv (.k (.bool false)))] [0,1,4] <|
 R [F 5 2 0,L 6 5,F 7 3 0,L 8 7,bE 9 6 8,V 10 9,G 10 (F 11 2 1),G 10 (L 12 11),G 10 (F 13 3 1),G 10 (L 14 13),G 10 (bE 15 12 14),Pa 16 10 15,V 17 16,G 17 (F 18 2 2),G 17 (L 19 18),G 17 (F 20 3 2),G 17 (L 21 20),G 17 (C 22 n_slices_Equal_api_Field_api_Field [t 19,t 21]),Pa 23 17 22,V 24 23,G 24 (F 25 2 3),G 24 (L 26 25),G 24 (F 27 3 3),G 24 (L 28 27),G 24 (C 29 n_slices_Equal_api_Field_api_Field [t 26,t 28]),Pa 30 24 29,V 31 30,G 31 (F 32 2 4),G 31 (L 33 32),G 31 (F 34 3 4),G 31 (L 35 34),G 31 (C 36 n_slices_EqualFunc_api_Rule_api_Rule_api_Rule_api_Rule [t 33,t 35,.k (.fn n_law_sameRule [])]),Pa 37 31 36,V 4 37] [2,3,5,6,7,8,9,10,11,12,13,14,15,16,17,18,19,20,21,22,23,24,25,26,27,28,29,30,31,32,33,34,35,36,37] <|
 .ret
theorem k_law_sameScope : fnOk Tryz.prog Tryz.f64 c_law_sameScope 38 2 [.t 4] = true := by kernel_rfl
abbrev u_law_sameScope := Tryz.func64
def c_same_Law : FC :=
 R [X 2 0,X 3 1,O 4 (.mv (.k (.bool false)))] [0,1,4] <|
 R [F 5 2 0,L 6 5,F 7 3 0,L 8 7,C 9 n_same_Enums [t 6,t 8],V 10 9,G 10 (F 11 2 1),G 10 (L 12 11),G 10 (F 13 3 1),G 10 (L 14 13),G 10 (C 15 n_same_Tables [t 12,t 14]),Pa 16 10 15,V 17 16,G 17 (F 18 2 2),G 17 (L 19 18),G 17 (F 20 3 2),G 17 (L 21 20),G 17 (C 22 n_same_Scopes [t 19,t 21]),Pa 23 17 22,V 4 23] [2,3,5,6,7,8,9,10,11,12,13,14,15,16,17,18,19,20,21,22,23] <|
 .ret
theorem k_same_Law : fnOk Tryz.prog Tryz.f65 c_same_Law 24 2 [.t 4] = true := by kernel_rfl
abbrev u_same_Law := Tryz.func65
def c_law_bad : FC :=
 R [A 8 [z,z,z,z]] [] <|
 R [V 9 0,V 10 1,V 11 2,V 12 3,O 13 (.build [z,z,z,z] [(0,1),(1,1),(2,1),(3,1)] [t 9,t 10,t 11,t 12]),S 8 13 4] [0,1,2,3,9,10,11,12,13] <|
 .ret
theorem k_law_bad : fnOk Tryz.prog Tryz.f29 c_law_bad 14 4 [.c 8 4 true] = true := by kernel_rfl
abbrev u_law_bad := Tryz.func29
def c_law_name : FC :=
 R [A 8 [z,z,z,z]] [] <|
 I [V 9 0,C 10 n_lexer_IsIdentifier [t 9],U 11 10] [9,10] 11 (R [V 12 2,V 13 3,C 14 n_law_bad [K 2,t 12,t 13,K 0],S 8 14 4] [0,1,2,3,11,12,13,14] <|
 .ret) <|
 I [V 15 1,V 16 0,C 17 n_slices_Contains_string_string [t 15,t 16]] [0,1,11,15,16] 17 (R [V 18 2,V 19 3,C 20 n_law_bad [K 7,t 18,t 19,K 0],S 8 20 4] [2,3,17,18,19,20] <|
 .ret) <|
 R [O 21 (.build [z,z,z,z] [] []),S 8 21 4] [2,3,17,21] <|
 .ret
theorem k_law_name : fnOk Tryz.prog Tryz.f30 c_law_name 22 4 [.c 8 4 true] = true := by kernel_rfl
abbrev u_law_name := Tryz.func30
def c_law_enum : FC :=
 R [X 2 0,A 4 [z,z,z,z]] [0] <|
 I [F 7 2 1,L 8 7,N 9 8,bEk 10 9 0] [7,8,9] 10 (R [V 11 1,C 12 n_law_bad [K 5,K 1,t 11,K 0],S 4 12 4] [1,2,10,11,12] <|
 .ret) <|
 I [F 13 2 1,L 14 13,N 15 14,bGk 16 15 16] [10,13,14,15] 16 (R [V 17 1,C 18 n_law_bad [K 4,K 1,t 17,K 116],S 4 18 4] [1,2,16,17,18] <|
 .ret) <|
 Q (R [F 19 2 1,L 20 19,N 21 20,W 22 0] [16] <|
 .block 0 <| .loop <| R [bL 23 22 21] [] <|
 Q (.cond (t 23) (.skip) (.exit 0)) <|
 Q (.block 1 <| R [V 24 22,J 25 20 22 1,L 26 25,V 5 24,V 6 26] [23,24,25,26] <|
 I [V 27 6,C 28 n_lexer_IsIdentifier [t 27],U 29 28] [27,28] 29 (R [V 30 1,V 31 5,O 32 (.bin .add (K 100) (t 31)),C 33 n_law_bad [K 2,K 1,t 30,t 32],S 4 33 4] [1,2,5,6,19,20,21,22,29,30,31,32,33] <|
 .ret) <|
 R [F 34 2 1,L 35 34,V 36 5,O 37 (.subSl (t 35) none (some (t 36)) 1),V 38 6,C 39 n_slices_Contains_string_string [t 37,t 38]] [6,29,34,35,36,37,38] <|
 .cond (t 39) (R [V 40 1,V 41 5,O 42 (.bin .add (K 100) (t 41)),C 43 n_law_bad [K 7,K 1,t 40,t 42],S 4 43 4] [1,2,5,19,20,21,22,39,40,41,42,43] <|
 .ret) (.skip)) <|
 r [bAk 44 22 1,V 22 44] [5,39,44]) <|
 R [O 45 (.build [z,z,z,z] [] []),S 4 45 4] [1,2,19,20,21,22,23,45] <|
 .ret
theorem k_law_enum : fnOk Tryz.prog Tryz.f31 c_law_enum 46 2 [.c 4 4 true] = true := by kernel_rfl
abbrev u_law_enum := Tryz.func31
def c_law_rows : FC :=
 R [X 3 0,A 6 [z,z,z,z]] [0] <|
 R [O 10 (.loadM true (t 3) 6 true),V 11 2,C 12 n_table_Validate [t 10,t 11],O 9 (.mvP true (t 12)),O 13 (.extract 9 0),O 14 (.extract 9 1),O 7 (.mvP true (t 13)),O 8 (.mvP true (t 14))] [2,3,9,10,11,12,13,14] <|
 Q (.block 0 <| R [V 16 8,bEk 17 16 0,V 15 17] [16,17] <|
 .cond (t 15) (R [O 18 (.build [z,z,z,z] [] []),S 6 18 4] [1,7,8,15,18] <|
 .ret) (R [V 20 7,bLk 21 20 0,V 19 21] [15,20,21] <|
 .cond (t 19) (R [V 22 8,V 23 1,C 24 n_law_bad [t 22,K 2,t 23,K 0],S 6 24 4] [1,7,8,19,22,23,24] <|
 .ret) (.skip))) <|
 R [V 25 8,V 26 1,V 27 7,O 28 (.bin .add (K 100) (t 27)),C 29 n_law_bad [t 25,K 2,t 26,t 28],S 6 29 4] [1,7,8,19,25,26,27,28,29] <|
 .ret
theorem k_law_rows : fnOk Tryz.prog Tryz.f32 c_law_rows 30 3 [.c 6 4 true] = true := by kernel_rfl
abbrev u_law_rows := Tryz.func32
def c_law_scope : FC :=
 R [X 2 0,A 4 [z,z,z,z]] [0] <|
 R [F 13 2 2,L 14 13,V 15 1,J 16 14 15 5,M 17 16 5,A 5 [o,z,e,e,e],S 5 17 5] [13,14,15,16,17] <|
 Q (R [F 18 5 1,L 19 18,V 6 19] [18,19] <|
 R [V 20 6,bNk 21 20 (-1),V 22 21,G 22 (V 23 6),G 22 (bLk 24 23 0),G 22 (V 25 24),H 25 (V 26 6),H 25 (V 27 1),H 25 (bH 28 26 27),G 22 (Po 29 25 28),G 22 (V 30 29),H 30 (F 31 2 2),H 30 (L 32 31),H 30 (V 33 6),H 30 (J 34 32 33 5),H 30 (F 35 34 1),H 30 (L 36 35),H 30 (bNk 37 36 (-1)),G 22 (Po 38 30 37),Pa 39 22 38] [6,20,21,22,23,24,25,26,27,28,29,30,31,32,33,34,35,36,37,38] <|
 .cond (t 39) (R [V 40 1,C 41 n_law_bad [K 6,K 3,t 40,K 0],S 4 41 4] [1,2,5,39,40,41] <|
 .ret) (.skip)) <|
 I [F 42 5 2,L 43 42,N 44 43,bGk 45 44 12] [39,42,43,44] 45 (R [V 46 1,C 47 n_law_bad [K 4,K 3,t 46,K 112],S 4 47 4] [1,2,5,45,46,47] <|
 .ret) <|
 I [F 48 5 3,L 49 48,N 50 49,bGk 51 50 12] [45,48,49,50] 51 (R [V 52 1,C 53 n_law_bad [K 4,K 3,t 52,K 212],S 4 53 4] [1,2,5,51,52,53] <|
 .ret) <|
 Q (R [F 54 5 2,L 55 54,F 56 2 0,L 57 56,V 58 1,C 59 n_law_fields [t 55,.k e,t 57,t 58,K 100],A 7 [z,z,z,z],S 7 59 4] [51,54,55,56,57,58,59] <|
 R [F 60 7 0,L 61 60,bNk 62 61 0] [60,61] <|
 .cond (t 62) (R [M 63 7 4,S 4 63 4] [1,2,5,7,62,63] <|
 .ret) (.skip)) <|
 Q (D 11 [F 64 5 3,L 65 64,F 66 5 2,L 67 66,C 68 n_law_names [t 67],F 69 2 0,L 70 69,V 71 1,B 72 n_law_fields [t 65,t 68,t 70,t 71,K 200],A 8 [z,z,z,z],⟨8,.storeW (t 72) 4,none⟩] [7,62,64,65,66,67,68,69,70,71,72] <|
 R [F 73 8 0,L 74 73,bNk 75 74 0] [73,74] <|
 .cond (t 75) (R [M 76 8 4,S 4 76 4] [1,2,5,8,75,76] <|
 .ret) (.skip)) <|
 R [O 77 (.loadM true (t 2) 3 true),V 78 1,C 79 n_law_Signature [t 77,t 78],A 9 [e,e,e,e,e,.bool false],O 0 (.storeS (t 9) (t 79) 6)] [2,8,75,77,78,79] <|
 Q (R [F 80 5 4,L 81 80,N 82 81,W 83 0] [80,81] <|
 .block 0 <| .loop <| R [bL 84 83 82] [] <|
 Q (.cond (t 84) (.skip) (.exit 0)) <|
 Q (.block 1 <| R [V 85 83,V 10 85] [84,85] <|
 R [M 86 5 5,V 87 10,M 88 9 6,C 89 n_law_rule [t 86,t 87,t 88],O 11 (.mvP true (t 89))] [86,87,88,89] <|
 R [V 90 11,bNk 91 90 0] [90] <|
 .cond (t 91) (R [V 92 11,V 93 1,V 94 10,O 95 (.bin .add (K 300) (t 94)),C 96 n_law_bad [t 92,K 3,t 93,t 95],S 4 96 4] [1,5,9,10,11,82,83,91,92,93,94,95,96] <|
 .ret) (.skip)) <|
 r [bAk 97 83 1,V 83 97] [10,11,91,97]) <|
 Q (R [F 98 5 3,L 99 98,N 100 99,W 101 0] [9,82,83,84,98,99] <|
 .block 2 <| .loop <| R [bL 102 101 100] [] <|
 Q (.cond (t 102) (.skip) (.exit 2)) <|
 Q (.block 3 <| R [V 103 101,V 12 103] [102,103] <|
 R [M 104 5 5,V 105 12,C 106 n_deps_Transitive [t 104,t 105],V 107 12,B 108 n_slices_Contains_int_int [t 106,t 107]] [104,105,106,107] <|
 .cond (t 108) (R [V 109 1,V 110 12,O 111 (.bin .add (K 200) (t 110)),C 112 n_law_bad [K 9,K 3,t 109,t 111],S 4 112 4] [1,5,12,100,101,108,109,110,111,112] <|
 .ret) (.skip)) <|
 r [bAk 113 101 1,V 101 113] [12,108,113]) <|
 R [O 114 (.build [z,z,z,z] [] []),S 4 114 4] [1,5,100,101,102,114] <|
 .ret
theorem k_law_scope : fnOk Tryz.prog Tryz.f33 c_law_scope 115 2 [.c 4 4 true] = true := by kernel_rfl
abbrev u_law_scope := Tryz.func33
def c_slices_Clone_string_string : FC :=
 R [O 2 (.mv (.k (.arr [])))] [2] <|
 I [V 3 0,⟨4,.isNil false (t 3),none⟩] [3] 4 (R [O 2 (.mv (.k (.arr [])))] [0,4] <|
 .ret) <|
 R [O 5 (.buildSl [o] 0 [] []),V 6 0,O 7 (.app (t 5) (t 6) 1 16),O 2 (.mvP true (t 7))] [0,4,5,6,7] <|
 .ret
theorem k_slices_Clone_string_string : fnOk Tryz.prog Tryz.f66 c_slices_Clone_string_string 8 1 [.t 2] = true := by kernel_rfl
abbrev u_slices_Clone_string_string := Tryz.func66
def c_slices_Clone_api_Row_api_Row : FC :=
 R [O 2 (.mv (.k (.arr [])))] [2] <|
 I [V 3 0,⟨4,.isNil false (t 3),none⟩] [3] 4 (R [O 2 (.mv (.k (.arr [])))] [0,4] <|
 .ret) <|
 R [O 5 (.buildSl [z,z,z,z,z] 0 [] []),V 6 0,O 7 (.app (t 5) (t 6) 5 40),O 2 (.mvP true (t 7))] [0,4,5,6,7] <|
 .ret
theorem k_slices_Clone_api_Row_api_Row : fnOk Tryz.prog Tryz.f84 c_slices_Clone_api_Row_api_Row 8 1 [.t 2] = true := by kernel_rfl
abbrev u_slices_Clone_api_Row_api_Row := Tryz.func84
def c_slices_Equal_string_string : FC :=
 R [O 4 (.mv (.k (.bool false)))] [4] <|
 I [V 6 0,N 7 6,V 8 1,N 9 8,bN 10 7 9] [6,7,8,9] 10 (R [O 4 (.mv (.k (.bool false)))] [0,1,10] <|
 .ret) <|
 Q (R [V 11 0,N 12 11,W 13 0] [10,11] <|
 .block 0 <| .loop <| R [bL 14 13 12] [] <|
 Q (.cond (t 14) (.skip) (.exit 0)) <|
 Q (.block 1 <| R [V 15 13,V 5 15] [14,15] <|
 D 9 [V 16 0,V 17 5,J 18 16 17 1,L 19 18,V 20 1,V 21 5,J 22 20 21 1,L 23 22,bN 24 19 23] [5,16,17,18,19,20,21,22,23] <|
 .cond (t 24) (R [O 4 (.mv (.k (.bool false)))] [0,1,12,13,24] <|
 .ret) (.skip)) <|
 r [bAk 25 13 1,V 13 25] [24,25]) <|
 R [O 4 (.mv (.k (.bool true)))] [0,1,12,13,14] <|
 .ret
theorem k_slices_Equal_string_string : fnOk Tryz.prog Tryz.f93 c_slices_Equal_string_string 26 2 [.t 4] = true := by kernel_rfl
abbrev u_slices_Equal_string_string := Tryz.func93
def c_slices_Equal_api_Row_api_Row : FC :=
 R [O 4 (.mv (.k (.bool false)))] [4] <|
 I [V 6 0,N 7 6,V 8 1,N 9 8,bN 10 7 9] [6,7,8,9] 10 (R [O 4 (.mv (.k (.bool false)))] [0,1,10] <|
 .ret) <|
 Q (R [V 11 0,N 12 11,W 13 0] [10,11] <|
 .block 0 <| .loop <| R [bL 14 13 12] [] <|
 Q (.cond (t 14) (.skip) (.exit 0)) <|
 Q (.block 1 <| R [V 15 13,V 5 15] [14,15] <|
 D 9 [V 16 0,V 17 5,J 18 16 17 5,M 19 18 5,V 20 1,V 21 5,J 22 20 21 5,M 23 22 5,O 24 (.eqS true [0,0,0,0,0] (t 19) (t 23))] [5,16,17,18,19,20,21,22,23] <|
 .cond (t 24) (R [O 4 (.mv (.k (.bool false)))] [0,1,12,13,24] <|
 .ret) (.skip)) <|
 r [bAk 25 13 1,V 13 25] [24,25]) <|
 R [O 4 (.mv (.k (.bool true)))] [0,1,12,13,14] <|
 .ret
theorem k_slices_Equal_api_Row_api_Row : fnOk Tryz.prog Tryz.f94 c_slices_Equal_api_Row_api_Row 26 2 [.t 4] = true := by kernel_rfl
abbrev u_slices_Equal_api_Row_api_Row := Tryz.func94
def c_slices_Equal_api_Field_api_Field : FC :=
 R [O 4 (.mv (.k (.bool false)))] [4] <|
 I [V 6 0,N 7 6,V 8 1,N 9 8,bN 10 7 9] [6,7,8,9] 10 (R [O 4 (.mv (.k (.bool false)))] [0,1,10] <|
 .ret) <|
 Q (R [V 11 0,N 12 11,W 13 0] [10,11] <|
 .block 0 <| .loop <| R [bL 14 13 12] [] <|
 Q (.cond (t 14) (.skip) (.exit 0)) <|
 Q (.block 1 <| R [V 15 13,V 5 15] [14,15] <|
 D 9 [V 16 0,V 17 5,J 18 16 17 3,M 19 18 3,V 20 1,V 21 5,J 22 20 21 3,M 23 22 3,O 24 (.eqS true [2,0,0] (t 19) (t 23))] [5,16,17,18,19,20,21,22,23] <|
 .cond (t 24) (R [O 4 (.mv (.k (.bool false)))] [0,1,12,13,24] <|
 .ret) (.skip)) <|
 r [bAk 25 13 1,V 13 25] [24,25]) <|
 R [O 4 (.mv (.k (.bool true)))] [0,1,12,13,14] <|
 .ret
theorem k_slices_Equal_api_Field_api_Field : fnOk Tryz.prog Tryz.f95 c_slices_Equal_api_Field_api_Field 26 2 [.t 4] = true := by kernel_rfl
abbrev u_slices_Equal_api_Field_api_Field := Tryz.func95
def c_slices_EqualFunc_api_Rule_api_Rule_api_Rule_api_Rule : FC :=
 R [O 6 (.mv (.k (.bool false)))] [6] <|
 I [V 10 0,N 11 10,V 12 1,N 13 12,bN 14 11 13] [10,11,12,13] 14 (R [O 6 (.mv (.k (.bool false)))] [0,1,2,14] <|
 .ret) <|
 Q (R [V 15 0,N 16 15,W 17 0] [14] <|
 .block 0 <| .loop <| R [bL 18 17 16] [] <|
 Q (.cond (t 18) (.skip) (.exit 0)) <|
 Q (.block 1 <| R [V 19 17,J 20 15 17 9,M 21 20 9,A 8 [o,z,z,z,z,z,e,e,o],V 7 19,S 8 21 9] [18,19,20,21] <|
 R [V 22 1,V 23 7,J 24 22 23 9,M 25 24 9,A 9 [o,z,z,z,z,z,e,e,o],S 9 25 9] [7,22,23,24,25] <|
 R [V 26 2,O 27 (.loadM true (t 8) 9 true),O 28 (.loadM true (t 9) 9 true),⟨29,.callV (t 26) [t 27,t 28],none⟩,U 30 29] [8,9,26,27,28,29] <|
 .cond (t 30) (R [O 6 (.mv (.k (.bool false)))] [0,1,2,15,16,17,30] <|
 .ret) (.skip)) <|
 r [bAk 31 17 1,V 17 31] [30,31]) <|
 R [O 6 (.mv (.k (.bool true)))] [0,1,2,15,16,17,18] <|
 .ret
theorem k_slices_EqualFunc_api_Rule_api_Rule_api_Rule_api_Rule : fnOk Tryz.prog Tryz.f96 c_slices_EqualFunc_api_Rule_api_Rule_api_Rule_api_Rule 32 3 [.t 6] = true := by kernel_rfl
abbrev u_slices_EqualFunc_api_Rule_api_Rule_api_Rule_api_Rule := Tryz.func96
def c_law_sameRule : FC :=
 R [X 2 0,X 3 1,O 4 (.mv (.k (.bool false)))] [0,1,4] <|
 R [F 5 2 0,L 6 5,F 7 3 0,L 8 7,bE 9 6 8,V 10 9,G 10 (F 11 2 1),G 10 (L 12 11),G 10 (F 13 3 1),G 10 (L 14 13),G 10 (bE 15 12 14),Pa 16 10 15,V 17 16,G 17 (F 18 2 2),G 17 (L 19 18),G 17 (F 20 3 2),G 17 (L 21 20),G 17 (bE 22 19 21),Pa 23 17 22,V 24 23,G 24 (F 25 2 3),G 24 (L 26 25),G 24 (F 27 3 3),G 24 (L 28 27),G 24 (bE 29 26 28),Pa 30 24 29,V 31 30,G 31 (F 32 2 4),G 31 (M 33 32 2),G 31 (F 34 3 4),G 31 (M 35 34 2),G 31 (O 36 (.eqS false [0,0] (t 33) (t 35))),Pa 37 31 36,V 38 37,G 38 (F 39 2 6),G 38 (L 40 39),G 38 (F 41 3 6),G 38 (L 42 41),G 38 (C 43 n_slices_Equal_api_Node_api_Node [t 40,t 42]),Pa 44 38 43,V 45 44,G 45 (F 46 2 7),G 45 (L 47 46),G 45 (F 48 3 7),G 45 (L 49 48),G 45 (C 50 n_slices_Equal_api_Node_api_Node [t 47,t 49]),Pa 51 45 50,V 52 51,G 52 (F 53 2 8),G 52 (L 54 53),G 52 (F 55 3 8),G 52 (L 56 55),G 52 (bE 57 54 56),Pa 58 52 57,V 4 58] [2,3,5,6,7,8,9,10,11,12,13,14,15,16,17,18,19,20,21,22,23,24,25,26,27,28,29,30,31,32,33,34,35,36,37,38,39,40,41,42,43,44,45,46,47,48,49,50,51,52,53,54,55,56,57,58] <|
 .ret
theorem k_law_sameRule : fnOk Tryz.prog Tryz.f97 c_law_sameRule 59 2 [.t 4] = true := by kernel_rfl
abbrev u_law_sameRule := Tryz.func97
def c_same_Enums : FC :=
 R [O 4 (.mv (.k (.bool false)))] [4] <|
 I [V 6 0,N 7 6,V 8 1,N 9 8,bN 10 7 9] [6,7,8,9] 10 (R [O 4 (.mv (.k (.bool false)))] [0,1,10] <|
 .ret) <|
 Q (R [W 5 0] [10] <|
 .block 0 <| .loop <| E [V 11 5,V 12 0,N 13 12,bL 14 11 13,V 15 14,G 15 (V 16 5),G 15 (V 17 1),G 15 (N 18 17),G 15 (bL 19 16 18),Pa 20 15 19] [11,12,13,14,15,16,17,18,19] 20 (.skip) (.exit 0) <|
 Q (.block 1 <| D 10 [V 23 0,V 24 5,J 25 23 24 2,M 26 25 2,V 27 1,V 28 5,J 29 27 28 2,M 30 29 2,C 31 n_same_Enum [t 26,t 30],U 32 31] [20,23,24,25,26,27,28,29,30,31] <|
 .cond (t 32) (R [O 4 (.mv (.k (.bool false)))] [0,1,5,32] <|
 .ret) (.skip)) <|
 r [V 21 5,bAk 22 21 1,V 5 22] [21,22,32]) <|
 R [O 4 (.mv (.k (.bool true)))] [0,1,5,20] <|
 .ret
theorem k_same_Enums : fnOk Tryz.prog Tryz.f37 c_same_Enums 33 2 [.t 4] = true := by kernel_rfl
abbrev u_same_Enums := Tryz.func37
def c_same_Tables : FC :=
 R [O 4 (.mv (.k (.bool false)))] [4] <|
 I [V 6 0,N 7 6,V 8 1,N 9 8,bN 10 7 9] [6,7,8,9] 10 (R [O 4 (.mv (.k (.bool false)))] [0,1,10] <|
 .ret) <|
 Q (R [W 5 0] [10] <|
 .block 0 <| .loop <| E [V 11 5,V 12 0,N 13 12,bL 14 11 13,V 15 14,G 15 (V 16 5),G 15 (V 17 1),G 15 (N 18 17),G 15 (bL 19 16 18),Pa 20 15 19] [11,12,13,14,15,16,17,18,19] 20 (.skip) (.exit 0) <|
 Q (.block 1 <| D 10 [V 23 0,V 24 5,J 25 23 24 6,M 26 25 6,V 27 1,V 28 5,J 29 27 28 6,M 30 29 6,C 31 n_same_Table [t 26,t 30],U 32 31] [20,23,24,25,26,27,28,29,30,31] <|
 .cond (t 32) (R [O 4 (.mv (.k (.bool false)))] [0,1,5,32] <|
 .ret) (.skip)) <|
 r [V 21 5,bAk 22 21 1,V 5 22] [21,22,32]) <|
 R [O 4 (.mv (.k (.bool true)))] [0,1,5,20] <|
 .ret
theorem k_same_Tables : fnOk Tryz.prog Tryz.f38 c_same_Tables 33 2 [.t 4] = true := by kernel_rfl
abbrev u_same_Tables := Tryz.func38
def c_same_Scopes : FC :=
 R [O 4 (.mv (.k (.bool false)))] [4] <|
 I [V 6 0,N 7 6,V 8 1,N 9 8,bN 10 7 9] [6,7,8,9] 10 (R [O 4 (.mv (.k (.bool false)))] [0,1,10] <|
 .ret) <|
 Q (R [W 5 0] [10] <|
 .block 0 <| .loop <| E [V 11 5,V 12 0,N 13 12,bL 14 11 13,V 15 14,G 15 (V 16 5),G 15 (V 17 1),G 15 (N 18 17),G 15 (bL 19 16 18),Pa 20 15 19] [11,12,13,14,15,16,17,18,19] 20 (.skip) (.exit 0) <|
 Q (.block 1 <| D 10 [V 23 0,V 24 5,J 25 23 24 5,M 26 25 5,V 27 1,V 28 5,J 29 27 28 5,M 30 29 5,C 31 n_same_Scope [t 26,t 30],U 32 31] [20,23,24,25,26,27,28,29,30,31] <|
 .cond (t 32) (R [O 4 (.mv (.k (.bool false)))] [0,1,5,32] <|
 .ret) (.skip)) <|
 r [V 21 5,bAk 22 21 1,V 5 22] [21,22,32]) <|
 R [O 4 (.mv (.k (.bool true)))] [0,1,5,20] <|
 .ret
theorem k_same_Scopes : fnOk Tryz.prog Tryz.f98 c_same_Scopes 33 2 [.t 4] = true := by kernel_rfl
abbrev u_same_Scopes := Tryz.func98
def c_lexer_IsIdentifier : FC :=
 R [O 2 (.mv (.k (.bool false)))] [2] <|
 R [V 3 0,O 4 (.bin .neq (t 3) (.k o)),V 5 4,G 5 (V 6 0),G 5 (O 7 (.lenS (t 6))),G 5 (bMk 8 7 16),Pa 9 5 8,V 10 9,G 10 (V 11 0),G 10 (O 12 (.index (t 11) (K 0))),G 10 (C 13 n_lexer_lower [t 12]),Pa 14 10 13,V 15 14,G 15 (V 16 0),G 15 (C 17 n_lexer_run [t 16,.k (.fn n_lexer_part [])]),G 15 (V 18 0),G 15 (O 19 (.lenS (t 18))),G 15 (bE 20 17 19),Pa 21 15 20,V 22 21,G 22 (V 23 0),G 22 (O 24 (.bin .add (.k (.str [32])) (t 23))),G 22 (O 25 (.bin .add (t 24) (.k (.str [32])))),G 22 (C 26 n_strings_Contains [.k (.str [32,105,102,32,116,104,101,110,32,101,108,115,101,32,111,114,32,97,110,100,32,110,111,116,32,116,114,117,101,32,102,97,108,115,101,32,116,111,100,97,121,32,115,104,97,114,101,32,100,105,118,32,114,111,117,110,100,32,109,105,110,32,109,97,120,32,112,108,117,115,32,109,111,110,116,104,115,32,100,97,121,115,32,121,101,97,114,115,32,121,101,97,114,32,109,111,110,116,104,32,116,97,98,32,98,97,110,100,32,99,111,117,110,116,32,115,117,109,32,97,108,108,32,97,110,121,32,109,111,115,116,32,101,110,117,109,32,116,97,98,108,101,32,114,111,119,32,115,99,111,112,101,32,109,101,109,98,101,114,115,32,105,110,112,117,116,32,100,101,102,32,114,117,108,101,32,111,102,32,111,118,101,114,32,112,114,105,111,32,102,114,111,109,32,116,111,32,101,110,100,32,119,104,101,110,32,105,115,32,115,114,99,32,98,111,111,108,32,105,110,116,32,109,111,110,101,121,32,114,97,116,101,32,100,97,116,101,32,100,111,119,110,32,117,112,32,122,101,114,111,32,97,119,97,121,32,104,97,108,102,32,101,118,101,110,32]),t 25]),G 22 (U 27 26),Pa 28 22 27,V 2 28] [0,3,4,5,6,7,8,9,10,11,12,13,14,15,16,17,18,19,20,21,22,23,24,25,26,27,28] <|
 .ret
theorem k_lexer_IsIdentifier : fnOk Tryz.prog Tryz.f69 c_lexer_IsIdentifier 29 1 [.t 2] = true := by kernel_rfl
abbrev u_lexer_IsIdentifier := Tryz.func69
def c_slices_Contains_string_string : FC :=
 R [O 4 (.mv (.k (.bool false)))] [4] <|
 R [V 5 0,V 6 1,C 7 n_slices_Index_string_string [t 5,t 6],bHk 8 7 0,V 4 8] [0,1,5,6,7,8] <|
 .ret
theorem k_slices_Contains_string_string : fnOk Tryz.prog Tryz.f70 c_slices_Contains_string_string 9 2 [.t 4] = true := by kernel_rfl
abbrev u_slices_Contains_string_string := Tryz.func70
def c_table_Validate : FC :=
 R [X 2 0,W 4 0,W 5 0] [0,4,5] <|
 I [F 11 2 5,L 12 11,N 13 12,bGk 14 13 64] [11,12,13] 14 (R [W 4 64,W 5 4] [1,2,14] <|
 .ret) <|
 I [F 15 2 1,M 16 15 2,V 17 1,C 18 n_value_ValidType [t 16,t 17],U 19 18,V 20 19,H 20 (F 21 2 3),H 20 (M 22 21 2),H 20 (V 23 1),H 20 (C 24 n_value_ValidType [t 22,t 23]),H 20 (U 25 24),Po 26 20 25] [14,15,16,17,18,19,20,21,22,23,24,25] 26 (R [W 4 (-1),W 5 8] [1,2,26] <|
 .ret) <|
 Q (R [F 27 2 5,L 28 27,N 29 28,W 30 0] [26] <|
 .block 0 <| .loop <| R [bL 31 30 29] [] <|
 Q (.cond (t 31) (.skip) (.exit 0)) <|
 Q (.block 1 <| R [V 32 30,J 33 28 30 5,M 34 33 5,A 7 [z,z,z,z,z],V 6 32,S 7 34 5] [31,32,33,34] <|
 Q (R [M 35 7 5,M 36 2 6,V 37 1,C 38 n_table_check [t 35,t 36,t 37],O 8 (.mvP true (t 38))] [35,36,37,38] <|
 R [V 39 8,bNk 40 39 0] [39] <|
 .cond (t 40) (R [V 41 6,V 42 8,V 4 41,V 5 42] [1,2,6,7,8,27,28,29,30,40,41,42] <|
 .ret) (.skip)) <|
 R [F 43 2 5,L 44 43,V 45 6,O 46 (.subSl (t 44) none (some (t 45)) 5),N 47 46,W 48 0] [8,40] <|
 .block 2 <| .loop <| R [bL 49 48 47] [] <|
 Q (.cond (t 49) (.skip) (.exit 2)) <|
 Q (.block 3 <| R [J 50 46 48 5,M 51 50 5,A 10 [z,z,z,z,z],S 10 51 5] [49,50,51] <|
 R [M 52 10 5,M 53 7 5,C 54 n_table_conflict [t 52,t 53]] [10,52,53] <|
 .cond (t 54) (R [V 55 6,V 4 55,W 5 11] [1,2,6,7,27,28,29,30,43,44,45,46,47,48,54,55] <|
 .ret) (.skip)) <|
 r [bAk 56 48 1,V 48 56] [54,56]) <|
 r [bAk 57 30 1,V 30 57] [6,7,43,44,45,46,47,48,49,57]) <|
 R [W 4 0,W 5 0] [1,2,27,28,29,30,31] <|
 .ret
theorem k_table_Validate : fnOk Tryz.prog Tryz.f71 c_table_Validate 58 2 [.t 4, .t 5] = true := by kernel_rfl
abbrev u_table_Validate := Tryz.func71
def c_law_fields : FC :=
 R [A 10 [z,z,z,z]] [] <|
 Q (R [V 13 0,N 14 13,W 15 0] [] <|
 .block 0 <| .loop <| R [bL 16 15 14] [] <|
 Q (.cond (t 16) (.skip) (.exit 0)) <|
 Q (.block 1 <| R [V 17 15,J 18 13 15 3,M 19 18 3,A 12 [o,z,z],V 11 17,S 12 19 3] [16,17,18,19] <|
 I [F 20 12 0,L 21 20,C 22 n_lexer_IsIdentifier [t 21],U 23 22] [20,21,22] 23 (R [V 24 3,V 25 4,V 26 11,bA 27 25 26,C 28 n_law_bad [K 2,K 3,t 24,t 27],S 10 28 4] [0,1,2,3,4,11,12,13,14,15,23,24,25,26,27,28] <|
 .ret) <|
 Q (D 13 [V 29 1,F 30 12 0,L 31 30,C 32 n_slices_Contains_string_string [t 29,t 31],V 33 32,H 33 (V 34 0),H 33 (V 35 11),H 33 (O 36 (.subSl (t 34) none (some (t 35)) 3)),H 33 (C 37 n_law_names [t 36]),H 33 (F 38 12 0),H 33 (L 39 38),H 33 (B 40 n_slices_Contains_string_string [t 37,t 39]),Po 41 33 40] [23,29,30,31,32,33,34,35,36,37,38,39,40] <|
 .cond (t 41) (R [V 42 3,V 43 4,V 44 11,bA 45 43 44,C 46 n_law_bad [K 7,K 3,t 42,t 45],S 10 46 4] [0,1,2,3,4,11,12,13,14,15,41,42,43,44,45,46] <|
 .ret) (.skip)) <|
 R [F 47 12 1,M 48 47 2,V 49 2,C 50 n_value_ValidType [t 48,t 49],U 51 50] [12,41,47,48,49,50] <|
 .cond (t 51) (R [V 52 3,V 53 4,V 54 11,bA 55 53 54,C 56 n_law_bad [K 8,K 3,t 52,t 55],S 10 56 4] [0,1,2,3,4,11,13,14,15,51,52,53,54,55,56] <|
 .ret) (.skip)) <|
 r [bAk 57 15 1,V 15 57] [11,51,57]) <|
 R [O 58 (.build [z,z,z,z] [] []),S 10 58 4] [0,1,2,3,4,13,14,15,16,58] <|
 .ret
theorem k_law_fields : fnOk Tryz.prog Tryz.f72 c_law_fields 59 5 [.c 10 4 true] = true := by kernel_rfl
abbrev u_law_fields := Tryz.func72
def c_law_names : FC :=
 R [O 2 (.mv (.k (.arr [])))] [2] <|
 R [O 3 (.mv (.k (.arr [])))] [] <|
 Q (R [V 6 0,N 7 6,W 8 0] [] <|
 .block 0 <| .loop <| R [bL 9 8 7] [] <|
 Q (.cond (t 9) (.skip) (.exit 0)) <|
 Q (.block 1 <| R [J 10 6 8 3,M 11 10 3,A 5 [o,z,z],S 5 11 3] [9,10,11] <|
 r [V 12 3,F 13 5 0,L 14 13,O 15 (.buildSl [o] 1 [0] [t 14]),O 16 (.app (t 12) (t 15) 1 16),O 3 (.mvP true (t 16))] [5,12,13,14,15,16]) <|
 r [bAk 17 8 1,V 8 17] [17]) <|
 R [V 18 3,V 2 18] [0,6,7,8,9] <|
 .ret
theorem k_law_names : fnOk Tryz.prog Tryz.f46 c_law_names 19 1 [.t 2] = true := by kernel_rfl
abbrev u_law_names := Tryz.func46
def c_law_Signature : FC :=
 R [X 2 0,A 4 [e,e,e,e,e,.bool false]] [0] <|
 I [V 9 1,bLk 10 9 0,V 11 10,H 11 (V 12 1),H 11 (F 13 2 2),H 11 (L 14 13),H 11 (N 15 14),H 11 (bH 16 12 15),Po 17 11 16] [9,10,11,12,13,14,15,16] 17 (R [O 18 (.build [e,e,e,e,e,.bool false] [] []),S 4 18 6] [1,2,17,18] <|
 .ret) <|
 R [F 19 2 2,L 20 19,V 21 1,J 22 20 21 5,M 23 22 5,A 5 [o,z,e,e,e],S 5 23 5] [1,17,19,20,21,22,23] <|
 D 14 [F 24 2 0,L 25 24,C 26 n_law_enums [t 25],F 27 2 1,L 28 27,C 29 n_law_tables [t 28],F 30 5 2,L 31 30,C 32 n_law_types [t 31],F 33 5 3,L 34 33,C 35 n_law_types [t 34],O 36 (.build [e,e,e,e,e,.bool false] [(0,1),(1,1),(2,1),(3,1)] [t 26,t 29,t 32,t 35]),A 6 [e,e,e,e,e,.bool false],S 6 36 6] [24,25,26,27,28,29,30,31,32,33,34,35,36] <|
 Q (R [O 38 (.loadM true (t 2) 3 true),O 39 (.loadM true (t 5) 5 true),C 40 n_law_member [t 38,t 39],O 37 (.mvP true (t 40)),O 41 (.extract 37 0),O 42 (.extract 37 1),A 7 [o,z,e,e,e],S 7 41 5,O 8 (.mvP true (t 42))] [2,5,37,38,39,40,41,42] <|
 R [V 43 8] [8] <|
 .cond (t 43) (r [F 44 7 3,L 45 44,C 46 n_law_types [t 45],F 47 6 4,S 47 46 1,F 48 6 5,O 0 (.store (t 48) (.k (.bool true)) 1 true)] [7,43,44,45,46,47,48]) (.skip)) <|
 R [O 49 (.loadM true (t 6) 6 true),S 4 49 6] [6,7,43,49] <|
 .ret
theorem k_law_Signature : fnOk Tryz.prog Tryz.f14 c_law_Signature 50 2 [.c 4 6 true] = true := by kernel_rfl
abbrev u_law_Signature := Tryz.func14
def c_law_rule : FC :=
 R [X 3 0,X 5 2,W 6 0] [0,2,6] <|
 Q (R [M 13 3 5,V 14 1,C 15 n_law_named [t 13,t 14],O 7 (.mvP true (t 15))] [13,14,15] <|
 R [V 16 7,bNk 17 16 0] [16] <|
 .cond (t 17) (R [V 18 7,V 6 18] [1,3,5,7,17,18] <|
 .ret) (.skip)) <|
 R [F 19 3 4,L 20 19,V 21 1,J 22 20 21 9,M 23 22 9,A 8 [o,z,z,z,z,z,e,e,o],S 8 23 9] [7,17,19,20,21,22,23] <|
 R [W 9 0] [] <|
 Q (R [F 24 3 4,L 25 24,V 26 1,O 27 (.subSl (t 25) none (some (t 26)) 9),N 28 27,W 29 0] [1] <|
 .block 0 <| .loop <| R [bL 30 29 28] [] <|
 Q (.cond (t 30) (.skip) (.exit 0)) <|
 Q (.block 1 <| R [J 31 27 29 9,M 32 31 9,A 11 [o,z,z,z,z,z,e,e,o],S 11 32 9] [30,31,32] <|
 R [F 33 11 1,L 34 33,F 35 8 1,L 36 35,bE 37 34 36] [11,33,34,35,36] <|
 .cond (t 37) (r [V 38 9,bAk 39 38 1,V 9 39] [37,38,39]) (.skip)) <|
 r [bAk 40 29 1,V 29 40] [37,40]) <|
 Q (.block 2 <| R [F 42 8 3,L 43 42,bLk 44 43 0,V 45 44,H 45 (F 46 8 3),H 45 (L 47 46),H 45 (bGk 48 47 9),Po 49 45 48,V 50 49,H 50 (F 51 8 4),H 50 (F 52 51 0),H 50 (L 53 52),H 50 (bLk 54 53 0),Po 55 50 54,V 56 55,H 56 (F 57 8 4),H 56 (F 58 57 0),H 56 (L 59 58),H 56 (F 60 8 4),H 56 (F 61 60 1),H 56 (L 62 61),H 56 (bH 63 59 62),Po 64 56 63,V 65 64,H 65 (F 66 8 4),H 65 (F 67 66 1),H 65 (L 68 67),H 65 (bGk 69 68 109573),Po 70 65 69,V 41 70] [24,25,26,27,28,29,30,42,43,44,45,46,47,48,49,50,51,52,53,54,55,56,57,58,59,60,61,62,63,64,65,66,67,68,69,70] <|
 .cond (t 41) (R [W 6 3] [3,5,8,9,41] <|
 .ret) (R [V 72 9,bHk 73 72 8,V 71 73] [9,41,72,73] <|
 .cond (t 71) (R [W 6 4] [3,5,8,71] <|
 .ret) (R [F 75 8 8,L 76 75,C 77 n_law_source [t 76],U 78 77,V 74 78] [71,75,76,77,78] <|
 .cond (t 74) (R [W 6 2] [3,5,8,74] <|
 .ret) (.skip)))) <|
 I [F 79 8 6,L 80 79,N 81 80,bGk 82 81 0] [74,79,80,81] 82 (R [F 83 8 6,L 84 83,M 85 5 6,O 86 (.build [z,z] [(0,1)] [K 1]),C 87 n_law_expression [t 84,t 85,t 86],O 12 (.mvP true (t 87))] [82,83,84,85,86,87] <|
 R [V 88 12,bNk 89 88 0] [88] <|
 .cond (t 89) (R [V 90 12,V 6 90] [3,5,8,12,89,90] <|
 .ret) (.skip)) <|
 D 12 [F 91 8 7,L 92 91,M 93 5 6,F 94 3 3,L 95 94,F 96 8 1,L 97 96,J 98 95 97 3,F 99 98 1,M 100 99 2,C 101 n_law_expression [t 92,t 93,t 100],V 6 101] [3,5,8,12,82,89,91,92,93,94,95,96,97,98,99,100,101] <|
 .ret
theorem k_law_rule : fnOk Tryz.prog Tryz.f73 c_law_rule 102 3 [.t 6] = true := by kernel_rfl
abbrev u_law_rule := Tryz.func73
def c_deps_Transitive : FC :=
 R [X 2 0,O 4 (.mv (.k (.arr [])))] [0,4] <|
 I [M 10 2 5,V 11 1,C 12 n_deps_valid [t 10,t 11],U 13 12] [10,11,12] 13 (R [O 4 (.mv (.k (.arr [])))] [1,2,13] <|
 .ret) <|
 R [F 14 2 3,L 15 14,N 16 15,O 17 (.makeSl [.bool false] 1 (t 16) (t 16)),O 5 (.mvP true (t 17))] [13,14,15,16,17] <|
 Q (R [M 18 2 5,V 19 1,C 20 n_deps_Direct [t 18,t 19],O 6 (.mvP true (t 20))] [1,18,19,20] <|
 .block 0 <| .loop <| E [V 21 6,N 22 21,bGk 23 22 0] [21,22] 23 (.skip) (.exit 0) <|
 Q (.block 1 <| R [V 26 5,V 27 6,O 28 (.ia (t 27) (K 0) 1),L 29 28,J 30 26 29 1,L 31 30,U 32 31] [23,26,27,28,29,30,31] <|
 .cond (t 32) (R [V 33 5,V 34 6,O 35 (.ia (t 34) (K 0) 1),L 36 35,J 37 33 36 1,O 0 (.store (t 37) (.k (.bool true)) 1 true)] [32,33,34,35,36,37] <|
 d 6 [V 38 6,M 39 2 5,V 40 6,O 41 (.ia (t 40) (K 0) 1),L 42 41,C 43 n_deps_Direct [t 39,t 42],O 44 (.app (t 38) (t 43) 1 8),O 6 (.mvP true (t 44))] [38,39,40,41,42,43,44]) (.skip)) <|
 r [V 24 6,O 25 (.subSl (t 24) (some (K 1)) none 1),O 6 (.mvP true (t 25))] [24,25,32]) <|
 R [O 7 (.mv (.k (.arr [])))] [2,6,23] <|
 Q (R [V 45 5,N 46 45,W 47 0] [] <|
 .block 2 <| .loop <| R [bL 48 47 46] [] <|
 Q (.cond (t 48) (.skip) (.exit 2)) <|
 Q (.block 3 <| R [V 49 47,J 50 45 47 1,L 51 50,V 8 49,V 9 51] [48,49,50,51] <|
 R [V 52 9] [9] <|
 .cond (t 52) (r [V 53 7,V 54 8,O 55 (.buildSl [z] 1 [0] [t 54]),O 56 (.app (t 53) (t 55) 1 8),O 7 (.mvP true (t 56))] [8,52,53,54,55,56]) (.skip)) <|
 r [bAk 57 47 1,V 47 57] [8,52,57]) <|
 R [V 58 7,V 4 58] [5,45,46,47,48] <|
 .ret
theorem k_deps_Transitive : fnOk Tryz.prog Tryz.f75 c_deps_Transitive 59 2 [.t 4] = true := by kernel_rfl
abbrev u_deps_Transitive := Tryz.func75
def c_slices_Contains_int_int : FC :=
 R [O 4 (.mv (.k (.bool false)))] [4] <|
 R [V 5 0,V 6 1,C 7 n_slices_Index_int_int [t 5,t 6],bHk 8 7 0,V 4 8] [0,1,5,6,7,8] <|
 .ret
theorem k_slices_Contains_int_int : fnOk Tryz.prog Tryz.f74 c_slices_Contains_int_int 9 2 [.t 4] = true := by kernel_rfl
abbrev u_slices_Contains_int_int := Tryz.func74
def c_slices_Equal_api_Node_api_Node : FC :=
 R [O 4 (.mv (.k (.bool false)))] [4] <|
 I [V 6 0,N 7 6,V 8 1,N 9 8,bN 10 7 9] [6,7,8,9] 10 (R [O 4 (.mv (.k (.bool false)))] [0,1,10] <|
 .ret) <|
 Q (R [V 11 0,N 12 11,W 13 0] [10,11] <|
 .block 0 <| .loop <| R [bL 14 13 12] [] <|
 Q (.cond (t 14) (.skip) (.exit 0)) <|
 Q (.block 1 <| R [V 15 13,V 5 15] [14,15] <|
 D 9 [V 16 0,V 17 5,J 18 16 17 2,M 19 18 2,V 20 1,V 21 5,J 22 20 21 2,M 23 22 2,O 24 (.eqS true [0,0] (t 19) (t 23))] [5,16,17,18,19,20,21,22,23] <|
 .cond (t 24) (R [O 4 (.mv (.k (.bool false)))] [0,1,12,13,24] <|
 .ret) (.skip)) <|
 r [bAk 25 13 1,V 13 25] [24,25]) <|
 R [O 4 (.mv (.k (.bool true)))] [0,1,12,13,14] <|
 .ret
theorem k_slices_Equal_api_Node_api_Node : fnOk Tryz.prog Tryz.f134 c_slices_Equal_api_Node_api_Node 26 2 [.t 4] = true := by kernel_rfl
abbrev u_slices_Equal_api_Node_api_Node := Tryz.func134
def c_same_Enum : FC :=
 R [X 2 0,X 3 1,O 4 (.mv (.k (.bool false)))] [0,1,4] <|
 R [F 5 2 0,L 6 5,F 7 3 0,L 8 7,bE 9 6 8,V 10 9,G 10 (F 11 2 1),G 10 (L 12 11),G 10 (F 13 3 1),G 10 (L 14 13),G 10 (C 15 n_same_Strings [t 12,t 14]),Pa 16 10 15,V 4 16] [2,3,5,6,7,8,9,10,11,12,13,14,15,16] <|
 .ret
theorem k_same_Enum : fnOk Tryz.prog Tryz.f82 c_same_Enum 17 2 [.t 4] = true := by kernel_rfl
abbrev u_same_Enum := Tryz.func82
def c_same_Table : FC :=
 R [X 2 0,X 3 1,O 4 (.mv (.k (.bool false)))] [0,1,4] <|
 R [F 5 2 0,L 6 5,F 7 3 0,L 8 7,bE 9 6 8,V 10 9,G 10 (F 11 2 1),G 10 (M 12 11 2),G 10 (F 13 3 1),G 10 (M 14 13 2),G 10 (O 15 (.eqS false [0,0] (t 12) (t 14))),Pa 16 10 15,V 17 16,G 17 (F 18 2 3),G 17 (M 19 18 2),G 17 (F 20 3 3),G 17 (M 21 20 2),G 17 (O 22 (.eqS false [0,0] (t 19) (t 21))),Pa 23 17 22,V 24 23,G 24 (F 25 2 5),G 24 (L 26 25),G 24 (F 27 3 5),G 24 (L 28 27),G 24 (C 29 n_same_Rows [t 26,t 28]),Pa 30 24 29,V 4 30] [2,3,5,6,7,8,9,10,11,12,13,14,15,16,17,18,19,20,21,22,23,24,25,26,27,28,29,30] <|
 .ret
theorem k_same_Table : fnOk Tryz.prog Tryz.f83 c_same_Table 31 2 [.t 4] = true := by kernel_rfl
abbrev u_same_Table := Tryz.func83
def c_same_Scope : FC :=
 R [X 2 0,X 3 1,O 4 (.mv (.k (.bool false)))] [0,1,4] <|
 R [F 5 2 0,L 6 5,F 7 3 0,L 8 7,bE 9 6 8,V 10 9,G 10 (F 11 2 1),G 10 (L 12 11),G 10 (F 13 3 1),G 10 (L 14 13),G 10 (bE 15 12 14),Pa 16 10 15,V 17 16,G 17 (F 18 2 2),G 17 (L 19 18),G 17 (F 20 3 2),G 17 (L 21 20),G 17 (C 22 n_same_Fields [t 19,t 21]),Pa 23 17 22,V 24 23,G 24 (F 25 2 3),G 24 (L 26 25),G 24 (F 27 3 3),G 24 (L 28 27),G 24 (C 29 n_same_Fields [t 26,t 28]),Pa 30 24 29,V 31 30,G 31 (F 32 2 4),G 31 (L 33 32),G 31 (F 34 3 4),G 31 (L 35 34),G 31 (C 36 n_same_Rules [t 33,t 35]),Pa 37 31 36,V 4 37] [2,3,5,6,7,8,9,10,11,12,13,14,15,16,17,18,19,20,21,22,23,24,25,26,27,28,29,30,31,32,33,34,35,36,37] <|
 .ret
theorem k_same_Scope : fnOk Tryz.prog Tryz.f135 c_same_Scope 38 2 [.t 4] = true := by kernel_rfl
abbrev u_same_Scope := Tryz.func135
def c_lexer_lower : FC :=
 R [O 2 (.mv (.k (.bool false)))] [2] <|
 R [V 3 0,O 4 (.bin .geq (t 3) (.k (.int .u8 97))),V 5 4,G 5 (V 6 0),G 5 (O 7 (.bin .leq (t 6) (.k (.int .u8 122)))),Pa 8 5 7,V 2 8] [0,3,4,5,6,7,8] <|
 .ret
theorem k_lexer_lower : fnOk Tryz.prog Tryz.f101 c_lexer_lower 9 1 [.t 2] = true := by kernel_rfl
abbrev u_lexer_lower := Tryz.func101
def c_lexer_run : FC :=
 R [W 4 0] [4] <|
 R [W 5 0] [] <|
 Q (.block 0 <| .loop <| E [V 6 5,V 7 0,O 8 (.lenS (t 7)),bL 9 6 8,V 10 9,G 10 (V 11 1),G 10 (V 12 0),G 10 (V 13 5),G 10 (O 14 (.index (t 12) (t 13))),G 10 (⟨15,.callV (t 11) [t 14],none⟩),Pa 16 10 15] [6,7,8,9,10,11,12,13,14,15] 16 (.skip) (.exit 0) <|
 .block 1 <| r [V 17 5,bAk 18 17 1,V 5 18] [16,17,18]) <|
 R [V 19 5,V 4 19] [0,1,5,16,19] <|
 .ret
theorem k_lexer_run : fnOk Tryz.prog Tryz.f102 c_lexer_run 20 2 [.t 4] = true := by kernel_rfl
abbrev u_lexer_run := Tryz.func102
def c_lexer_part : FC :=
 R [O 2 (.mv (.k (.bool false)))] [2] <|
 R [V 3 0,C 4 n_lexer_lower [t 3],V 5 4,H 5 (V 6 0),H 5 (C 7 n_lexer_digit [t 6]),Po 8 5 7,V 9 8,H 9 (V 10 0),H 9 (O 11 (.bin .eql (t 10) (.k (.int .u8 95)))),Po 12 9 11,V 2 12] [0,3,4,5,6,7,8,9,10,11,12] <|
 .ret
theorem k_lexer_part : fnOk Tryz.prog Tryz.f103 c_lexer_part 13 1 [.t 2] = true := by kernel_rfl
abbrev u_lexer_part := Tryz.func103
def c_slices_Index_string_string : FC :=
 R [W 4 0] [4] <|
 Q (R [V 6 0,N 7 6,W 8 0] [6] <|
 .block 0 <| .loop <| R [bL 9 8 7] [] <|
 Q (.cond (t 9) (.skip) (.exit 0)) <|
 Q (.block 1 <| R [V 10 8,V 5 10] [9,10] <|
 R [V 11 1,V 12 0,V 13 5,J 14 12 13 1,L 15 14,bE 16 11 15] [11,12,13,14,15] <|
 .cond (t 16) (R [V 17 5,V 4 17] [0,1,5,7,8,16,17] <|
 .ret) (.skip)) <|
 r [bAk 18 8 1,V 8 18] [5,16,18]) <|
 R [W 4 (-1)] [0,1,7,8,9] <|
 .ret
theorem k_slices_Index_string_string : fnOk Tryz.prog Tryz.f105 c_slices_Index_string_string 19 2 [.t 4] = true := by kernel_rfl
abbrev u_slices_Index_string_string := Tryz.func105
def c_value_ValidType : FC :=
 R [X 2 0,O 4 (.mv (.k (.bool false)))] [0,4] <|
 Q (R [F 5 2 0,L 6 5] [5] <|
 .block 0 <| E [bEk 8 6 1,V 7 8] [8] 7 (.skip) (R [bEk 9 6 2,V 7 9] [9] <|
 .cond (t 7) (.skip) (R [bEk 10 6 3,V 7 10] [10] <|
 .cond (t 7) (.skip) (R [bEk 11 6 4,V 7 11] [11] <|
 .cond (t 7) (.skip) (r [bEk 12 6 5,V 7 12] [12])))) <|
 .cond (t 7) (R [F 13 2 1,L 14 13,bEk 15 14 0,V 4 15] [1,2,6,7,13,14,15] <|
 .ret) (R [bEk 17 6 6,V 16 17] [6,7,17] <|
 .cond (t 16) (R [F 18 2 1,L 19 18,bHk 20 19 0,V 21 20,G 21 (F 22 2 1),G 21 (L 23 22),G 21 (V 24 1),G 21 (N 25 24),G 21 (bL 26 23 25),Pa 27 21 26,V 4 27] [1,2,16,18,19,20,21,22,23,24,25,26,27] <|
 .ret) (.skip))) <|
 R [O 4 (.mv (.k (.bool false)))] [1,2,16] <|
 .ret
theorem k_value_ValidType : fnOk Tryz.prog Tryz.f106 c_value_ValidType 28 2 [.t 4] = true := by kernel_rfl
abbrev u_value_ValidType := Tryz.func106
def c_table_check : FC :=
 R [X 3 0,X 4 1,W 6 0] [0,1,6] <|
 R [F 12 4 1,M 13 12 2,V 14 2,C 15 n_value_Bounds [t 13,t 14],O 11 (.mvP true (t 15)),O 16 (.extract 11 0),O 17 (.extract 11 1),O 7 (.mvP true (t 16)),O 8 (.mvP true (t 17))] [11,12,13,14,15,16,17] <|
 R [F 19 4 3,M 20 19 2,V 21 2,C 22 n_value_Bounds [t 20,t 21],O 18 (.mvP true (t 22)),O 23 (.extract 18 0),O 24 (.extract 18 1),O 9 (.mvP true (t 23)),O 10 (.mvP true (t 24))] [2,4,18,19,20,21,22,23,24] <|
 Q (.block 0 <| R [F 26 3 0,M 27 26 2,C 28 n_daterange_Valid [t 27],U 29 28,V 30 29,H 30 (F 31 3 0),H 30 (F 32 31 0),H 30 (L 33 32),H 30 (F 34 3 0),H 30 (F 35 34 1),H 30 (L 36 35),H 30 (bE 37 33 36),Po 38 30 37,V 25 38] [26,27,28,29,30,31,32,33,34,35,36,37,38] <|
 .cond (t 25) (R [W 6 3] [3,7,8,9,10,25] <|
 .ret) (R [F 40 3 2,L 41 40,F 42 3 3,L 43 42,bH 44 41 43,V 45 44,H 45 (F 46 3 2),H 45 (L 47 46),H 45 (V 48 7),H 45 (bL 49 47 48),Po 50 45 49,V 51 50,H 51 (F 52 3 2),H 51 (L 53 52),H 51 (V 54 8),H 51 (bG 55 53 54),Po 56 51 55,V 57 56,H 57 (F 58 3 3),H 57 (L 59 58),H 57 (bSk 60 59 1),H 57 (V 61 7),H 57 (bL 62 60 61),Po 63 57 62,V 64 63,H 64 (F 65 3 3),H 64 (L 66 65),H 64 (bSk 67 66 1),H 64 (V 68 8),H 64 (bG 69 67 68),Po 70 64 69,V 39 70] [7,8,25,40,41,42,43,44,45,46,47,48,49,50,51,52,53,54,55,56,57,58,59,60,61,62,63,64,65,66,67,68,69,70] <|
 .cond (t 39) (R [W 6 3] [3,9,10,39] <|
 .ret) (R [F 72 3 4,L 73 72,V 74 9,bL 75 73 74,V 76 75,H 76 (F 77 3 4),H 76 (L 78 77),H 76 (V 79 10),H 76 (bG 80 78 79),Po 81 76 80,V 71 81] [3,9,10,39,72,73,74,75,76,77,78,79,80,81] <|
 .cond (t 71) (R [W 6 3] [71] <|
 .ret) (.skip)))) <|
 R [W 6 0] [71] <|
 .ret
theorem k_table_check : fnOk Tryz.prog Tryz.f107 c_table_check 82 3 [.t 6] = true := by kernel_rfl
abbrev u_table_check := Tryz.func107
def c_table_conflict : FC :=
 R [X 2 0,X 3 1,O 4 (.mv (.k (.bool false)))] [0,1,4] <|
 R [F 8 2 0,M 9 8 2,F 10 3 0,M 11 10 2,C 12 n_daterange_Intersect [t 9,t 11],O 7 (.mvP true (t 12)),O 13 (.extract 7 0),O 14 (.extract 7 1),A 5 [z,z],S 5 13 2,O 6 (.mvP true (t 14))] [5,7,8,9,10,11,12,13,14] <|
 R [V 15 6,V 16 15,G 16 (F 17 2 2),G 16 (L 18 17),G 16 (F 19 3 2),G 16 (L 20 19),G 16 (O 21 (.mm true (t 18) (t 20))),G 16 (F 22 2 3),G 16 (L 23 22),G 16 (F 24 3 3),G 16 (L 25 24),G 16 (O 26 (.mm false (t 23) (t 25))),G 16 (bL 27 21 26),Pa 28 16 27,V 4 28] [2,3,6,15,16,17,18,19,20,21,22,23,24,25,26,27,28] <|
 .ret
theorem k_table_conflict : fnOk Tryz.prog Tryz.f108 c_table_conflict 29 2 [.t 4] = true := by kernel_rfl
abbrev u_table_conflict := Tryz.func108
def c_law_types : FC :=
 R [O 2 (.mv (.k (.arr [])))] [2] <|
 R [O 3 (.mv (.k (.arr [])))] [] <|
 Q (R [V 6 0,N 7 6,W 8 0] [] <|
 .block 0 <| .loop <| R [bL 9 8 7] [] <|
 Q (.cond (t 9) (.skip) (.exit 0)) <|
 Q (.block 1 <| R [J 10 6 8 3,M 11 10 3,A 5 [o,z,z],S 5 11 3] [9,10,11] <|
 r [V 12 3,F 13 5 1,M 14 13 2,O 15 (.buildSl [z,z] 1 [0] [t 14]),O 16 (.app (t 12) (t 15) 2 16),O 3 (.mvP true (t 16))] [5,12,13,14,15,16]) <|
 r [bAk 17 8 1,V 8 17] [17]) <|
 R [V 18 3,V 2 18] [0,6,7,8,9] <|
 .ret
theorem k_law_types : fnOk Tryz.prog Tryz.f42 c_law_types 19 1 [.t 2] = true := by kernel_rfl
abbrev u_law_types := Tryz.func42
def c_law_member : FC :=
 R [X 2 0,X 3 1,A 4 [o,z,e,e,e],O 5 (.mv (.k (.bool false)))] [0,1,5] <|
 I [F 6 3 1,L 7 6,bLk 8 7 0,V 9 8,H 9 (F 10 3 1),H 9 (L 11 10),H 9 (F 12 2 2),H 9 (L 13 12),H 9 (N 14 13),H 9 (bH 15 11 14),Po 16 9 15] [6,7,8,9,10,11,12,13,14,15] 16 (R [O 17 (.build [o,z,e,e,e] [] []),S 4 17 5,O 5 (.mv (.k (.bool false)))] [2,3,16,17] <|
 .ret) <|
 R [F 18 2 2,L 19 18,F 20 3 1,L 21 20,J 22 19 21 5,M 23 22 5,S 4 23 5,O 5 (.mv (.k (.bool true)))] [2,3,16,18,19,20,21,22,23] <|
 .ret
theorem k_law_member : fnOk Tryz.prog Tryz.f43 c_law_member 24 2 [.c 4 5 true, .t 5] = true := by kernel_rfl
abbrev u_law_member := Tryz.func43
def c_law_named : FC :=
 R [X 2 0,W 4 0] [0,4] <|
 R [F 8 2 4,L 9 8,V 10 1,J 11 9 10 9,M 12 11 9,A 5 [o,z,z,z,z,z,e,e,o],S 5 12 9] [8,9,10,11,12] <|
 I [F 13 5 0,L 14 13,C 15 n_lexer_IsIdentifier [t 14],U 16 15] [13,14,15] 16 (R [W 4 2] [1,2,5,16] <|
 .ret) <|
 Q (R [F 17 2 4,L 18 17,V 19 1,O 20 (.subSl (t 18) none (some (t 19)) 9),N 21 20,W 22 0] [16] <|
 .block 0 <| .loop <| R [bL 23 22 21] [] <|
 Q (.cond (t 23) (.skip) (.exit 0)) <|
 Q (.block 1 <| R [J 24 20 22 9,M 25 24 9,A 7 [o,z,z,z,z,z,e,e,o],S 7 25 9] [23,24,25] <|
 R [F 26 7 0,L 27 26,F 28 5 0,L 29 28,bE 30 27 29] [7,26,27,28,29] <|
 .cond (t 30) (R [W 4 7] [1,2,5,17,18,19,20,21,22,30] <|
 .ret) (.skip)) <|
 r [bAk 31 22 1,V 22 31] [30,31]) <|
 I [F 32 5 1,L 33 32,bLk 34 33 0,V 35 34,H 35 (F 36 5 1),H 35 (L 37 36),H 35 (F 38 2 3),H 35 (L 39 38),H 35 (N 40 39),H 35 (bH 41 37 40),Po 42 35 41] [17,18,19,20,21,22,23,32,33,34,35,36,37,38,39,40,41] 42 (R [W 4 6] [1,2,5,42] <|
 .ret) <|
 Q (D 26 [F 43 5 2,L 44 43,bLk 45 44 (-1),V 46 45,H 46 (F 47 5 2),H 46 (L 48 47),H 46 (V 49 1),H 46 (bH 50 48 49),Po 51 46 50,V 52 51,H 52 (F 53 5 2),H 52 (L 54 53),H 52 (bHk 55 54 0),H 52 (V 56 55),G 56 (F 57 2 4),G 56 (L 58 57),G 56 (F 59 5 2),G 56 (L 60 59),G 56 (J 61 58 60 9),G 56 (F 62 61 1),G 56 (L 63 62),G 56 (F 64 5 1),G 56 (L 65 64),G 56 (bN 66 63 65),H 52 (Pa 67 56 66),Po 68 52 67] [1,2,5,42,43,44,45,46,47,48,49,50,51,52,53,54,55,56,57,58,59,60,61,62,63,64,65,66,67] <|
 .cond (t 68) (R [W 4 9] [68] <|
 .ret) (.skip)) <|
 R [W 4 0] [68] <|
 .ret
theorem k_law_named : fnOk Tryz.prog Tryz.f109 c_law_named 69 2 [.t 4] = true := by kernel_rfl
abbrev u_law_named := Tryz.func109
def c_law_source : FC :=
 R [O 2 (.mv (.k (.bool false)))] [2] <|
 Q (R [V 4 0,O 5 (.lenS (t 4)),W 6 0] [4] <|
 .block 0 <| .loop <| R [bL 7 6 5] [] <|
 Q (.cond (t 7) (.skip) (.exit 0)) <|
 Q (.block 1 <| R [V 8 6,V 3 8] [7,8] <|
 R [V 9 0,V 10 3,O 11 (.index (t 9) (t 10)),O 12 (.bin .lss (t 11) (.k (.int .u8 32))),V 13 12,H 13 (V 14 0),H 13 (V 15 3),H 13 (O 16 (.index (t 14) (t 15))),H 13 (O 17 (.bin .gtr (t 16) (.k (.int .u8 126)))),Po 18 13 17,V 19 18,H 19 (V 20 0),H 19 (V 21 3),H 19 (O 22 (.index (t 20) (t 21))),H 19 (O 23 (.bin .eql (t 22) (.k (.int .u8 34)))),Po 24 19 23] [3,9,10,11,12,13,14,15,16,17,18,19,20,21,22,23] <|
 .cond (t 24) (R [O 2 (.mv (.k (.bool false)))] [0,5,6,24] <|
 .ret) (.skip)) <|
 r [bAk 25 6 1,V 6 25] [24,25]) <|
 R [V 26 0,O 27 (.lenS (t 26)),bMk 28 27 64,V 2 28] [0,5,6,7,26,27,28] <|
 .ret
theorem k_law_source : fnOk Tryz.prog Tryz.f110 c_law_source 29 1 [.t 2] = true := by kernel_rfl
abbrev u_law_source := Tryz.func110
def c_law_expression : FC :=
 R [X 4 1,X 5 2,W 6 0] [1,2,6] <|
 R [V 11 0,O 12 (.loadM true (t 4) 6 true),C 13 n_expr_TypeOf [t 11,t 12],O 10 (.mvP true (t 13)),O 14 (.extract 10 0),O 15 (.extract 10 1),O 16 (.extract 10 2),A 7 [z,z],S 7 14 2,O 8 (.mvP true (t 15)),O 9 (.mvP true (t 16))] [0,4,8,10,11,12,13,14,15,16] <|
 I [V 17 9,bEk 18 17 0,V 19 18,G 19 (M 20 7 2),G 19 (M 21 5 2),G 19 (O 22 (.eqS true [0,0] (t 20) (t 21))),Pa 23 19 22] [5,7,17,18,19,20,21,22] 23 (R [W 6 8] [9,23] <|
 .ret) <|
 R [V 24 9,V 6 24] [9,23,24] <|
 .ret
theorem k_law_expression : fnOk Tryz.prog Tryz.f111 c_law_expression 25 3 [.t 6] = true := by kernel_rfl
abbrev u_law_expression := Tryz.func111
def c_deps_valid : FC :=
 R [X 2 0,O 4 (.mv (.k (.bool false)))] [0,4] <|
 R [V 5 1,bHk 6 5 0,V 7 6,G 7 (V 8 1),G 7 (F 9 2 3),G 7 (L 10 9),G 7 (N 11 10),G 7 (bL 12 8 11),Pa 13 7 12,V 4 13] [1,2,5,6,7,8,9,10,11,12,13] <|
 .ret
theorem k_deps_valid : fnOk Tryz.prog Tryz.f88 c_deps_valid 14 2 [.t 4] = true := by kernel_rfl
abbrev u_deps_valid := Tryz.func88
def c_deps_Direct : FC :=
 R [X 2 0,O 4 (.mv (.k (.arr [])))] [0,4] <|
 I [M 15 2 5,V 16 1,C 17 n_deps_valid [t 15,t 16],U 18 17] [15,16,17] 18 (R [O 4 (.mv (.k (.arr [])))] [1,2,18] <|
 .ret) <|
 R [O 5 (.mv (.k (.arr [])))] [18] <|
 Q (R [F 19 2 4,L 20 19,N 21 20,W 22 0] [] <|
 .block 0 <| .loop <| R [bL 23 22 21] [] <|
 Q (.cond (t 23) (.skip) (.exit 0)) <|
 Q (.block 1 <| R [J 24 20 22 9,M 25 24 9,A 7 [o,z,z,z,z,z,e,e,o],S 7 25 9] [23,24,25] <|
 I [F 26 7 1,L 27 26,V 28 1,bN 29 27 28] [26,27,28] 29 (.exit 1) <|
 R [F 30 7 6,L 31 30,F 32 7 7,L 33 32,O 34 (.buildSl [e] 2 [0,1] [t 31,t 33]),N 35 34,W 36 0] [7,29,30,31,32,33] <|
 .block 2 <| .loop <| R [bL 37 36 35] [] <|
 Q (.cond (t 37) (.skip) (.exit 2)) <|
 Q (.block 3 <| R [J 38 34 36 1,L 39 38,V 9 39] [37] <|
 R [V 41 9,C 42 n_expr_References [t 41],O 40 (.mvP true (t 42)),O 43 (.extract 40 0),O 44 (.extract 40 1),O 45 (.extract 40 2),O 10 (.mvP true (t 43)),O 11 (.mvP true (t 44)),O 12 (.mvP true (t 45))] [9,10,12,38,39,40,41,42,43,44,45] <|
 R [V 46 11,N 47 46,W 48 0] [] <|
 .block 4 <| .loop <| R [bL 49 48 47] [] <|
 Q (.cond (t 49) (.skip) (.exit 4)) <|
 Q (.block 5 <| R [J 50 46 48 1,L 51 50,V 14 51] [49,50,51] <|
 R [M 52 2 5,V 53 14,C 54 n_deps_valid [t 52,t 53]] [52,53] <|
 .cond (t 54) (r [V 55 5,V 56 14,O 57 (.buildSl [z] 1 [0] [t 56]),O 58 (.app (t 55) (t 57) 1 8),O 5 (.mvP true (t 58))] [14,54,55,56,57,58]) (.skip)) <|
 r [bAk 59 48 1,V 48 59] [14,54,59]) <|
 r [bAk 60 36 1,V 36 60] [11,46,47,48,49,60]) <|
 r [bAk 61 22 1,V 22 61] [7,29,34,35,36,37,61]) <|
 R [V 62 5,⟨63,.callM n_slices_Sort_int_int (t 62) 5,none⟩] [1,2,19,20,21,22,23,62,63] <|
 R [V 64 5,⟨65,.call n_slices_Compact_int_int [(true,t 64)],none⟩,O 4 (.mvP true (t 65))] [5,64,65] <|
 .ret
theorem k_deps_Direct : fnOk Tryz.prog Tryz.f54 c_deps_Direct 66 2 [.t 4] = true := by kernel_rfl
abbrev u_deps_Direct := Tryz.func54
def c_slices_Index_int_int : FC :=
 R [W 4 0] [4] <|
 Q (R [V 6 0,N 7 6,W 8 0] [6] <|
 .block 0 <| .loop <| R [bL 9 8 7] [] <|
 Q (.cond (t 9) (.skip) (.exit 0)) <|
 Q (.block 1 <| R [V 10 8,V 5 10] [9,10] <|
 R [V 11 1,V 12 0,V 13 5,J 14 12 13 1,L 15 14,bE 16 11 15] [11,12,13,14,15] <|
 .cond (t 16) (R [V 17 5,V 4 17] [0,1,5,7,8,16,17] <|
 .ret) (.skip)) <|
 r [bAk 18 8 1,V 8 18] [5,16,18]) <|
 R [W 4 (-1)] [0,1,7,8,9] <|
 .ret
theorem k_slices_Index_int_int : fnOk Tryz.prog Tryz.f112 c_slices_Index_int_int 19 2 [.t 4] = true := by kernel_rfl
abbrev u_slices_Index_int_int := Tryz.func112
def c_same_Strings : FC :=
 R [O 4 (.mv (.k (.bool false)))] [4] <|
 I [V 6 0,N 7 6,V 8 1,N 9 8,bN 10 7 9] [6,7,8,9] 10 (R [O 4 (.mv (.k (.bool false)))] [0,1,10] <|
 .ret) <|
 Q (R [W 5 0] [10] <|
 .block 0 <| .loop <| E [V 11 5,V 12 0,N 13 12,bL 14 11 13,V 15 14,G 15 (V 16 5),G 15 (V 17 1),G 15 (N 18 17),G 15 (bL 19 16 18),Pa 20 15 19] [11,12,13,14,15,16,17,18,19] 20 (.skip) (.exit 0) <|
 Q (.block 1 <| D 9 [V 23 0,V 24 5,J 25 23 24 1,L 26 25,V 27 1,V 28 5,J 29 27 28 1,L 30 29,bN 31 26 30] [20,23,24,25,26,27,28,29,30] <|
 .cond (t 31) (R [O 4 (.mv (.k (.bool false)))] [0,1,5,31] <|
 .ret) (.skip)) <|
 r [V 21 5,bAk 22 21 1,V 5 22] [21,22,31]) <|
 R [O 4 (.mv (.k (.bool true)))] [0,1,5,20] <|
 .ret
theorem k_same_Strings : fnOk Tryz.prog Tryz.f45 c_same_Strings 32 2 [.t 4] = true := by kernel_rfl
abbrev u_same_Strings := Tryz.func45
def c_same_Rows : FC :=
 R [O 4 (.mv (.k (.bool false)))] [4] <|
 I [V 6 0,N 7 6,V 8 1,N 9 8,bN 10 7 9] [6,7,8,9] 10 (R [O 4 (.mv (.k (.bool false)))] [0,1,10] <|
 .ret) <|
 Q (R [W 5 0] [10] <|
 .block 0 <| .loop <| E [V 11 5,V 12 0,N 13 12,bL 14 11 13,V 15 14,G 15 (V 16 5),G 15 (V 17 1),G 15 (N 18 17),G 15 (bL 19 16 18),Pa 20 15 19] [11,12,13,14,15,16,17,18,19] 20 (.skip) (.exit 0) <|
 Q (.block 1 <| D 9 [V 23 0,V 24 5,J 25 23 24 5,M 26 25 5,V 27 1,V 28 5,J 29 27 28 5,M 30 29 5,O 31 (.eqS true [0,0,0,0,0] (t 26) (t 30))] [20,23,24,25,26,27,28,29,30] <|
 .cond (t 31) (R [O 4 (.mv (.k (.bool false)))] [0,1,5,31] <|
 .ret) (.skip)) <|
 r [V 21 5,bAk 22 21 1,V 5 22] [21,22,31]) <|
 R [O 4 (.mv (.k (.bool true)))] [0,1,5,20] <|
 .ret
theorem k_same_Rows : fnOk Tryz.prog Tryz.f125 c_same_Rows 32 2 [.t 4] = true := by kernel_rfl
abbrev u_same_Rows := Tryz.func125
def c_same_Fields : FC :=
 R [O 4 (.mv (.k (.bool false)))] [4] <|
 I [V 6 0,N 7 6,V 8 1,N 9 8,bN 10 7 9] [6,7,8,9] 10 (R [O 4 (.mv (.k (.bool false)))] [0,1,10] <|
 .ret) <|
 Q (R [W 5 0] [10] <|
 .block 0 <| .loop <| E [V 11 5,V 12 0,N 13 12,bL 14 11 13,V 15 14,G 15 (V 16 5),G 15 (V 17 1),G 15 (N 18 17),G 15 (bL 19 16 18),Pa 20 15 19] [11,12,13,14,15,16,17,18,19] 20 (.skip) (.exit 0) <|
 Q (.block 1 <| D 9 [V 23 0,V 24 5,J 25 23 24 3,M 26 25 3,V 27 1,V 28 5,J 29 27 28 3,M 30 29 3,O 31 (.eqS true [2,0,0] (t 26) (t 30))] [20,23,24,25,26,27,28,29,30] <|
 .cond (t 31) (R [O 4 (.mv (.k (.bool false)))] [0,1,5,31] <|
 .ret) (.skip)) <|
 r [V 21 5,bAk 22 21 1,V 5 22] [21,22,31]) <|
 R [O 4 (.mv (.k (.bool true)))] [0,1,5,20] <|
 .ret
theorem k_same_Fields : fnOk Tryz.prog Tryz.f167 c_same_Fields 32 2 [.t 4] = true := by kernel_rfl
abbrev u_same_Fields := Tryz.func167
def c_same_Rules : FC :=
 R [O 4 (.mv (.k (.bool false)))] [4] <|
 I [V 6 0,N 7 6,V 8 1,N 9 8,bN 10 7 9] [6,7,8,9] 10 (R [O 4 (.mv (.k (.bool false)))] [0,1,10] <|
 .ret) <|
 Q (R [W 5 0] [10] <|
 .block 0 <| .loop <| E [V 11 5,V 12 0,N 13 12,bL 14 11 13,V 15 14,G 15 (V 16 5),G 15 (V 17 1),G 15 (N 18 17),G 15 (bL 19 16 18),Pa 20 15 19] [11,12,13,14,15,16,17,18,19] 20 (.skip) (.exit 0) <|
 Q (.block 1 <| D 10 [V 23 0,V 24 5,J 25 23 24 9,M 26 25 9,V 27 1,V 28 5,J 29 27 28 9,M 30 29 9,C 31 n_same_Rule [t 26,t 30],U 32 31] [20,23,24,25,26,27,28,29,30,31] <|
 .cond (t 32) (R [O 4 (.mv (.k (.bool false)))] [0,1,5,32] <|
 .ret) (.skip)) <|
 r [V 21 5,bAk 22 21 1,V 5 22] [21,22,32]) <|
 R [O 4 (.mv (.k (.bool true)))] [0,1,5,20] <|
 .ret
theorem k_same_Rules : fnOk Tryz.prog Tryz.f168 c_same_Rules 33 2 [.t 4] = true := by kernel_rfl
abbrev u_same_Rules := Tryz.func168
def c_lexer_digit : FC :=
 R [O 2 (.mv (.k (.bool false)))] [2] <|
 R [V 3 0,O 4 (.bin .geq (t 3) (.k (.int .u8 48))),V 5 4,G 5 (V 6 0),G 5 (O 7 (.bin .leq (t 6) (.k (.int .u8 57)))),Pa 8 5 7,V 2 8] [0,3,4,5,6,7,8] <|
 .ret
theorem k_lexer_digit : fnOk Tryz.prog Tryz.f136 c_lexer_digit 9 1 [.t 2] = true := by kernel_rfl
abbrev u_lexer_digit := Tryz.func136
def c_value_Bounds : FC :=
 R [X 2 0,W 4 0,W 5 0] [0,4,5] <|
 I [M 6 2 2,V 7 1,C 8 n_value_ValidType [t 6,t 7],U 9 8] [6,7,8] 9 (R [W 4 0,W 5 (-1)] [1,2,9] <|
 .ret) <|
 Q (R [F 10 2 0,L 11 10] [9,10] <|
 .block 0 <| R [bEk 13 11 1,V 12 13] [13] <|
 .cond (t 12) (R [W 4 0,W 5 1] [1,2,11,12] <|
 .ret) (R [bEk 15 11 2,V 14 15] [12,15] <|
 .cond (t 14) (R [W 4 (-1000000000000),W 5 1000000000000] [1,2,11,14] <|
 .ret) (R [bEk 17 11 3,V 16 17] [14,17] <|
 .cond (t 16) (R [W 4 (-1000000000000000),W 5 1000000000000000] [1,2,11,16] <|
 .ret) (R [bEk 19 11 4,V 18 19] [16,19] <|
 .cond (t 18) (R [W 4 (-1000000000),W 5 1000000000] [1,2,11,18] <|
 .ret) (R [bEk 21 11 5,V 20 21] [11,18,21] <|
 .cond (t 20) (R [W 4 0,W 5 109572] [1,2,20] <|
 .ret) (.skip)))))) <|
 D 10 [V 22 1,F 23 2 1,L 24 23,J 25 22 24 2,F 26 25 1,L 27 26,N 28 27,bSk 29 28 1,W 4 0,V 5 29] [1,2,20,22,23,24,25,26,27,28,29] <|
 .ret
theorem k_value_Bounds : fnOk Tryz.prog Tryz.f138 c_value_Bounds 30 2 [.t 4, .t 5] = true := by kernel_rfl
abbrev u_value_Bounds := Tryz.func138
def c_daterange_Valid : FC :=
 R [X 1 0,O 2 (.mv (.k (.bool false)))] [0,2] <|
 R [F 3 1 0,L 4 3,O 5 (.bin .leq (K 0) (t 4)),V 6 5,G 6 (F 7 1 0),G 6 (L 8 7),G 6 (F 9 1 1),G 6 (L 10 9),G 6 (bM 11 8 10),Pa 12 6 11,V 13 12,G 13 (F 14 1 1),G 13 (L 15 14),G 13 (bMk 16 15 109573),Pa 17 13 16,V 2 17] [1,3,4,5,6,7,8,9,10,11,12,13,14,15,16,17] <|
 .ret
theorem k_daterange_Valid : fnOk Tryz.prog Tryz.f99 c_daterange_Valid 18 1 [.t 2] = true := by kernel_rfl
abbrev u_daterange_Valid := Tryz.func99
def c_daterange_Intersect : FC :=
 R [X 2 0,X 3 1,A 4 [z,z],O 5 (.mv (.k (.bool false)))] [0,1,5] <|
 R [F 7 2 0,L 8 7,F 9 3 0,L 10 9,O 11 (.mm true (t 8) (t 10)),F 12 2 1,L 13 12,F 14 3 1,L 15 14,O 16 (.mm false (t 13) (t 15)),O 17 (.build [z,z] [(0,1),(1,1)] [t 11,t 16]),A 6 [z,z],S 6 17 2] [7,8,9,10,11,12,13,14,15,16,17] <|
 I [M 18 2 2,C 19 n_daterange_proper [t 18],U 20 19,V 21 20,H 21 (M 22 3 2),H 21 (C 23 n_daterange_proper [t 22]),H 21 (U 24 23),Po 25 21 24,V 26 25,H 26 (F 27 6 0),H 26 (L 28 27),H 26 (F 29 6 1),H 26 (L 30 29),H 26 (bH 31 28 30),Po 32 26 31] [2,3,18,19,20,21,22,23,24,25,26,27,28,29,30,31] 32 (R [O 33 (.build [z,z] [] []),S 4 33 2,O 5 (.mv (.k (.bool false)))] [6,32,33] <|
 .ret) <|
 R [M 34 6 2,S 4 34 2,O 5 (.mv (.k (.bool true)))] [6,32,34] <|
 .ret
theorem k_daterange_Intersect : fnOk Tryz.prog Tryz.f139 c_daterange_Intersect 35 2 [.c 4 2 true, .t 5] = true := by kernel_rfl
abbrev u_daterange_Intersect := Tryz.func139
def c_expr_TypeOf : FC :=
 R [X 3 1,A 4 [z,z],W 5 0,W 6 0] [1,5,6] <|
 R [V 19 0,C 20 n_expr_starts [t 19],O 18 (.mvP true (t 20)),O 21 (.extract 18 0),O 22 (.extract 18 1),O 23 (.extract 18 2),O 7 (.mvP true (t 21)),O 8 (.mvP true (t 22)),O 9 (.mvP true (t 23))] [18,19,20,21,22,23] <|
 I [V 24 9,bNk 25 24 0] [24] 25 (R [O 26 (.build [z,z] [] []),V 27 8,V 28 9,S 4 26 2,V 5 27,V 6 28] [0,3,7,8,9,25,26,27,28] <|
 .ret) <|
 R [V 29 0,N 30 29,O 31 (.makeSl [z,z] 16 (t 30) (t 30)),O 10 (.mvP true (t 31))] [8,9,25,29,30,31] <|
 Q (R [V 32 0,N 33 32,W 34 0] [] <|
 .block 0 <| .loop <| R [bL 35 34 33] [] <|
 Q (.cond (t 35) (.skip) (.exit 0)) <|
 Q (.block 1 <| R [V 36 34,J 37 32 34 2,M 38 37 2,A 12 [z,z],V 11 36,S 12 38 2] [35,36,37,38] <|
 R [O 13 (.mv (.k (.arr [])))] [] <|
 Q (R [V 39 0,V 40 7,V 41 11,B 42 n_expr_operands [t 39,t 40,t 41],N 43 42,W 44 0] [39,40,41] <|
 .block 2 <| .loop <| R [bL 45 44 43] [] <|
 Q (.cond (t 45) (.skip) (.exit 2)) <|
 Q (.block 3 <| R [J 46 42 44 1,L 47 46,V 15 47] [45,46,47] <|
 r [V 48 13,V 49 10,V 50 15,J 51 49 50 2,M 52 51 2,O 53 (.buildSl [z,z] 1 [0] [t 52]),O 54 (.app (t 48) (t 53) 2 16),O 13 (.mvP true (t 54))] [15,48,49,50,51,52,53,54]) <|
 r [bAk 55 44 1,V 44 55] [55]) <|
 R [M 57 12 2,V 58 13,M 59 3 6,B 60 n_expr_typeOf [t 57,t 58,t 59],O 56 (.mvP true (t 60)),O 61 (.extract 56 0),O 62 (.extract 56 1),A 16 [z,z],S 16 61 2,O 17 (.mvP true (t 62))] [12,13,42,43,44,45,56,57,58,59,60,61,62] <|
 I [V 63 17,bNk 64 63 0] [63] 64 (R [O 65 (.build [z,z] [] []),V 66 11,V 67 17,S 4 65 2,V 5 66,V 6 67] [0,3,7,10,11,16,17,32,33,34,64,65,66,67] <|
 .ret) <|
 r [V 68 10,V 69 11,M 70 16 2,J 71 68 69 2,S 71 70 2] [11,16,17,64,68,69,70,71]) <|
 r [bAk 72 34 1,V 34 72] [72]) <|
 R [V 73 10,V 74 0,N 75 74,bSk 76 75 1,J 77 73 76 2,M 78 77 2,S 4 78 2,W 5 0,W 6 0] [0,3,7,10,32,33,34,35,73,74,75,76,77,78] <|
 .ret
theorem k_expr_TypeOf : fnOk Tryz.prog Tryz.f53 c_expr_TypeOf 79 2 [.c 4 2 true, .t 5, .t 6] = true := by kernel_rfl
abbrev u_expr_TypeOf := Tryz.func53
def c_expr_References : FC :=
 R [O 2 (.mv (.k (.arr []))),O 3 (.mv (.k (.arr []))),O 4 (.mv (.k (.arr [])))] [2,3,4] <|
 R [O 5 (.mv (.k (.arr []))),O 6 (.mv (.k (.arr []))),O 7 (.mv (.k (.arr [])))] [] <|
 Q (R [V 11 0,N 12 11,W 13 0] [] <|
 .block 0 <| .loop <| R [bL 14 13 12] [] <|
 Q (.cond (t 14) (.skip) (.exit 0)) <|
 Q (.block 1 <| R [J 15 11 13 2,M 16 15 2,A 9 [z,z],S 9 16 2] [14,15,16] <|
 R [F 17 9 0,L 18 17] [17] <|
 .block 2 <| R [bEk 20 18 7,V 19 20] [20] <|
 .cond (t 19) (r [V 21 5,F 22 9 1,L 23 22,O 24 (.buildSl [z] 1 [0] [t 23]),O 25 (.app (t 21) (t 24) 1 8),O 5 (.mvP true (t 25))] [9,18,19,21,22,23,24,25]) (R [bEk 27 18 8,V 26 27] [19,27] <|
 .cond (t 26) (r [V 28 6,F 29 9 1,L 30 29,O 31 (.buildSl [z] 1 [0] [t 30]),O 32 (.app (t 28) (t 31) 1 8),O 6 (.mvP true (t 32))] [9,18,26,28,29,30,31,32]) (E [bEk 34 18 36,V 33 34] [26,34] 33 (.skip) (R [bEk 35 18 37,V 33 35] [35] <|
 .cond (t 33) (.skip) (R [bEk 36 18 38,V 33 36] [36] <|
 .cond (t 33) (.skip) (r [bEk 37 18 39,V 33 37] [18,37]))) <|
 .cond (t 33) (r [V 38 7,F 39 9 1,L 40 39,O 41 (.buildSl [z] 1 [0] [t 40]),O 42 (.app (t 38) (t 41) 1 8),O 7 (.mvP true (t 42))] [9,18,33,38,39,40,41,42]) (.skip)))) <|
 r [bAk 43 13 1,V 13 43] [9,18,33,43]) <|
 R [O 10 (.mv (.k (.fn n_expr_References_1 [])))] [0,11,12,13,14] <|
 R [V 44 10,V 45 5,⟨46,.callF (t 44) [(true,t 45)],none⟩,V 47 10,V 48 6,⟨49,.callF (t 47) [(true,t 48)],none⟩,V 50 10,V 51 7,⟨52,.callF (t 50) [(true,t 51)],none⟩,O 2 (.mvP true (t 46)),O 3 (.mvP true (t 49)),O 4 (.mvP true (t 52))] [5,6,7,10,44,45,46,47,48,49,50,51,52] <|
 .ret
theorem k_expr_References : fnOk Tryz.prog Tryz.f89 c_expr_References 53 1 [.t 2, .t 3, .t 4] = true := by kernel_rfl
abbrev u_expr_References := Tryz.func89
def c_same_Rule : FC :=
 R [X 2 0,X 3 1,O 4 (.mv (.k (.bool false)))] [0,1,4] <|
 R [F 5 2 0,L 6 5,F 7 3 0,L 8 7,bE 9 6 8,V 10 9,G 10 (F 11 2 1),G 10 (L 12 11),G 10 (F 13 3 1),G 10 (L 14 13),G 10 (bE 15 12 14),Pa 16 10 15,V 17 16,G 17 (F 18 2 2),G 17 (L 19 18),G 17 (F 20 3 2),G 17 (L 21 20),G 17 (bE 22 19 21),Pa 23 17 22,V 24 23,G 24 (F 25 2 3),G 24 (L 26 25),G 24 (F 27 3 3),G 24 (L 28 27),G 24 (bE 29 26 28),Pa 30 24 29,V 31 30,G 31 (F 32 2 4),G 31 (M 33 32 2),G 31 (F 34 3 4),G 31 (M 35 34 2),G 31 (O 36 (.eqS false [0,0] (t 33) (t 35))),Pa 37 31 36,V 38 37,G 38 (F 39 2 8),G 38 (L 40 39),G 38 (F 41 3 8),G 38 (L 42 41),G 38 (bE 43 40 42),Pa 44 38 43,V 45 44,G 45 (F 46 2 6),G 45 (L 47 46),G 45 (F 48 3 6),G 45 (L 49 48),G 45 (C 50 n_same_Nodes [t 47,t 49]),Pa 51 45 50,V 52 51,G 52 (F 53 2 7),G 52 (L 54 53),G 52 (F 55 3 7),G 52 (L 56 55),G 52 (C 57 n_same_Nodes [t 54,t 56]),Pa 58 52 57,V 4 58] [2,3,5,6,7,8,9,10,11,12,13,14,15,16,17,18,19,20,21,22,23,24,25,26,27,28,29,30,31,32,33,34,35,36,37,38,39,40,41,42,43,44,45,46,47,48,49,50,51,52,53,54,55,56,57,58] <|
 .ret
theorem k_same_Rule : fnOk Tryz.prog Tryz.f183 c_same_Rule 59 2 [.t 4] = true := by kernel_rfl
abbrev u_same_Rule := Tryz.func183
def c_daterange_proper : FC :=
 R [X 1 0,O 2 (.mv (.k (.bool false)))] [0,2] <|
 R [M 3 1 2,C 4 n_daterange_Valid [t 3],V 5 4,G 5 (F 6 1 0),G 5 (L 7 6),G 5 (F 8 1 1),G 5 (L 9 8),G 5 (bL 10 7 9),Pa 11 5 10,V 2 11] [1,3,4,5,6,7,8,9,10,11] <|
 .ret
theorem k_daterange_proper : fnOk Tryz.prog Tryz.f170 c_daterange_proper 12 1 [.t 2] = true := by kernel_rfl
abbrev u_daterange_proper := Tryz.func170
def c_expr_starts : FC :=
 R [O 2 (.mv (.k (.arr []))),W 3 0,W 4 0] [2,3,4] <|
 I [V 11 0,N 12 11,bGk 13 12 48] [11,12] 13 (R [O 2 (.mv (.k (.arr []))),W 3 0,W 4 4] [0,13] <|
 .ret) <|
 I [V 14 0,N 15 14,bEk 16 15 0] [13,14,15] 16 (R [O 2 (.mv (.k (.arr []))),W 3 0,W 4 5] [0,16] <|
 .ret) <|
 R [O 5 (.mv (.k (.arr []))),O 6 (.mv (.k (.arr [])))] [16] <|
 Q (R [V 17 0,N 18 17,W 19 0] [] <|
 .block 0 <| .loop <| R [bL 20 19 18] [] <|
 Q (.cond (t 20) (.skip) (.exit 0)) <|
 Q (.block 1 <| R [V 21 19,J 22 17 19 2,M 23 22 2,A 8 [z,z],V 7 21,S 8 23 2] [20,21,22,23] <|
 R [F 24 8 0,L 25 24,C 26 n_expr_Arity [t 25],O 9 (.mvP true (t 26))] [8,24,25,26] <|
 I [V 27 9,bLk 28 27 0] [27] 28 (R [V 29 7,O 2 (.mv (.k (.arr []))),V 3 29,W 4 2] [0,6,7,9,17,18,19,28,29] <|
 .ret) <|
 I [V 30 9,V 31 6,N 32 31,bG 33 30 32] [28,30,31,32] 33 (R [V 34 7,O 2 (.mv (.k (.arr []))),V 3 34,W 4 5] [0,6,7,9,17,18,19,33,34] <|
 .ret) <|
 R [V 35 7,V 10 35] [33,35] <|
 I [V 36 9,bGk 37 36 0] [36] 37 (r [V 38 6,V 39 6,N 40 39,V 41 9,bS 42 40 41,J 43 38 42 1,L 44 43,V 10 44] [37,38,39,40,41,42,43,44]) <|
 R [V 45 6,V 46 6,N 47 46,V 48 9,bS 49 47 48,O 50 (.subSl (t 45) none (some (t 49)) 1),V 51 10,O 52 (.buildSl [z] 1 [0] [t 51]),O 53 (.app (t 50) (t 52) 1 8),O 6 (.mvP true (t 53))] [9,37,45,46,47,48,49,50,51,52,53] <|
 I [V 54 6,N 55 54,bGk 56 55 12] [54,55] 56 (R [V 57 7,O 2 (.mv (.k (.arr []))),V 3 57,W 4 16] [0,6,7,10,17,18,19,56,57] <|
 .ret) <|
 r [V 58 5,V 59 10,O 60 (.buildSl [z] 1 [0] [t 59]),O 61 (.app (t 58) (t 60) 1 8),O 5 (.mvP true (t 61))] [7,10,56,58,59,60,61]) <|
 r [bAk 62 19 1,V 19 62] [62]) <|
 I [V 63 6,N 64 63,bGk 65 64 1] [6,17,18,19,20,63,64] 65 (R [V 66 0,N 67 66,O 2 (.mv (.k (.arr []))),O 3 (.mvP true (t 67)),W 4 4] [0,65,66,67] <|
 .ret) <|
 R [V 68 5,V 2 68,W 3 0,W 4 0] [0,65] <|
 .ret
theorem k_expr_starts : fnOk Tryz.prog Tryz.f85 c_expr_starts 69 1 [.t 2, .t 3, .t 4] = true := by kernel_rfl
abbrev u_expr_starts := Tryz.func85
def c_expr_operands : FC :=
 R [O 6 (.mv (.k (.arr [])))] [6] <|
 R [V 11 0,V 12 2,J 13 11 12 2,F 14 13 0,L 15 14,C 16 n_expr_Arity [t 15],O 7 (.mvP true (t 16))] [0,11,12,13,14,15,16] <|
 R [V 17 7,O 18 (.makeSl [z] 8 (t 17) (t 17)),O 8 (.mvP true (t 18))] [17,18] <|
 R [V 19 2,bSk 20 19 1,V 9 20] [2,19,20] <|
 Q (R [V 21 7,bSk 22 21 1,V 10 22] [7,21,22] <|
 .block 0 <| .loop <| E [V 23 10,bHk 24 23 0] [23] 24 (.skip) (.exit 0) <|
 Q (.block 1 <| R [V 27 8,V 28 10,V 29 9,J 30 27 28 1,S 30 29 1] [24,27,28,29,30] <|
 r [V 31 1,V 32 9,J 33 31 32 1,L 34 33,bSk 35 34 1,V 9 35] [31,32,33,34,35]) <|
 r [V 25 10,bSk 26 25 1,V 10 26] [25,26]) <|
 R [V 36 8,V 6 36] [1,9,10,24] <|
 .ret
theorem k_expr_operands : fnOk Tryz.prog Tryz.f86 c_expr_operands 37 3 [.t 6] = true := by kernel_rfl
abbrev u_expr_operands := Tryz.func86
def c_expr_typeOf : FC :=
 R [X 3 0,X 5 2,A 6 [z,z],W 7 0] [0,2,7] <|
 Q (R [M 12 3 2,C 13 n_expr_number [t 12],O 8 (.mvP true (t 13))] [12,13] <|
 R [V 14 8,bNk 15 14 0] [14] <|
 .cond (t 15) (R [O 16 (.build [z,z] [] []),V 17 8,S 6 16 2,V 7 17] [1,3,5,8,15,16,17] <|
 .ret) (.skip)) <|
 I [V 18 1,N 19 18,bEk 20 19 0] [8,15,18,19] 20 (R [M 21 3 2,O 22 (.loadM true (t 5) 6 true),C 23 n_expr_leaf [t 21,t 22],O 24 (.extract 23 0),O 25 (.extract 23 1),S 6 24 2,O 7 (.mvP true (t 25))] [1,3,5,20,21,22,23,24,25] <|
 .ret) <|
 R [A 9 [z,z]] [20] <|
 I [F 26 3 0,L 27 26,bEk 28 27 33,V 29 28,H 29 (F 30 3 0),H 29 (L 31 30),H 29 (bEk 32 31 34),Po 33 29 32] [26,27,28,29,30,31,32] 33 (R [M 35 3 2,M 36 5 6,C 37 n_expr_table [t 35,t 36],O 34 (.mvP true (t 37)),O 38 (.extract 34 0),O 39 (.extract 34 1),A 10 [o,z,z,z,z,e],S 10 38 6,O 11 (.mvP true (t 39))] [33,34,35,36,37,38,39] <|
 I [V 40 11,bNk 41 40 0] [40] 41 (R [M 42 9 2,V 43 11,S 6 42 2,V 7 43] [1,3,5,9,10,11,41,42,43] <|
 .ret) <|
 Q (D 22 [F 44 10 1,M 45 44 2,F 46 5 0,L 47 46,C 48 n_value_ValidType [t 45,t 47],U 49 48,V 50 49,H 50 (F 51 10 3),H 50 (M 52 51 2),H 50 (F 53 5 0),H 50 (L 54 53),H 50 (C 55 n_value_ValidType [t 52,t 54]),H 50 (U 56 55),Po 57 50 56,V 58 57,H 58 (V 59 1),H 58 (O 60 (.ia (t 59) (K 0) 2)),H 58 (M 61 60 2),H 58 (F 62 10 1),H 58 (M 63 62 2),H 58 (O 64 (.eqS true [0,0] (t 61) (t 63))),Po 65 58 64] [1,5,11,41,44,45,46,47,48,49,50,51,52,53,54,55,56,57,58,59,60,61,62,63,64] <|
 .cond (t 65) (R [M 66 9 2,S 6 66 2,W 7 8] [3,9,10,65,66] <|
 .ret) (.skip)) <|
 I [F 67 3 0,L 68 67,bEk 69 68 33] [3,65,67,68] 69 (R [F 70 10 3,M 71 70 2,S 6 71 2,W 7 0] [9,10,69,70,71] <|
 .ret) <|
 I [F 72 10 1,F 73 72 0,L 74 73,bNk 75 74 3,V 76 75,H 76 (F 77 10 3),H 76 (F 78 77 0),H 76 (L 79 78),H 76 (bNk 80 79 4),Po 81 76 80] [10,69,72,73,74,75,76,77,78,79,80] 81 (R [M 82 9 2,S 6 82 2,W 7 8] [9,81,82] <|
 .ret) <|
 R [O 83 (.build [z,z] [(0,1)] [K 3]),S 6 83 2,W 7 0] [9,81,83] <|
 .ret) <|
 Q (R [F 84 3 0,L 85 84,V 86 1,C 87 n_expr_result [t 85,t 86],S 9 87 2] [1,3,5,33,84,85,86,87] <|
 R [F 88 9 0,L 89 88,bEk 90 89 0] [88,89] <|
 .cond (t 90) (R [M 91 9 2,S 6 91 2,W 7 8] [9,90,91] <|
 .ret) (.skip)) <|
 R [M 92 9 2,S 6 92 2,W 7 0] [9,90,92] <|
 .ret
theorem k_expr_typeOf : fnOk Tryz.prog Tryz.f87 c_expr_typeOf 93 3 [.c 6 2 true, .t 7] = true := by kernel_rfl
abbrev u_expr_typeOf := Tryz.func87
def c_expr_References_1 : FC :=
 R [O 2 (.mv (.k (.arr [])))] [2] <|
 R [V 3 0,⟨4,.callM n_slices_Sort_int_int (t 3) 0,none⟩] [3,4] <|
 R [V 5 0,⟨6,.call n_slices_Compact_int_int [(true,t 5)],none⟩,O 2 (.mvP true (t 6))] [0,5,6] <|
 .ret
theorem k_expr_References_1 : fnOk Tryz.prog Tryz.f131 c_expr_References_1 7 1 [.t 2] = true := by kernel_rfl
abbrev u_expr_References_1 := Tryz.func131
def c_same_Nodes : FC :=
 R [O 4 (.mv (.k (.bool false)))] [4] <|
 I [V 6 0,N 7 6,V 8 1,N 9 8,bN 10 7 9] [6,7,8,9] 10 (R [O 4 (.mv (.k (.bool false)))] [0,1,10] <|
 .ret) <|
 Q (R [W 5 0] [10] <|
 .block 0 <| .loop <| E [V 11 5,V 12 0,N 13 12,bL 14 11 13,V 15 14,G 15 (V 16 5),G 15 (V 17 1),G 15 (N 18 17),G 15 (bL 19 16 18),Pa 20 15 19] [11,12,13,14,15,16,17,18,19] 20 (.skip) (.exit 0) <|
 Q (.block 1 <| D 9 [V 23 0,V 24 5,J 25 23 24 2,M 26 25 2,V 27 1,V 28 5,J 29 27 28 2,M 30 29 2,O 31 (.eqS true [0,0] (t 26) (t 30))] [20,23,24,25,26,27,28,29,30] <|
 .cond (t 31) (R [O 4 (.mv (.k (.bool false)))] [0,1,5,31] <|
 .ret) (.skip)) <|
 r [V 21 5,bAk 22 21 1,V 5 22] [21,22,31]) <|
 R [O 4 (.mv (.k (.bool true)))] [0,1,5,20] <|
 .ret
theorem k_same_Nodes : fnOk Tryz.prog Tryz.f195 c_same_Nodes 32 2 [.t 4] = true := by kernel_rfl
abbrev u_same_Nodes := Tryz.func195
def c_expr_Arity : FC :=
 R [W 2 0] [2] <|
 Q (.block 0 <| R [V 4 0,bLk 5 4 1,V 6 5,H 6 (V 7 0),H 6 (bGk 8 7 39),Po 9 6 8,V 3 9] [4,5,6,7,8,9] <|
 .cond (t 3) (R [W 2 (-1)] [0,3] <|
 .ret) (R [V 11 0,bEk 12 11 26,V 10 12] [3,11,12] <|
 .cond (t 10) (R [W 2 3] [0,10] <|
 .ret) (E [V 14 0,bEk 15 14 10,V 13 15] [10,14,15] 13 (.skip) (R [V 16 0,bEk 17 16 25,V 13 17] [16,17] <|
 .cond (t 13) (.skip) (R [V 18 0,bEk 19 18 31,V 13 19] [18,19] <|
 .cond (t 13) (.skip) (R [V 20 0,bEk 21 20 32,V 13 21] [20,21] <|
 .cond (t 13) (.skip) (R [V 22 0,bEk 23 22 33,V 13 23] [22,23] <|
 .cond (t 13) (.skip) (r [V 24 0,bEk 25 24 34,V 13 25] [24,25]))))) <|
 .cond (t 13) (R [W 2 1] [0,13] <|
 .ret) (E [V 27 0,bMk 28 27 9,V 26 28] [13,27,28] 26 (.skip) (r [V 29 0,bHk 30 29 35,V 26 30] [0,29,30]) <|
 .cond (t 26) (R [W 2 0] [0,26] <|
 .ret) (.skip))))) <|
 R [W 2 2] [0,26] <|
 .ret
theorem k_expr_Arity : fnOk Tryz.prog Tryz.f126 c_expr_Arity 31 1 [.t 2] = true := by kernel_rfl
abbrev u_expr_Arity := Tryz.func126
def c_expr_number : FC :=
 R [X 1 0,W 2 0] [0,2] <|
 I [F 5 1 1,L 6 5,bNk 7 6 0,V 8 7,G 8 (F 9 1 0),G 8 (L 10 9),G 8 (C 11 n_expr_meaning [t 10]),G 8 (U 12 11),Pa 13 8 12] [5,6,7,8,9,10,11,12] 13 (R [W 2 2] [1,13] <|
 .ret) <|
 Q (R [F 14 1 0,L 15 14] [13,14] <|
 .block 0 <| E [bEk 17 15 1,V 16 17] [17] 16 (.skip) (R [bEk 18 15 2,V 16 18] [18] <|
 .cond (t 16) (.skip) (R [bEk 19 15 3,V 16 19] [19] <|
 .cond (t 16) (.skip) (R [bEk 20 15 4,V 16 20] [20] <|
 .cond (t 16) (.skip) (r [bEk 21 15 5,V 16 21] [21])))) <|
 .cond (t 16) (R [F 23 1 0,L 24 23,O 25 (.build [z,z] [(0,1)] [t 24]),C 26 n_value_Bounds [t 25,.k e],O 22 (.mvP true (t 26)),O 27 (.extract 22 0),O 28 (.extract 22 1),O 3 (.mvP true (t 27)),O 4 (.mvP true (t 28))] [15,16,22,23,24,25,26,27,28] <|
 R [F 29 1 1,L 30 29,V 31 3,bL 32 30 31,V 33 32,H 33 (F 34 1 1),H 33 (L 35 34),H 33 (V 36 4),H 33 (bG 37 35 36),Po 38 33 37] [1,3,4,29,30,31,32,33,34,35,36,37] <|
 .cond (t 38) (R [W 2 3] [38] <|
 .ret) (.skip)) (E [bEk 40 15 14,V 39 40] [16,40] 39 (.skip) (R [bEk 41 15 15,V 39 41] [41] <|
 .cond (t 39) (.skip) (r [bEk 42 15 16,V 39 42] [42])) <|
 .cond (t 39) (R [F 43 1 1,L 44 43,bLk 45 44 0,V 46 45,H 46 (F 47 1 1),H 46 (L 48 47),H 46 (bGk 49 48 5),Po 50 46 49] [1,15,39,43,44,45,46,47,48,49] <|
 .cond (t 50) (R [W 2 3] [50] <|
 .ret) (.skip)) (R [bEk 52 15 6,V 51 52] [39,52] <|
 .cond (t 51) (R [F 53 1 1,L 54 53,bLk 55 54 0] [1,15,51,53,54] <|
 .cond (t 55) (R [W 2 3] [55] <|
 .ret) (.skip)) (R [bEk 57 15 34,V 56 57] [15,51,57] <|
 .cond (t 56) (R [F 58 1 1,L 59 58,bLk 60 59 0,V 61 60,H 61 (F 62 1 1),H 61 (L 63 62),H 61 (O 64 (.bin .rem (t 63) (K 8))),H 61 (bGk 65 64 5),Po 66 61 65] [1,56,58,59,60,61,62,63,64,65] <|
 .cond (t 66) (R [W 2 3] [66] <|
 .ret) (.skip)) (.skip))))) <|
 R [W 2 0] [1,38,50,55,56,66] <|
 .ret
theorem k_expr_number : fnOk Tryz.prog Tryz.f127 c_expr_number 67 1 [.t 2] = true := by kernel_rfl
abbrev u_expr_number := Tryz.func127
def c_expr_leaf : FC :=
 R [X 2 0,X 3 1,A 4 [z,z],W 5 0] [0,1,5] <|
 R [A 6 [z,z]] [] <|
 R [W 7 0] [7] <|
 Q (R [F 10 2 0,L 11 10] [10] <|
 .block 0 <| R [bEk 16 11 6,V 15 16] [16] <|
 .cond (t 15) (R [F 18 3 0,L 19 18,F 20 2 1,L 21 20,O 22 (.bin .quo (t 21) (K 16)),C 23 n_expr_at_api_Enum [t 19,t 22],O 17 (.mvP true (t 23)),O 24 (.extract 17 0),O 25 (.extract 17 1),A 8 [o,e],S 8 24 2,O 9 (.mvP true (t 25))] [3,11,15,17,18,19,20,21,22,23,24,25] <|
 I [V 26 9,bEk 27 26 0] [26] 27 (r [F 29 8 1,L 30 29,F 31 2 1,L 32 31,O 33 (.bin .rem (t 32) (K 16)),C 34 n_expr_at_string [t 30,t 33],O 28 (.mvP true (t 34)),O 35 (.extract 28 0),O 36 (.extract 28 1),O 9 (.mvP true (t 36))] [8,27,28,29,30,31,32,33,34,35,36]) <|
 I [V 37 9,bNk 38 37 0] [8,27,37] 38 (R [M 39 6 2,V 40 9,S 4 39 2,V 5 40] [2,6,9,38,39,40] <|
 .ret) <|
 R [F 41 2 1,L 42 41,O 43 (.bin .quo (t 42) (K 16)),O 44 (.build [z,z] [(0,1),(1,1)] [K 6,t 43]),S 4 44 2,W 5 0] [2,6,9,38,41,42,43,44] <|
 .ret) (R [bEk 46 11 7,V 45 46] [15,46] <|
 .cond (t 45) (r [F 48 3 2,L 49 48,F 50 2 1,L 51 50,C 52 n_expr_at_api_Type [t 49,t 51],O 47 (.mvP true (t 52)),O 53 (.extract 47 0),O 54 (.extract 47 1),S 6 53 2,O 7 (.mvP true (t 54))] [11,45,47,48,49,50,51,52,53,54]) (R [bEk 56 11 8,V 55 56] [45,56] <|
 .cond (t 55) (r [F 58 3 3,L 59 58,F 60 2 1,L 61 60,C 62 n_expr_at_api_Type [t 59,t 61],O 57 (.mvP true (t 62)),O 63 (.extract 57 0),O 64 (.extract 57 1),S 6 63 2,O 7 (.mvP true (t 64))] [11,55,57,58,59,60,61,62,63,64]) (R [bEk 66 11 9,V 65 66] [55,66] <|
 .cond (t 65) (R [O 67 (.build [z,z] [(0,1)] [K 5]),S 4 67 2,W 5 0] [2,3,6,11,65,67] <|
 .ret) (E [bEk 69 11 35,V 68 69] [65,69] 68 (.skip) (R [bEk 70 11 36,V 68 70] [70] <|
 .cond (t 68) (.skip) (R [bEk 71 11 37,V 68 71] [71] <|
 .cond (t 68) (.skip) (R [bEk 72 11 38,V 68 72] [72] <|
 .cond (t 68) (.skip) (r [bEk 73 11 39,V 68 73] [11,73])))) <|
 .cond (t 68) (I [F 74 3 5,L 75 74,U 76 75] [11,68,74,75] 76 (R [M 77 6 2,S 4 77 2,W 5 6] [2,3,6,76,77] <|
 .ret) <|
 I [F 78 2 0,L 79 78,bEk 80 79 35] [76,78,79] 80 (R [O 81 (.build [z,z] [(0,1)] [K 2]),S 4 81 2,W 5 0] [2,3,6,80,81] <|
 .ret) <|
 r [F 83 3 4,L 84 83,F 85 2 1,L 86 85,C 87 n_expr_at_api_Type [t 84,t 86],O 82 (.mvP true (t 87)),O 88 (.extract 82 0),O 89 (.extract 82 1),S 6 88 2,O 7 (.mvP true (t 89))] [80,82,83,84,85,86,87,88,89]) (R [F 12 2 0,L 13 12,O 14 (.build [z,z] [(0,1)] [t 13]),S 4 14 2,W 5 0] [2,3,6,11,12,13,14,68] <|
 .ret)))))) <|
 I [V 90 7,bNk 91 90 0] [90] 91 (R [O 92 (.build [z,z] [] []),V 93 7,S 4 92 2,V 5 93] [2,3,6,7,91,92,93] <|
 .ret) <|
 I [M 94 6 2,F 95 3 0,L 96 95,C 97 n_value_ValidType [t 94,t 96],U 98 97,V 99 98,H 99 (F 100 2 0),H 99 (L 101 100),H 99 (F 102 6 0),H 99 (L 103 102),H 99 (C 104 n_expr_aggregate [t 101,t 103]),H 99 (U 105 104),Po 106 99 105] [2,3,7,91,94,95,96,97,98,99,100,101,102,103,104,105] 106 (R [O 107 (.build [z,z] [] []),S 4 107 2,W 5 8] [6,106,107] <|
 .ret) <|
 R [M 108 6 2,S 4 108 2,W 5 0] [6,106,108] <|
 .ret
theorem k_expr_leaf : fnOk Tryz.prog Tryz.f128 c_expr_leaf 109 2 [.c 4 2 true, .t 5] = true := by kernel_rfl
abbrev u_expr_leaf := Tryz.func128
def c_expr_table : FC :=
 R [X 2 0,X 3 1,A 4 [o,z,z,z,z,e],W 5 0] [0,1,5] <|
 I [F 6 2 0,L 7 6,bEk 8 7 34] [6,7] 8 (R [F 9 3 1,L 10 9,F 11 2 1,L 12 11,O 13 (.bin .quo (t 12) (K 8)),C 14 n_expr_at_api_Table [t 10,t 13],O 15 (.extract 14 0),O 16 (.extract 14 1),S 4 15 6,O 5 (.mvP true (t 16))] [2,3,8,9,10,11,12,13,14,15,16] <|
 .ret) <|
 R [F 17 3 1,L 18 17,F 19 2 1,L 20 19,C 21 n_expr_at_api_Table [t 18,t 20],O 22 (.extract 21 0),O 23 (.extract 21 1),S 4 22 6,O 5 (.mvP true (t 23))] [2,3,8,17,18,19,20,21,22,23] <|
 .ret
theorem k_expr_table : fnOk Tryz.prog Tryz.f129 c_expr_table 24 2 [.c 4 6 true, .t 5] = true := by kernel_rfl
abbrev u_expr_table := Tryz.func129
def c_expr_result : FC :=
 R [A 4 [z,z]] [] <|
 R [O 5 (.mv (.k (.fn n_expr_result_1 [])))] [] <|
 R [V 8 1,O 9 (.ia (t 8) (K 0) 2),M 10 9 2,A 6 [z,z],S 6 10 2] [8,9,10] <|
 R [A 7 [z,z]] [] <|
 I [V 11 1,N 12 11,bGk 13 12 1] [11,12] 13 (r [V 14 1,O 15 (.ia (t 14) (K 1) 2),M 16 15 2,S 7 16 2] [13,14,15,16]) <|
 Q (R [V 17 0] [13] <|
 .block 0 <| R [bEk 19 17 10,V 18 19] [19] <|
 .cond (t 18) (D 8 [V 20 5,F 21 6 0,L 22 21,F 23 6 0,L 24 23,C 25 n_expr_numeric [t 24],⟨26,.callV (t 20) [t 22,t 25],none⟩,⟨4,.storeW (t 26) 2,none⟩] [0,1,5,6,7,17,18,20,21,22,23,24,25,26] <|
 .ret) (E [bEk 28 17 11,V 27 28] [18,28] 27 (.skip) (r [bEk 29 17 12,V 27 29] [29]) <|
 .cond (t 27) (D 13 [V 30 5,F 31 6 0,L 32 31,M 33 6 2,M 34 7 2,O 35 (.eqS false [0,0] (t 33) (t 34)),V 36 35,G 36 (F 37 6 0),G 36 (L 38 37),G 36 (C 39 n_expr_numeric [t 38]),Pa 40 36 39,⟨41,.callV (t 30) [t 32,t 40],none⟩,⟨4,.storeW (t 41) 2,none⟩] [0,1,5,6,7,17,27,30,31,32,33,34,35,36,37,38,39,40,41] <|
 .ret) (E [bEk 43 17 13,V 42 43] [27,43] 42 (.skip) (R [bEk 44 17 14,V 42 44] [44] <|
 .cond (t 42) (.skip) (R [bEk 45 17 15,V 42 45] [45] <|
 .cond (t 42) (.skip) (r [bEk 46 17 16,V 42 46] [46]))) <|
 .cond (t 42) (R [V 47 5,V 48 0,F 49 6 0,L 50 49,F 51 7 0,L 52 51,C 53 n_expr_arithmetic [t 48,t 50,t 52],⟨54,.callV (t 47) [t 53,.k (.bool true)],none⟩,S 4 54 2] [0,1,5,6,7,17,42,47,48,49,50,51,52,53,54] <|
 .ret) (E [bEk 56 17 17,V 55 56] [0,42,56] 55 (.skip) (r [bEk 57 17 18,V 55 57] [57]) <|
 .cond (t 55) (D 13 [V 58 5,F 59 6 0,L 60 59,M 61 6 2,M 62 7 2,O 63 (.eqS false [0,0] (t 61) (t 62)),V 64 63,G 64 (F 65 6 0),G 64 (L 66 65),G 64 (C 67 n_expr_ordered [t 66]),Pa 68 64 67,⟨69,.callV (t 58) [t 60,t 68],none⟩,⟨4,.storeW (t 69) 2,none⟩] [1,5,6,7,17,55,58,59,60,61,62,63,64,65,66,67,68,69] <|
 .ret) (E [bEk 71 17 19,V 70 71] [55,71] 70 (.skip) (r [bEk 72 17 20,V 70 72] [72]) <|
 .cond (t 70) (R [V 73 5,M 74 6 2,M 75 7 2,O 76 (.eqS false [0,0] (t 74) (t 75)),⟨77,.callV (t 73) [K 1,t 76],none⟩,S 4 77 2] [1,5,6,7,17,70,73,74,75,76,77] <|
 .ret) (E [bEk 79 17 21,V 78 79] [70,79] 78 (.skip) (r [bEk 80 17 22,V 78 80] [80]) <|
 .cond (t 78) (R [V 81 5,M 82 6 2,M 83 7 2,O 84 (.eqS false [0,0] (t 82) (t 83)),V 85 84,G 85 (F 86 6 0),G 85 (L 87 86),G 85 (C 88 n_expr_ordered [t 87]),Pa 89 85 88,⟨90,.callV (t 81) [K 1,t 89],none⟩,S 4 90 2] [1,5,6,7,17,78,81,82,83,84,85,86,87,88,89,90] <|
 .ret) (E [bEk 92 17 23,V 91 92] [78,92] 91 (.skip) (r [bEk 93 17 24,V 91 93] [93]) <|
 .cond (t 91) (R [V 94 5,F 95 6 0,L 96 95,bEk 97 96 1,V 98 97,G 98 (F 99 7 0),G 98 (L 100 99),G 98 (bEk 101 100 1),Pa 102 98 101,⟨103,.callV (t 94) [K 1,t 102],none⟩,S 4 103 2] [1,5,6,7,17,91,94,95,96,97,98,99,100,101,102,103] <|
 .ret) (R [bEk 105 17 25,V 104 105] [91,105] <|
 .cond (t 104) (R [V 106 5,F 107 6 0,L 108 107,bEk 109 108 1,⟨110,.callV (t 106) [K 1,t 109],none⟩,S 4 110 2] [1,5,6,7,17,104,106,107,108,109,110] <|
 .ret) (R [bEk 112 17 26,V 111 112] [104,112] <|
 .cond (t 111) (Q (D 10 [F 113 6 0,L 114 113,bEk 115 114 1,V 116 115,G 116 (M 117 7 2),G 116 (V 118 1),G 116 (O 119 (.ia (t 118) (K 2) 2)),G 116 (M 120 119 2),G 116 (O 121 (.eqS false [0,0] (t 117) (t 120))),Pa 122 116 121] [1,5,6,17,111,113,114,115,116,117,118,119,120,121] <|
 .cond (t 122) (R [M 123 7 2,S 4 123 2] [7,122,123] <|
 .ret) (.skip)) <|
 R [O 124 (.build [z,z] [] []),S 4 124 2] [7,122,124] <|
 .ret) (E [bEk 126 17 27,V 125 126] [1,111,126] 125 (.skip) (r [bEk 127 17 28,V 125 127] [127]) <|
 .cond (t 125) (R [V 128 5,F 129 6 0,L 130 129,bEk 131 130 5,V 132 131,G 132 (F 133 7 0),G 132 (L 134 133),G 132 (bEk 135 134 2),Pa 136 132 135,⟨137,.callV (t 128) [K 5,t 136],none⟩,S 4 137 2] [5,6,7,17,125,128,129,130,131,132,133,134,135,136,137] <|
 .ret) (E [bEk 139 17 29,V 138 139] [125,139] 138 (.skip) (r [bEk 140 17 30,V 138 140] [17,140]) <|
 .cond (t 138) (R [V 141 5,F 142 6 0,L 143 142,bEk 144 143 5,V 145 144,G 145 (F 146 7 0),G 145 (L 147 146),G 145 (bEk 148 147 5),Pa 149 145 148,⟨150,.callV (t 141) [K 2,t 149],none⟩,S 4 150 2] [5,6,7,17,138,141,142,143,144,145,146,147,148,149,150] <|
 .ret) (.skip)))))))))))) <|
 R [V 151 5,F 152 6 0,L 153 152,bEk 154 153 5,⟨155,.callV (t 151) [K 2,t 154],none⟩,S 4 155 2] [5,6,7,17,138,151,152,153,154,155] <|
 .ret
theorem k_expr_result : fnOk Tryz.prog Tryz.f130 c_expr_result 156 2 [.c 4 2 true] = true := by kernel_rfl
abbrev u_expr_result := Tryz.func130
def c_expr_meaning : FC :=
 R [O 2 (.mv (.k (.bool false)))] [2] <|
 Q (R [V 3 0] [] <|
 .block 0 <| E [bEk 5 3 7,V 4 5] [5] 4 (.skip) (R [bEk 6 3 8,V 4 6] [6] <|
 .cond (t 4) (.skip) (R [bEk 7 3 14,V 4 7] [7] <|
 .cond (t 4) (.skip) (R [bEk 8 3 15,V 4 8] [8] <|
 .cond (t 4) (.skip) (R [bEk 9 3 16,V 4 9] [9] <|
 .cond (t 4) (.skip) (R [bEk 10 3 33,V 4 10] [10] <|
 .cond (t 4) (.skip) (R [bEk 11 3 34,V 4 11] [11] <|
 .cond (t 4) (.skip) (R [bEk 12 3 36,V 4 12] [12] <|
 .cond (t 4) (.skip) (R [bEk 13 3 37,V 4 13] [13] <|
 .cond (t 4) (.skip) (R [bEk 14 3 38,V 4 14] [14] <|
 .cond (t 4) (.skip) (r [bEk 15 3 39,V 4 15] [3,15])))))))))) <|
 .cond (t 4) (R [O 2 (.mv (.k (.bool true)))] [0,3,4] <|
 .ret) (.skip)) <|
 R [V 16 0,C 17 n_expr_literal [t 16],bGk 18 17 0,V 2 18] [0,3,4,16,17,18] <|
 .ret
theorem k_expr_meaning : fnOk Tryz.prog Tryz.f146 c_expr_meaning 19 1 [.t 2] = true := by kernel_rfl
abbrev u_expr_meaning := Tryz.func146
def c_expr_at_api_Enum : FC :=
 R [A 4 [o,e],W 5 0] [5] <|
 I [V 7 1,bLk 8 7 0,V 9 8,H 9 (V 10 1),H 9 (V 11 0),H 9 (N 12 11),H 9 (bH 13 10 12),Po 14 9 13] [7,8,9,10,11,12,13] 14 (R [A 6 [o,e]] [0,1,14] <|
 R [O 15 (.loadM true (t 6) 2 true),S 4 15 2,W 5 6] [6,15] <|
 .ret) <|
 R [V 16 0,V 17 1,J 18 16 17 2,M 19 18 2,S 4 19 2,W 5 0] [0,1,14,16,17,18,19] <|
 .ret
theorem k_expr_at_api_Enum : fnOk Tryz.prog Tryz.f147 c_expr_at_api_Enum 20 2 [.c 4 2 true, .t 5] = true := by kernel_rfl
abbrev u_expr_at_api_Enum := Tryz.func147
def c_expr_at_string : FC :=
 R [O 4 (.mv (.k o)),W 5 0] [4,5] <|
 I [V 7 1,bLk 8 7 0,V 9 8,H 9 (V 10 1),H 9 (V 11 0),H 9 (N 12 11),H 9 (bH 13 10 12),Po 14 9 13] [7,8,9,10,11,12,13] 14 (R [O 6 (.mv (.k o))] [0,1,14] <|
 R [V 15 6,V 4 15,W 5 6] [6,15] <|
 .ret) <|
 R [V 16 0,V 17 1,J 18 16 17 1,L 19 18,V 4 19,W 5 0] [0,1,14,16,17,18,19] <|
 .ret
theorem k_expr_at_string : fnOk Tryz.prog Tryz.f148 c_expr_at_string 20 2 [.t 4, .t 5] = true := by kernel_rfl
abbrev u_expr_at_string := Tryz.func148
def c_expr_at_api_Type : FC :=
 R [A 4 [z,z],W 5 0] [5] <|
 I [V 7 1,bLk 8 7 0,V 9 8,H 9 (V 10 1),H 9 (V 11 0),H 9 (N 12 11),H 9 (bH 13 10 12),Po 14 9 13] [7,8,9,10,11,12,13] 14 (R [A 6 [z,z]] [0,1,14] <|
 R [M 15 6 2,S 4 15 2,W 5 6] [6,15] <|
 .ret) <|
 R [V 16 0,V 17 1,J 18 16 17 2,M 19 18 2,S 4 19 2,W 5 0] [0,1,14,16,17,18,19] <|
 .ret
theorem k_expr_at_api_Type : fnOk Tryz.prog Tryz.f149 c_expr_at_api_Type 20 2 [.c 4 2 true, .t 5] = true := by kernel_rfl
abbrev u_expr_at_api_Type := Tryz.func149
def c_expr_aggregate : FC :=
 R [O 4 (.mv (.k (.bool false)))] [4] <|
 Q (R [V 5 0] [0] <|
 .block 0 <| R [bEk 7 5 36,V 6 7] [7] <|
 .cond (t 6) (R [V 8 1,bEk 9 8 2,V 10 9,H 10 (V 11 1),H 10 (bEk 12 11 3),Po 13 10 12,V 4 13] [1,5,6,8,9,10,11,12,13] <|
 .ret) (E [bEk 15 5 37,V 14 15] [6,15] 14 (.skip) (r [bEk 16 5 38,V 14 16] [16]) <|
 .cond (t 14) (R [V 17 1,bEk 18 17 1,V 4 18] [1,5,14,17,18] <|
 .ret) (R [bEk 20 5 39,V 19 20] [5,14,20] <|
 .cond (t 19) (R [V 21 1,C 22 n_expr_ordered [t 21],O 4 (.mvP true (t 22))] [1,19,21,22] <|
 .ret) (.skip)))) <|
 R [O 4 (.mv (.k (.bool true)))] [1,19] <|
 .ret
theorem k_expr_aggregate : fnOk Tryz.prog Tryz.f150 c_expr_aggregate 23 2 [.t 4] = true := by kernel_rfl
abbrev u_expr_aggregate := Tryz.func150
def c_expr_at_api_Table : FC :=
 R [A 4 [o,z,z,z,z,e],W 5 0] [5] <|
 I [V 7 1,bLk 8 7 0,V 9 8,H 9 (V 10 1),H 9 (V 11 0),H 9 (N 12 11),H 9 (bH 13 10 12),Po 14 9 13] [7,8,9,10,11,12,13] 14 (R [A 6 [o,z,z,z,z,e]] [0,1,14] <|
 R [O 15 (.loadM true (t 6) 6 true),S 4 15 6,W 5 6] [6,15] <|
 .ret) <|
 R [V 16 0,V 17 1,J 18 16 17 6,M 19 18 6,S 4 19 6,W 5 0] [0,1,14,16,17,18,19] <|
 .ret
theorem k_expr_at_api_Table : fnOk Tryz.prog Tryz.f151 c_expr_at_api_Table 20 2 [.c 4 6 true, .t 5] = true := by kernel_rfl
abbrev u_expr_at_api_Table := Tryz.func151
def c_expr_result_1 : FC :=
 R [A 4 [z,z]] [] <|
 I [V 5 1,U 6 5] [1,5] 6 (R [O 7 (.build [z,z] [] []),S 4 7 2] [0,6,7] <|
 .ret) <|
 R [V 8 0,O 9 (.build [z,z] [(0,1)] [t 8]),S 4 9 2] [0,6,8,9] <|
 .ret
theorem k_expr_result_1 : fnOk Tryz.prog Tryz.f152 c_expr_result_1 10 2 [.c 4 2 true] = true := by kernel_rfl
abbrev u_expr_result_1 := Tryz.func152
def c_expr_numeric : FC :=
 R [O 2 (.mv (.k (.bool false)))] [2] <|
 R [V 3 0,bEk 4 3 2,V 5 4,H 5 (V 6 0),H 5 (bEk 7 6 3),Po 8 5 7,V 9 8,H 9 (V 10 0),H 9 (bEk 11 10 4),Po 12 9 11,V 2 12] [0,3,4,5,6,7,8,9,10,11,12] <|
 .ret
theorem k_expr_numeric : fnOk Tryz.prog Tryz.f153 c_expr_numeric 13 1 [.t 2] = true := by kernel_rfl
abbrev u_expr_numeric := Tryz.func153
def c_expr_arithmetic : FC :=
 R [W 6 0] [6] <|
 Q (.block 0 <| R [V 8 0,bEk 9 8 13,V 10 9,G 10 (V 11 2),G 10 (bEk 12 11 2),Pa 13 10 12,V 14 13,G 14 (V 15 1),G 14 (bEk 16 15 2),G 14 (V 17 16),H 17 (V 18 1),H 17 (bEk 19 18 3),G 14 (Po 20 17 19),Pa 21 14 20,V 7 21] [8,9,10,11,12,13,14,15,16,17,18,19,20,21] <|
 .cond (t 7) (R [V 22 1,V 6 22] [0,1,2,7,22] <|
 .ret) (R [V 24 0,bEk 25 24 14,V 26 25,G 26 (V 27 2),G 26 (bEk 28 27 4),Pa 29 26 28,V 30 29,G 30 (V 31 1),G 30 (bEk 32 31 3),G 30 (V 33 32),H 33 (V 34 1),H 33 (bEk 35 34 4),G 30 (Po 36 33 35),Pa 37 30 36,V 23 37] [7,24,25,26,27,28,29,30,31,32,33,34,35,36,37] <|
 .cond (t 23) (R [V 38 1,V 6 38] [0,1,2,23,38] <|
 .ret) (R [V 40 0,bEk 41 40 15,V 42 41,G 42 (V 43 2),G 42 (bEk 44 43 2),Pa 45 42 44,V 46 45,G 46 (V 47 1),G 46 (bEk 48 47 2),G 46 (V 49 48),H 49 (V 50 1),H 49 (bEk 51 50 3),G 46 (Po 52 49 51),Pa 53 46 52,V 39 53] [23,40,41,42,43,44,45,46,47,48,49,50,51,52,53] <|
 .cond (t 39) (R [V 54 1,V 6 54] [0,1,2,39,54] <|
 .ret) (R [V 56 0,bEk 57 56 15,V 58 57,G 58 (V 59 1),G 58 (bEk 60 59 3),Pa 61 58 60,V 62 61,G 62 (V 63 2),G 62 (bEk 64 63 3),Pa 65 62 64,V 55 65] [39,56,57,58,59,60,61,62,63,64,65] <|
 .cond (t 55) (R [W 6 4] [0,1,2,55] <|
 .ret) (R [V 67 0,bEk 68 67 16,V 69 68,G 69 (V 70 1),G 69 (bEk 71 70 3),Pa 72 69 71,V 73 72,G 73 (V 74 2),G 73 (bEk 75 74 3),Pa 76 73 75,V 66 76] [0,1,2,55,67,68,69,70,71,72,73,74,75,76] <|
 .cond (t 66) (R [W 6 3] [66] <|
 .ret) (.skip)))))) <|
 R [W 6 0] [66] <|
 .ret
theorem k_expr_arithmetic : fnOk Tryz.prog Tryz.f154 c_expr_arithmetic 77 3 [.t 6] = true := by kernel_rfl
abbrev u_expr_arithmetic := Tryz.func154
def c_expr_ordered : FC :=
 R [O 2 (.mv (.k (.bool false)))] [2] <|
 R [V 3 0,C 4 n_expr_numeric [t 3],V 5 4,H 5 (V 6 0),H 5 (bEk 7 6 5),Po 8 5 7,V 2 8] [0,3,4,5,6,7,8] <|
 .ret
theorem k_expr_ordered : fnOk Tryz.prog Tryz.f155 c_expr_ordered 9 1 [.t 2] = true := by kernel_rfl
abbrev u_expr_ordered := Tryz.func155
def c_expr_literal : FC :=
 R [W 2 0] [2] <|
 I [V 3 0,bHk 4 3 1,V 5 4,G 5 (V 6 0),G 5 (bMk 7 6 6),Pa 8 5 7] [3,4,5,6,7] 8 (R [V 9 0,V 2 9] [0,8,9] <|
 .ret) <|
 R [W 2 0] [0,8] <|
 .ret
theorem k_expr_literal : fnOk Tryz.prog Tryz.f176 c_expr_literal 10 1 [.t 2] = true := by kernel_rfl
abbrev u_expr_literal := Tryz.func176
end Go.Fx.Tryz

namespace Go.Proofs
open Go.Shelf
def Tryz.lays144_ren : Go.Shelf.Ren := ⟨fun | 144 => 104 | 143 => 137 | 219 => 169 | 217 => 184 | 225 => 185 | 224 => 186 | 267 => 187 | 266 => 196 | 314 => 197 | n => n, fun | 9 => 9 | 4 => 4 | 3 => 3 | 5 => 5 | 46 => 168 | 146 => 212 | 51 => 194 | n => n, fun | 1 => 0 | n => n⟩
theorem Tryz.lays144 : Go.Proofs.Lays.n144 Tryz.prog Tryz.lays144_ren := {
  mixed := by kernel_rfl
  f143 := Tryz.func137.trans (congrArg some (by kernel_rfl))
  f144 := Tryz.func104.trans (congrArg some (by kernel_rfl))
  f217 := Tryz.func184.trans (congrArg some (by kernel_rfl))
  f219 := Tryz.func169.trans (congrArg some (by kernel_rfl))
  f224 := Tryz.func186.trans (congrArg some (by kernel_rfl))
  f225 := Tryz.func185.trans (congrArg some (by kernel_rfl))
  f266 := Tryz.func196.trans (congrArg some (by kernel_rfl))
  f267 := Tryz.func187.trans (congrArg some (by kernel_rfl))
  f314 := Tryz.func197.trans (congrArg some (by kernel_rfl))
  t3 := Tryz.underlying3
  a3 := Tryz.isAgg3
  z3 := Tryz.sizeOf3
  v3 := Tryz.zeroValue3
  t4 := Tryz.underlying4
  a4 := Tryz.isAgg4
  z4 := Tryz.sizeOf4
  v4 := Tryz.zeroValue4
  t5 := Tryz.underlying5
  a5 := Tryz.isAgg5
  z5 := Tryz.sizeOf5
  v5 := Tryz.zeroValue5
  t9 := Tryz.underlying9
  a9 := Tryz.isAgg9
  z9 := Tryz.sizeOf9
  v9 := Tryz.zeroValue9
  t46 := Tryz.underlying168
  a46 := Tryz.isAgg168
  z46 := Tryz.sizeOf168
  v46 := Tryz.zeroValue168
  t51 := Tryz.underlying194
  a51 := Tryz.isAgg194
  z51 := Tryz.sizeOf194
  v51 := Tryz.zeroValue194
  t146 := Tryz.underlying212
  a146 := Tryz.isAgg212
  z146 := Tryz.sizeOf212
  v146 := Tryz.zeroValue212
  g1 := by kernel_rfl }
open Go.RowKit Go.Lib in
theorem Tryz.strings_Contains (s sub : ByteArray) (m : Int) (w : World) (hs : s.size < 4294967281) (hm : w.cell? ⟨0, 0, none⟩ = some (.int .i64 m)) :
    Calls Tryz.prog 104 #[.string s, .string sub] w fun e w' => e = .returned (.bool (Lib.contains s.data.toList sub.data.toList)) ∧ w' = w := Any.strings_Contains Tryz.lays144 s sub m w hs hm
def Tryz.lays189_ren : Go.Shelf.Ren := ⟨fun | 189 => 90 | 125 => 133 | 257 => 132 | 128 => 165 | 129 => 166 | 294 => 156 | 295 => 157 | 296 => 158 | 297 => 159 | 298 => 160 | 299 => 161 | 216 => 162 | 300 => 163 | 301 => 164 | 328 => 177 | 329 => 178 | 330 => 179 | 331 => 180 | 332 => 181 | 215 => 182 | 343 => 194 | n => n, fun | 28 => 57 | 3 => 3 | 46 => 168 | 0 => 0 | 51 => 194 | 53 => 196 | 4 => 4 | 183 => 187 | 182 => 186 | 131 => 191 | 5 => 5 | 9 => 9 | 218 => 198 | 222 => 202 | 228 => 210 | 229 => 171 | n => n, fun | n => n⟩
theorem Tryz.lays189 : Go.Proofs.Lays.n189 Tryz.prog Tryz.lays189_ren := {
  mixed := by kernel_rfl
  f125 := Tryz.func133.trans (congrArg some (by kernel_rfl))
  f128 := Tryz.func165.trans (congrArg some (by kernel_rfl))
  f129 := Tryz.func166.trans (congrArg some (by kernel_rfl))
  f189 := Tryz.func90.trans (congrArg some (by kernel_rfl))
  f215 := Tryz.func182.trans (congrArg some (by kernel_rfl))
  f216 := Tryz.func162.trans (congrArg some (by kernel_rfl))
  f257 := Tryz.func132.trans (congrArg some (by kernel_rfl))
  f294 := Tryz.func156.trans (congrArg some (by kernel_rfl))
  f295 := Tryz.func157.trans (congrArg some (by kernel_rfl))
  f296 := Tryz.func158.trans (congrArg some (by kernel_rfl))
  f297 := Tryz.func159.trans (congrArg some (by kernel_rfl))
  f298 := Tryz.func160.trans (congrArg some (by kernel_rfl))
  f299 := Tryz.func161.trans (congrArg some (by kernel_rfl))
  f300 := Tryz.func163.trans (congrArg some (by kernel_rfl))
  f301 := Tryz.func164.trans (congrArg some (by kernel_rfl))
  f328 := Tryz.func177.trans (congrArg some (by kernel_rfl))
  f329 := Tryz.func178.trans (congrArg some (by kernel_rfl))
  f330 := Tryz.func179.trans (congrArg some (by kernel_rfl))
  f331 := Tryz.func180.trans (congrArg some (by kernel_rfl))
  f332 := Tryz.func181.trans (congrArg some (by kernel_rfl))
  f343 := Tryz.func194.trans (congrArg some (by kernel_rfl))
  t0 := Tryz.underlying0
  a0 := Tryz.isAgg0
  z0 := Tryz.sizeOf0
  v0 := Tryz.zeroValue0
  t3 := Tryz.underlying3
  a3 := Tryz.isAgg3
  z3 := Tryz.sizeOf3
  v3 := Tryz.zeroValue3
  t4 := Tryz.underlying4
  a4 := Tryz.isAgg4
  z4 := Tryz.sizeOf4
  v4 := Tryz.zeroValue4
  t5 := Tryz.underlying5
  a5 := Tryz.isAgg5
  z5 := Tryz.sizeOf5
  v5 := Tryz.zeroValue5
  t9 := Tryz.underlying9
  a9 := Tryz.isAgg9
  z9 := Tryz.sizeOf9
  v9 := Tryz.zeroValue9
  t28 := Tryz.underlying57
  a28 := Tryz.isAgg57
  z28 := Tryz.sizeOf57
  v28 := Tryz.zeroValue57
  t46 := Tryz.underlying168
  a46 := Tryz.isAgg168
  z46 := Tryz.sizeOf168
  v46 := Tryz.zeroValue168
  t51 := Tryz.underlying194
  a51 := Tryz.isAgg194
  z51 := Tryz.sizeOf194
  v51 := Tryz.zeroValue194
  t53 := Tryz.underlying196
  a53 := Tryz.isAgg196
  z53 := Tryz.sizeOf196
  v53 := Tryz.zeroValue196
  t131 := Tryz.underlying191
  a131 := Tryz.isAgg191
  z131 := Tryz.sizeOf191
  v131 := Tryz.zeroValue191
  t182 := Tryz.underlying186
  a182 := Tryz.isAgg186
  z182 := Tryz.sizeOf186
  v182 := Tryz.zeroValue186
  t183 := Tryz.underlying187
  a183 := Tryz.isAgg187
  z183 := Tryz.sizeOf187
  v183 := Tryz.zeroValue187
  t218 := Tryz.underlying198
  a218 := Tryz.isAgg198
  z218 := Tryz.sizeOf198
  v218 := Tryz.zeroValue198
  t222 := Tryz.underlying202
  a222 := Tryz.isAgg202
  z222 := Tryz.sizeOf202
  v222 := Tryz.zeroValue202
  t228 := Tryz.underlying210
  a228 := Tryz.isAgg210
  z228 := Tryz.sizeOf210
  v228 := Tryz.zeroValue210
  t229 := Tryz.underlying171
  a229 := Tryz.isAgg171
  z229 := Tryz.sizeOf171
  v229 := Tryz.zeroValue171 }
open Go.Sort Go.RowKit in
theorem Tryz.slices_Sort_int (blk off cap : Nat) (zs : List Int) (w : World) (hH : Holds (Value.int .i64) w blk off zs.toArray) (hblk : blk < w.heap.size) (hsz : zs.length < 4611686018427387904) :
    Calls Tryz.prog 90 #[.slice (some ⟨blk, off, none⟩) zs.length cap] w fun e w' =>
      e = .returned (.tuple #[]) ∧ ∃ n os, w' = grow (putRow (Value.int .i64) (Sort.ahead w n) blk off (zs.mergeSort fun x y => decide (x ≤ y)).toArray) os := Any.slices_Sort_int Tryz.lays189 blk off cap zs w hH hblk hsz
def Tryz.laysNm220_ren : Go.Shelf.Ren := ⟨fun | 20 => 91 | n => n, fun | 22 => 57 | 3 => 3 | 4 => 4 | 0 => 0 | n => n, fun | n => n⟩
theorem Tryz.laysNm220 : Go.Proofs.Lays2.n20 Tryz.prog Tryz.laysNm220_ren := {
  mixed := by kernel_rfl
  f20 := Tryz.func91.trans (congrArg some (by kernel_rfl))
  t0 := Tryz.underlying0
  a0 := Tryz.isAgg0
  z0 := Tryz.sizeOf0
  v0 := Tryz.zeroValue0
  t3 := Tryz.underlying3
  a3 := Tryz.isAgg3
  z3 := Tryz.sizeOf3
  v3 := Tryz.zeroValue3
  t4 := Tryz.underlying4
  a4 := Tryz.isAgg4
  z4 := Tryz.sizeOf4
  v4 := Tryz.zeroValue4
  t22 := Tryz.underlying57
  a22 := Tryz.isAgg57
  z22 := Tryz.sizeOf57
  v22 := Tryz.zeroValue57
  i3 := by kernel_rfl }
open Go.RowKit Go.Lib Go.Sort in
theorem Tryz.slices_Compact_int (blk off cap : Nat) (zs : List Int) (w : World) (hH : Holds (Value.int .i64) w blk off zs.toArray) (hsz : zs.length ≤ 9223372036854775807) (hcap : zs.length ≤ cap) :
    Calls Tryz.prog 91 #[.slice (some ⟨blk, off, none⟩) zs.length cap] w fun e w' => e = .returned (.slice (some ⟨blk, off, none⟩) (Lib.compact zs).length cap) ∧ ∃ q, w' = putRow (Value.int .i64) (Sort.ahead w q) blk off (Lib.compact zs ++ List.replicate (zs.length - (Lib.compact zs).length) 0).toArray := Any.slices_Compact_int Tryz.laysNm220 blk off cap zs w hH hsz hcap
open Go.RowKit Go.Lib Go.Sort in
theorem Tryz.slices_Compact_int_empty (a : Option Addr) (cap : Nat) (w : World) :
    Calls Tryz.prog 91 #[.slice a 0 cap] w fun e w' => e = .returned (.slice a 0 cap) ∧ w' = w := Any.slices_Compact_int_empty Tryz.laysNm220 a cap w
open Go.RowKit Go.Sort in
theorem Tryz.slices_Sort_int_none (p : Option Addr) (cap : Nat) (w : World) :
    Calls Tryz.prog 90 #[.slice p 0 cap] w fun e w' => e = .returned (.tuple #[]) ∧ w' = w := Any.slices_Sort_int_none Tryz.lays189 p cap w
end Go.Proofs
set_option linter.unusedVariables false
set_option linter.unusedSimpArgs false
namespace Go.Fm
open Go
inductive Ty where
  | bool | int (k : IntKind) | str | sl (e : Ty) | nil | cons (a b : Ty)
def Ty.cells : Ty → Nat
  | .bool | .int _ | .str | .sl _ => 1
  | .nil => 0
  | .cons a b => a.cells + b.cells
def Ty.has (B : Nat) : Ty → List FV → Prop
  | .bool, fs => ∃ b, fs = [.bool b]
  | .int k, fs => ∃ x, fs = [.int k x] ∧ (Lit.int k x).wf = true
  | .str, fs => ∃ s, fs = [.str s] ∧ s.length ≤ B
  | .sl e, fs => ∃ es, fs = [.sl false es] ∧ es.length ≤ B ∧ ∀ r ∈ es, e.has B r
  | .nil, fs => fs = []
  | .cons a b, fs => ∃ x y, fs = x ++ y ∧ a.has B x ∧ b.has B y
def tyFs (P : Program) (f : TypeId → Option Ty) : Nat → List (TypeId × Nat) → Option Ty
  | _, [] => some .nil
  | off, x :: xs => if x.2 = off then (f x.1).bind fun a => if P.cellsOf x.1 = a.cells then (tyFs P f (off + a.cells) xs).map (.cons a ·) else none else none
def tyOf (P : Program) : Nat → TypeId → Option Ty
  | 0, _ => none
  | n + 1, t => match P.underlying t with
    | some .bool => some .bool
    | some (.int k) => some (.int k)
    | some .string => some .str
    | some (.slice e) => (tyOf P n e).bind fun T => if P.cellsOf e = T.cells ∧ 0 < T.cells then some (.sl T) else none
    | some (.struct flds) => (tyFs P (tyOf P n) 0 (flds.toList.map fun f => (f.type, f.offset))).bind fun T => if P.cellsOf t = T.cells then some T else none
    | _ => none
structure Bnd {H : Type} (Bd : DataW H → Prop) (B : Nat) : Prop where
  str : ∀ {s}, Bd (.lit (.string s)) → s.length ≤ maxLen → s.length ≤ B
  sl : ∀ {es rest}, Bd (.slice es rest) → es.length ≤ maxLen → es.length ≤ B ∧ ∀ d ∈ es, Bd d
  agg : ∀ {xs}, Bd (.agg xs) → ∀ d ∈ xs, Bd d
theorem Ty.has_length {B : Nat} : ∀ {T : Ty} {fs : List FV}, T.has B fs → fs.length = T.cells
  | .bool, _, ⟨_, rfl⟩ | .int _, _, ⟨_, rfl, _⟩ | .str, _, ⟨_, rfl, _⟩ | .sl _, _, ⟨_, rfl, _⟩ => rfl
  | .nil, _, h => by obtain rfl : _ = [] := h; rfl
  | .cons a b, _, ⟨x, y, rfl, hx, hy⟩ => by simp [Ty.cells, has_length hx, has_length hy]
theorem mapM_some_iff {α β : Type} {f : α → Option β} : ∀ {l : List α} {r : List β}, l.mapM f = some r → l.length = r.length ∧ ∀ i : Nat, (l[i]?).bind f = r[i]?
  | [], r, h => by simp at h; subst h; simp
  | a :: l, r, h => by
    rw [List.mapM_cons] at h
    cases ha : f a with
    | none => simp [ha] at h
    | some b =>
      cases hl : l.mapM f with
      | none => simp [ha, hl] at h
      | some bs =>
        simp [ha, hl] at h
        subst h
        have ih := mapM_some_iff hl
        refine ⟨by simp [ih.1], fun i => ?_⟩
        cases i with
        | zero => simpa using ha
        | succ i => simpa using ih.2 i
theorem cells?_some {w : World} {a : Addr} {n : Nat} {cs : List Value} (h : w.cells? 0 a n = some cs) :
    cs.length = n ∧ ∀ k, k < n → w.cell? (a.add k) = cs[k]? := by
  unfold World.cells? at h
  rw [if_pos (Nat.zero_le _)] at h
  have := mapM_some_iff h
  refine ⟨by simpa using this.1.symm, fun k hk => ?_⟩
  have h2 := this.2 k
  rw [List.getElem?_range hk] at h2
  simpa using h2
theorem spot_none {w : World} {a : Addr} {v : Value} (h : w.cell? a = some v) : a = ⟨a.block, a.off, none⟩ ∧ a.block < w.heap.size := by
  obtain ⟨b, o, s⟩ := a
  unfold World.cell? at h
  cases e : w.heap[b]? with
  | none => simp [e] at h
  | some x =>
    refine ⟨?_, (Array.getElem?_eq_some_iff.1 e).1⟩
    cases s with
    | none => rfl
    | some s => cases x <;> simp [e] at h
def Reads (P : Program) (B : Nat) (w : World) (T : Ty) (cs : List Value) : Prop :=
  ∃ fs, T.has B fs ∧ Rep w.heap (fun b => b < w.heap.size) cs fs []
theorem reads_row {P : Program} {B : Nat} {w : World} {T : Ty} {st : Nat} : ∀ {rows : List (List Value)}, (∀ r ∈ rows, Reads P B w T r) →
    ∃ es : List (List FV), es.length = rows.length ∧ (∀ e ∈ es, T.has B e) ∧ Rep w.heap (fun b => b < w.heap.size) rows.flatten es.flatten []
  | [], _ => ⟨[], rfl, by simp, .nil⟩
  | r :: rows, h => by
    obtain ⟨f, h1, h2⟩ := h r (by simp)
    obtain ⟨es, h3, h4, h5⟩ := reads_row (st := st) (rows := rows) (fun r' m => h r' (List.mem_cons_of_mem _ m))
    exact ⟨f :: es, by simp [h3], by simp only [List.mem_cons]; rintro e (rfl | m); exact h1; exact h4 e m, by simpa using h2.append h5⟩
theorem flatten_get {α : Type} {st : Nat} : ∀ {rows : List (List α)}, (∀ r ∈ rows, r.length = st) → ∀ i j : Nat, j < st → rows.flatten[i * st + j]? = (rows[i]?).bind (·[j]?)
  | [], _, i, j, _ => by simp
  | r :: rows, h, i, j, hj => by
    have hr := h r (by simp)
    cases i with
    | zero => simp [List.getElem?_append, hr, hj]
    | succ i =>
      have := flatten_get (rows := rows) (fun r' m => h r' (by simp [m])) i j hj
      rw [List.flatten_cons, List.getElem?_append_right (by rw [hr, Nat.succ_mul]; omega)]
      rw [hr, Nat.succ_mul, show i * st + st + j - st = i * st + j by omega, this]
      simp
section
variable {H : Type} {enc : TypeId × Value → H} {P : Program} {w : World} {Bd : DataW H → Prop} {B : Nat}
theorem rep_struct {fuel n : Nat} {cs : List Value}
    (ih : ∀ t T c d ps, tyOf P n t = some T → DataW.trod enc P w 0 (fun _ => true) true fuel t c = some (d, ps) → Bd d → Reads P B w T c) :
    ∀ (flds : List (TypeId × Nat)) (off : Nat) (T : Ty) (xs : List (DataW H × List MemPlace)), tyFs P (tyOf P n) off flds = some T →
      (flds.mapM fun f => DataW.trod enc P w 0 (fun _ => true) true fuel f.1 ((cs.drop f.2).take (P.cellsOf f.1))) = some xs → (∀ x ∈ xs, Bd x.1) →
      cs.length = off + T.cells → Reads P B w T (cs.drop off)
  | [], off, T, xs, hT, hx, hb, hl => by
    simp [tyFs] at hT
    subst hT
    simp [Ty.cells] at hl
    exact ⟨[], rfl, by rw [List.drop_eq_nil_of_le (by omega)]; exact .nil⟩
  | f :: flds, off, T, xs, hT, hx, hb, hl => by
    simp only [tyFs] at hT
    split at hT
    case isFalse => cases hT
    case isTrue ho =>
    cases ha : tyOf P n f.1 with
    | none => simp [ha] at hT
    | some a =>
      simp only [ha, Option.bind_some] at hT
      split at hT
      case isFalse => cases hT
      case isTrue hc =>
      cases hr : tyFs P (tyOf P n) (off + a.cells) flds with
      | none => simp [hr] at hT
      | some b =>
        simp only [hr, Option.map_some, Option.some.injEq] at hT
        subst hT
        rw [List.mapM_cons] at hx
        cases h1 : DataW.trod enc P w 0 (fun _ => true) true fuel f.1 ((cs.drop f.2).take (P.cellsOf f.1)) with
        | none => simp [h1] at hx
        | some x =>
          cases h2 : (flds.mapM fun f => DataW.trod enc P w 0 (fun _ => true) true fuel f.1 ((cs.drop f.2).take (P.cellsOf f.1))) with
          | none => simp [h1, h2] at hx
          | some ys =>
            simp [h1, h2] at hx
            subst hx
            simp only [Ty.cells] at hl
            obtain ⟨fa, ha1, ha2⟩ := ih f.1 a _ x.1 x.2 ha h1 (hb x (by simp))
            obtain ⟨fb, hb1, hb2⟩ := rep_struct ih flds (off + a.cells) b ys hr h2 (fun y m => hb y (by simp [m])) (by omega)
            refine ⟨fa ++ fb, ⟨fa, fb, rfl, ha1, hb1⟩, ?_⟩
            have := ha2.append hb2
            rw [ho, hc] at this
            rwa [← List.drop_drop, List.take_append_drop] at this
theorem reads_of_trod (hB : Bnd Bd B) : ∀ (n fuel : Nat) (t : TypeId) (T : Ty) (cs : List Value) (d : DataW H) (ps : List MemPlace), tyOf P n t = some T →
    DataW.trod enc P w 0 (fun _ => true) true fuel t cs = some (d, ps) → Bd d → Reads P B w T cs
  | 0, _, _, _, _, _, _, hT, _, _ => by simp [tyOf] at hT
  | n + 1, 0, t, T, cs, d, ps, hT, ht, hd => by simp [DataW.trod] at ht
  | n + 1, fuel + 1, t, T, cs, d, ps, hT, ht, hd => by
    have ih := fun t T c d ps => reads_of_trod hB n fuel t T c d ps
    simp only [tyOf] at hT
    split at hT
    case h_6 => cases hT
    case h_1 hu =>
      simp only [Option.some.injEq] at hT
      subst hT
      unfold DataW.trod at ht
      rw [hu] at ht
      split at ht <;> simp_all
      obtain ⟨rfl, rfl⟩ := ht
      exact ⟨_, ⟨_, rfl⟩, .bool .nil⟩
    case h_2 k hu =>
      simp only [Option.some.injEq] at hT
      subst hT
      unfold DataW.trod at ht
      rw [hu] at ht
      split at ht <;> simp_all
      obtain ⟨⟨rfl, hw⟩, rfl, rfl⟩ := ht
      rename_i h1
      obtain rfl := h1
      exact ⟨_, ⟨_, rfl, hw⟩, .int .nil⟩
    case h_3 hu =>
      simp only [Option.some.injEq] at hT
      subst hT
      unfold DataW.trod at ht
      rw [hu] at ht
      split at ht <;> simp_all
      obtain ⟨hw, rfl, rfl⟩ := ht
      rename_i s
      obtain ⟨⟨s⟩⟩ := s
      exact ⟨_, ⟨s, rfl, hB.str hd (by simpa [ByteArray.size] using hw)⟩, .str .nil⟩
    case h_4 e hu =>
      cases he : tyOf P n e with
      | none => simp [he] at hT
      | some T' =>
      simp only [he, Option.bind_some] at hT
      split at hT
      case isFalse => cases hT
      case isTrue hc =>
      obtain ⟨hc, hpos⟩ := hc
      simp only [Option.some.injEq] at hT
      subst hT
      unfold DataW.trod at ht
      rw [hu] at ht
      split at ht <;> try (simp_all; done)
      · simp at ht
        exact ⟨[.sl false []], ⟨[], rfl, Nat.zero_le _, by simp⟩, .slNil .nil⟩
      · rename_i cs0 e' a len cap h2
        simp only [Option.some.injEq, TypeDesc.slice.injEq] at h2
        subst h2
        simp only [if_true] at ht
        split at ht
        case isFalse => cases ht
        case isTrue hl =>
        obtain ⟨_, hl1, hl2⟩ := hl
        cases hx : (List.mapM (fun i => (w.cells? 0 (a.add (i * P.cellsOf e)) (P.cellsOf e)).bind (DataW.trod enc P w 0 (fun _ => true) true fuel e)) (List.range len)) with
        | none => simp [hx] at ht
        | some xs =>
        cases hy : (List.mapM (fun j => (w.cells? 0 (a.add ((len + j) * P.cellsOf e)) (P.cellsOf e)).bind (DataW.trod enc P w 0 (fun _ => true) true fuel e)) (List.range (cap - len))) with
        | none => simp [hx, hy] at ht
        | some ys =>
        simp only [hx, hy, Option.map_some, Option.bind_some, Option.some.injEq, Prod.mk.injEq] at ht
        obtain ⟨rfl, rfl⟩ := ht
        obtain ⟨hxl, hxs⟩ := mapM_some_iff hx
        obtain ⟨hyl, hys⟩ := mapM_some_iff hy
        simp only [List.length_range] at hxl hyl
        by_cases hz : cap = 0
        · obtain rfl : len = 0 := by omega
          subst hz
          exact ⟨[.sl false []], ⟨[], rfl, Nat.zero_le _, by simp⟩, .slNil .nil⟩
        have hB2 := hB.sl hd (by simp; omega)
        have cell : ∀ i, i < len → ∃ c x, w.cells? 0 (a.add (i * P.cellsOf e)) (P.cellsOf e) = some c ∧ DataW.trod enc P w 0 (fun _ => true) true fuel e c = some x ∧ Bd x.1 := by
          intro i hi
          have h := hxs i
          rw [List.getElem?_range hi, Option.bind_some, List.getElem?_eq_getElem (by omega)] at h
          obtain ⟨c, h3, h4⟩ := Option.bind_eq_some_iff.1 h
          exact ⟨c, _, h3, h4, hB2.2 _ (List.mem_map.2 ⟨_, List.getElem_mem _, rfl⟩)⟩
        have first : a = ⟨a.block, a.off, none⟩ ∧ a.block < w.heap.size := by
          have : ∃ c, w.cells? 0 a (P.cellsOf e) = some c := by
            by_cases h0 : 0 < len
            · obtain ⟨c, _, h, _⟩ := cell 0 h0; exact ⟨c, by simpa [Addr.add] using h⟩
            · obtain rfl : len = 0 := by omega
              have h := hys 0
              rw [List.getElem?_range (by omega), Option.bind_some, List.getElem?_eq_getElem (by omega)] at h
              obtain ⟨c, h3, h4⟩ := Option.bind_eq_some_iff.1 h
              exact ⟨c, by simpa [Addr.add] using h3⟩
          obtain ⟨c, h⟩ := this
          have h2 := (cells?_some h).2 0 (by omega)
          rw [List.getElem?_eq_getElem (by rw [(cells?_some h).1]; omega)] at h2
          have := spot_none h2
          simpa [Addr.add] using this
        obtain ⟨bk, o, spt⟩ := a
        obtain ⟨rfl, hlt⟩ : spt = none ∧ bk < w.heap.size := by simpa using first
        let row : Nat → List Value := fun i => ((w.cells? 0 (Addr.add ⟨bk, o, none⟩ (i * P.cellsOf e)) (P.cellsOf e)).getD [])
        have hrow : ∀ i, i < len → Reads P B w T' (row i) ∧ (row i).length = T'.cells ∧ ∀ k, k < T'.cells → w.cell? ⟨bk, o + (i * T'.cells + k), none⟩ = (row i)[k]? := by
          intro i hi
          obtain ⟨c, x, h3, h4, h5⟩ := cell i hi
          have e1 : row i = c := by simp only [row, h3, Option.getD_some]
          rw [e1]
          obtain ⟨h6, h7⟩ := cells?_some h3
          refine ⟨ih e T' c x.1 x.2 he h4 h5, by rw [h6, hc], fun k hk => ?_⟩
          have := h7 k (by omega)
          rw [← this, ← hc]
          congr 1
          simp only [Addr.add]
          split <;> split <;> simp_all <;> omega
        obtain ⟨es, h3, h4, h5⟩ := reads_row (P := P) (B := B) (w := w) (T := T') (st := 0) (rows := (List.range len).map row) (by
          intro r m
          obtain ⟨i, hi, rfl⟩ := List.mem_map.1 m
          exact (hrow i (List.mem_range.1 hi)).1)
        simp only [List.length_map, List.length_range] at h3
        have hst : ∀ r ∈ (List.range len).map row, r.length = T'.cells := by
          intro r m
          obtain ⟨i, hi, rfl⟩ := List.mem_map.1 m
          exact (hrow i (List.mem_range.1 hi)).2.1
        have hfl : ((List.range len).map row).flatten.length = len * T'.cells := by
          have := h5.length
          have h6 : ∀ {rows : List (List Value)}, (∀ r ∈ rows, r.length = T'.cells) → rows.flatten.length = rows.length * T'.cells := by
            intro rows
            induction rows with
            | nil => simp
            | cons r rows ih2 => intro h; rw [List.flatten_cons, List.length_append, h r (by simp), ih2 fun r' m => h r' (by simp [m]), List.length_cons, Nat.succ_mul]; omega
          simpa using h6 hst
        refine ⟨[.sl false es], ⟨es, rfl, by rw [h3]; simpa [hxl] using hB2.1, h4⟩, ?_⟩
        refine .sl h3 (st := T'.cells) (cs := ((List.range len).map row).flatten) (fun r m => Ty.has_length (h4 r m)) hlt hlt hfl (fun k hk => ?_) hl1 (by simp) (by omega) h5 .nil
        have hk1 : k / T'.cells < len := Nat.div_lt_of_lt_mul (by rwa [Nat.mul_comm])
        have hk2 : k % T'.cells < T'.cells := Nat.mod_lt _ hpos
        have hk3 : k = k / T'.cells * T'.cells + k % T'.cells := by rw [Nat.mul_comm]; exact (Nat.div_add_mod k _).symm
        rw [hk3, flatten_get hst _ _ hk2, List.getElem?_map, List.getElem?_range hk1, ← cell?_eq]
        exact (hrow _ hk1).2.2 _ hk2
    case h_5 flds hu =>
      cases he : tyFs P (tyOf P n) 0 (flds.toList.map fun f => (f.type, f.offset)) with
      | none => simp [he] at hT
      | some T' =>
      simp only [he, Option.bind_some] at hT
      split at hT
      case isFalse => cases hT
      case isTrue hc =>
      simp only [Option.some.injEq] at hT
      subst hT
      unfold DataW.trod at ht
      rw [hu] at ht
      split at ht <;> try (simp_all; done)
      rename_i cs0 x1 cs1 flds' h1
      simp only [Option.some.injEq, TypeDesc.struct.injEq] at h1
      subst h1
      split at ht
      case isFalse => cases ht
      case isTrue hl =>
      cases hx : (flds.toList.mapM fun f => DataW.trod enc P w 0 (fun _ => true) true fuel f.type ((cs0.drop f.offset).take (P.cellsOf f.type))) with
      | none => simp [hx] at ht
      | some xs =>
      simp only [hx, Option.map_some, Option.some.injEq, Prod.mk.injEq] at ht
      obtain ⟨rfl, rfl⟩ := ht
      have := rep_struct (n := n) (cs := cs0) (fuel := fuel) (Bd := Bd) (B := B) (fun t T c d ps => ih t T c d ps) (flds.toList.map fun f => (f.type, f.offset)) 0 T' xs he (by rw [List.mapM_map]; exact hx) (fun x m => hB.agg hd _ (List.mem_map.2 ⟨x, m, rfl⟩)) (by rw [hl, hc, Nat.zero_add])
      exact this
end
end Go.Fm
set_option linter.unusedVariables false
set_option linter.unusedSimpArgs false
namespace Go.Fm
open Go Go.ChangeShapes Go.WideShapes Go.RowKit Go.WideElems
section
variable {H : Type} {enc : TypeId × Value → H} {P : Program}
theorem Ext.below {W W' : World} {S S' : Nat → Prop} {R' : List Nat} (e : Ext W S [] W' S' R') : Below W.heap.size W W' :=
  ⟨e.os, e.tape, e.output, e.grow, fun k hk => e.keep k hk (by simp)⟩
theorem trodAll_below (hl : laidOutB P = true) {W W' : World} (hb : Below W.heap.size W W') {sp : Nat → Bool} : ∀ {ts : List TypeId} {vs : List Value} {ds : List (DataW H)} {ps : List MemPlace},
    (∀ t ∈ ts, P.readableRec t = true ∧ t < P.types.size) → DataW.TrodAll enc P W 0 (fun _ => true) true ts vs ds ps → (∀ p ∈ ps, p.block < W.heap.size) → (∀ p ∈ ps, sp p.block = true) →
    DataW.TrodAll enc P W' 0 sp true ts vs ds ps
  | [], vs, ds, ps, _, h, _, _ => by obtain ⟨rfl, rfl, rfl⟩ := trodAll_nil h; exact trodAll_mk0
  | t :: ts, vs, ds, ps, hr, h, hlt, hs => by
    obtain ⟨v, vs1, d, ds1, a, b, rfl, rfl, rfl, h1, h2⟩ := trodAll_cons h
    have := hr t (by simp)
    exact ⟨a, b, Trod_stays hl this.1 this.2 h1 (fun x hx => hb.same (hlt x (by simp [hx]))) (fun x hx => hs x (by simp [hx])),
      trodAll_below hl hb (fun t m => hr t (by simp [m])) h2 (fun x hx => hlt x (by simp [hx])) (fun x hx => hs x (by simp [hx])), rfl⟩
theorem post_of_below {f : Func} {s : ChangeSpec} {apart fresh handsOn again : Bool} {W W' : World} {args : Array Value} {v : Value} {ds gs : List (DataW H)} {before pa pv : List MemPlace}
    (hW : DataW.Whole enc P f.params.toList s.vars apart W args.toList ds gs before)
    (hres : ∀ (b : Nat) (sp : Nat → Bool) (hd : Bool), DataW.TrodAll enc P W' b sp hd f.resultTypes.toList (v.resultList f.resultTypes.size) (s.fn H (ds ++ gs)).results [])
    (hargs : ∀ sp : Nat → Bool, (∀ p ∈ before, sp p.block = true) → DataW.TrodAll enc P W' 0 sp true f.params.toList args.toList (s.fn H (ds ++ gs)).args pa)
    (hvars : ∀ sp : Nat → Bool, (∀ p ∈ before, sp p.block = true) → DataW.TrodVars enc P W' sp s.vars (s.fn H (ds ++ gs)).vars pv)
    (hps : before = pa ++ pv) (hb : Below W.heap.size W W')
    (hok : ∀ (j : Nat) (t : TypeId) (r : Value), f.resultTypes[j]? = some t → (v.resultList f.resultTypes.size)[j]? = some r → Value.okWide P W' .any 0 t r) :
    s.post enc P f apart fresh handsOn again W args v W' := by
  have hold : ∀ p ∈ before, (fun b => decide (b < W.heap.size)) p.block = true := fun p hp => by simpa using hW.lt p hp
  have hlt := hW.lt
  refine ⟨ds, gs, before, [], pa, pv, hW, hres _ _ _, hargs _ hold, hvars _ hold, hb.frame _, fun _ => ?_⟩
  obtain ⟨_, _, _, _, _, hz, hn⟩ := hW
  refine ⟨hok, _, _, ([] ++ pa) ++ pv, ⟨[] ++ pa, pv, trodAll_append (hargs _ (fun _ _ => rfl)) (hres _ _ _), hvars _ (fun _ _ => rfl), rfl, ?_, ?_⟩, ?_⟩
  · intro b off hp
    have hm : MemPlace.cell b off ∈ before := by rw [hps]; simpa using hp
    rw [hb.frozen (hlt _ hm)]
    exact hz b off hm
  · intro ha
    have := hn ha
    rw [hps] at this
    simpa using this
  · intro p hp _
    rw [hps]
    simpa using hp
theorem row_true {f : FuncId} {fn : Func} {s : ChangeSpec} {apart fresh handsOn again : Bool} {W : World} {args : Array Value} {ds : List (DataW H)} {before : List MemPlace} {fs : List FV} {tb : TypeId}
    (hl : laidOutB P = true) (hr : ∀ t ∈ fn.params.toList, P.readableRec t = true ∧ t < P.types.size)
    (hW : DataW.Whole enc P fn.params.toList s.vars apart W args.toList ds [] before) (hv : s.vars = [])
    (hs : s.fn H (ds ++ []) = { results := [.lit (.bool true)], args := ds }) (hres : fn.resultTypes = #[tb]) (htb : P.underlying tb = some .bool)
    (hA : Amb P W (fun b => b < W.heap.size)) (hR : Rep W.heap (fun b => b < W.heap.size) args.toList fs []) (hc : FCall P f fs (· = .bool true)) :
    Calls P f args W fun e W' => ∃ v, e = .returned v ∧ s.post enc P fn apart fresh handsOn again W args v W' := by
  have := hc.out hA hR (by simp) (fun b hb => ⟨hb, by simp⟩)
  rw [Array.toArray_toList] at this
  refine this.mono fun e W' ⟨v, r, S', R', he, hr', hrep, _, _, hext⟩ => ?_
  subst hr'
  subst he
  cases hrep with
  | bool hrest =>
  have hb := hext.below
  have hW' := hW
  obtain ⟨p, q, hA0, hV, rfl, hfz, hnd⟩ := hW
  rw [hv] at hV
  obtain ⟨_, rfl⟩ := trodVars_none hV
  have hlt := hW'.lt
  refine ⟨_, rfl, post_of_below (pa := p) (pv := []) hW' (fun _ _ _ => ?_) (fun sp hsp => ?_) (fun _ _ => ?_) rfl hb (ok_one hres rfl (okWide_bool_mk htb _))⟩
  · rw [hs, hres]
    exact trodAll_cons_mk (shut_bool htb _) trodAll_mk0
  · rw [hs]
    exact trodAll_below hl hb hr hA0 (fun x hx => hlt x (by simp [hx])) (fun x hx => hsp x (by simp [hx]))
  · rw [hs, hv]; rfl
end
end Go.Fm
set_option linter.unusedVariables false
set_option linter.unusedSimpArgs false
namespace Go.Fm
open Go Go.ChangeShapes Go.WideShapes Go.RowKit Go.WideElems
def argHas (B : Nat) : Bool × Ty → FV → Prop
  | (true, T), f => ∃ g, f = .agg g ∧ T.has B g
  | (false, T), f => T.has B [f]
def ArgsHave (B : Nat) : List (Bool × Ty) → List FV → Prop
  | [], fs => fs = []
  | x :: r, fs => ∃ f fs', fs = f :: fs' ∧ argHas B x f ∧ ArgsHave B r fs'
def argTy (P : Program) (n : Nat) (t : TypeId) : Option (Bool × Ty) :=
  match P.underlying t with
  | some (.struct _) => (tyOf P n t).map (true, ·)
  | some (.slice _) | some (.int _) | some .bool | some .string => (tyOf P n t).map (false, ·)
  | _ => none
def argTys (P : Program) (n : Nat) : List TypeId → Option (List (Bool × Ty))
  | [] => some []
  | t :: ts => (argTy P n t).bind fun x => (argTys P n ts).map (x :: ·)
section
variable {H : Type} {enc : TypeId × Value → H} {P : Program} {w : World} {Bd : DataW H → Prop} {B : Nat}
theorem arg_of_trod (hB : Bnd Bd B) {n base : Nat} {t : TypeId} {x : Bool × Ty} {v : Value} {d : DataW H} {ps : List MemPlace} (hx : argTy P n t = some x) (hv : Value.okWide P w .any base t v)
    (h : DataW.Trod enc P w 0 (fun _ => true) true t v d ps) (hd : Bd d) : ∃ f, argHas B x f ∧ Rep w.heap (fun b => b < w.heap.size) [v] [f] [] := by
  obtain ⟨fuel, h⟩ := h
  unfold argTy at hx
  have one : ∀ {T : Ty}, tyOf P n t = some T → v.cells.toList = [v] → T.cells = 1 → ∃ f, argHas B (false, T) f ∧ Rep w.heap (fun b => b < w.heap.size) [v] [f] [] := fun hT hc h1 => by
    rw [hc] at h
    obtain ⟨fs, h2, h3⟩ := reads_of_trod hB n fuel t _ _ d ps hT h hd
    have hl := Ty.has_length h2
    rw [h1] at hl
    match fs, hl with
    | [f], _ => exact ⟨f, h2, h3⟩
  have cells1 : ∀ {T : Ty}, tyOf P n t = some T → (∀ fl, P.underlying t ≠ some (.struct fl)) → T.cells = 1 := fun hT hn => by
    cases n with
    | zero => simp [tyOf] at hT
    | succ n =>
      simp only [tyOf] at hT
      split at hT <;> try (simp only [Option.some.injEq] at hT; subst hT; rfl)
      · rename_i e he
        cases hh : tyOf P n e with
        | none => simp [hh] at hT
        | some T' =>
          simp only [hh, Option.bind_some] at hT
          split at hT
          · simp only [Option.some.injEq] at hT; subst hT; rfl
          · cases hT
      · rename_i fl hfl; exact absurd hfl (hn fl)
      · cases hT
  split at hx
  · rename_i fl hu
    obtain ⟨cs, rfl, _⟩ := okWide_struct hu hv
    simp only [Option.map_eq_some_iff] at hx
    obtain ⟨T, hT, rfl⟩ := hx
    obtain ⟨fs, h2, h3⟩ := reads_of_trod hB n fuel t _ _ d ps hT h hd
    refine ⟨.agg fs, ⟨fs, rfl, h2⟩, ?_⟩
    have := Rep.agg (cs := cs.toList) (vs := []) (fs := []) (R := []) (by simpa [Value.cells] using h3) .nil
    simpa using this
  · rename_i e hu
    obtain ⟨a, len, cap, rfl⟩ := okWide_slice hu hv
    simp only [Option.map_eq_some_iff] at hx
    obtain ⟨T, hT, rfl⟩ := hx
    exact one hT rfl (cells1 hT fun fl he => by rw [hu] at he; cases he)
  · rename_i k hu
    obtain ⟨a, rfl⟩ := okWide_int hu hv
    simp only [Option.map_eq_some_iff] at hx
    obtain ⟨T, hT, rfl⟩ := hx
    exact one hT rfl (cells1 hT fun fl he => by rw [hu] at he; cases he)
  · rename_i hu
    obtain ⟨a, rfl⟩ := okWide_bool hu hv
    simp only [Option.map_eq_some_iff] at hx
    obtain ⟨T, hT, rfl⟩ := hx
    exact one hT rfl (cells1 hT fun fl he => by rw [hu] at he; cases he)
  · rename_i hu
    obtain ⟨a, rfl⟩ := okWide_string hu hv
    simp only [Option.map_eq_some_iff] at hx
    obtain ⟨T, hT, rfl⟩ := hx
    exact one hT rfl (cells1 hT fun fl he => by rw [hu] at he; cases he)
  · cases hx
theorem args_of_trod (hB : Bnd Bd B) {n base : Nat} : ∀ {ts : List TypeId} {Ts : List (Bool × Ty)} {vs : List Value} {ds : List (DataW H)} {ps : List MemPlace}, argTys P n ts = some Ts →
    (∀ (j : Nat) t v, ts[j]? = some t → vs[j]? = some v → Value.okWide P w .any base t v) → DataW.TrodAll enc P w 0 (fun _ => true) true ts vs ds ps → (∀ d ∈ ds, Bd d) →
    ∃ fs, ArgsHave B Ts fs ∧ Rep w.heap (fun b => b < w.heap.size) vs fs []
  | [], Ts, vs, ds, ps, hT, hv, h, hd => by
    obtain ⟨rfl, rfl, rfl⟩ := trodAll_nil h
    simp only [argTys, Option.some.injEq] at hT
    subst hT
    exact ⟨[], rfl, .nil⟩
  | t :: ts, Ts, vs, ds, ps, hT, hv, h, hd => by
    obtain ⟨v, vs1, d, ds1, a, b, rfl, rfl, rfl, h1, h2⟩ := trodAll_cons h
    simp only [argTys] at hT
    cases hx : argTy P n t with
    | none => simp [hx] at hT
    | some x =>
    cases hr : argTys P n ts with
    | none => simp [hx, hr] at hT
    | some Tr =>
    simp only [hx, hr, Option.bind_some, Option.map_some, Option.some.injEq] at hT
    subst hT
    obtain ⟨fs, h3, h4⟩ := args_of_trod hB hr (fun j t v h1 h2 => hv (j + 1) t v (by simpa using h1) (by simpa using h2)) h2 (fun d m => hd d (List.mem_cons_of_mem _ m))
    have hv0 := hv 0 t v rfl rfl
    obtain ⟨f, h5, h6⟩ := arg_of_trod hB hx hv0 h1 (hd d (by simp))
    exact ⟨f :: fs, ⟨f, fs, rfl, h5, h3⟩, h6.cons h4⟩
theorem trodAll_length : ∀ {ts : List TypeId} {vs : List Value} {ds : List (DataW H)} {ps : List MemPlace}, DataW.TrodAll enc P w 0 (fun _ => true) true ts vs ds ps → ds.length = ts.length
  | [], _, _, _, h => by obtain ⟨rfl, rfl, rfl⟩ := trodAll_nil h; rfl
  | t :: ts, _, _, _, h => by
    obtain ⟨v, vs1, d, ds1, a, b, rfl, rfl, rfl, _, h2⟩ := trodAll_cons h
    simp [trodAll_length h2]
theorem row_all {f : FuncId} {fn : Func} {s : ChangeSpec} {n : Nat} {Ts : List (Bool × Ty)} {tb : TypeId} (hB : Bnd Bd B) (hl : laidOutB P = true) (hv : s.vars = [])
    (hr : (fn.params.toList.all fun t => P.readableRec t && decide (t < P.types.size)) = true) (hT : argTys P n fn.params.toList = some Ts)
    (hs : ∀ ds : List (DataW H), ds.length = fn.params.toList.length → s.fn H (ds ++ []) = { results := [.lit (.bool true)], args := ds }) (hres : fn.resultTypes = #[tb]) (htb : P.underlying tb = some .bool)
    (hc : ∀ fs, ArgsHave B Ts fs → FCall P f fs (· = .bool true)) {W : World} {base : Nat} {args : Array Value} {ds gs : List (DataW H)} {before : List MemPlace}
    (hval : ∀ (j : Nat) t v, fn.params[j]? = some t → args[j]? = some v → Value.okWide P W .any base t v) (hW : DataW.Whole enc P fn.params.toList s.vars false W args.toList ds gs before)
    (hd : ∀ d ∈ ds, Bd d) (hA : Amb P W (fun b => b < W.heap.size)) :
    Calls P f args W fun e W' => ∃ v, e = .returned v ∧ s.post enc P fn false true false false W args v W' := by
  have hW' := hW
  obtain ⟨p, q, hA0, hV, rfl, hfz, hnd⟩ := hW
  rw [hv] at hV
  obtain ⟨rfl, rfl⟩ := trodVars_none hV
  obtain ⟨fs, h1, h2⟩ := args_of_trod hB hT (fun j t v h3 h4 => hval j t v (by simpa using h3) (by simpa using h4)) hA0 hd
  refine row_true hl (fun t m => ?_) hW' hv (hs ds (trodAll_length hA0)) hres htb hA h2 (hc fs h1)
  have := List.all_eq_true.1 hr t m
  simpa using this
theorem amb_none {W : World} (h : P.globalNamed "internal/strconv.uint64pow10" = none) (hi : ∀ g, P.globalNamed "internal/bytealg.MaxLen" = some g → g < W.heap.size ∧ ∃ m : Int, W.cell? ⟨g, 0, none⟩ = some (.int .i64 m)) : Amb P W (fun b => b < W.heap.size) := by
  refine ⟨fun x hx g hg => ?_, fun x hx g hg => ?_⟩
  · simp only [ambTabs, List.mem_singleton] at hx
    subst hx
    rw [h] at hg
    cases hg
  · simp only [ambInts, List.mem_singleton] at hx
    subst hx
    exact hi g hg
end
theorem slHas {α : Type} {B : Nat} {T : Ty} {row : α → List FV} {p : α → Prop} (h : ∀ fs, T.has B fs → ∃ x, fs = row x ∧ p x) : ∀ {fs : List FV}, (Ty.sl T).has B fs → ∃ l : List α, fs = [.sl false (l.map row)] ∧ l.length ≤ B ∧ ∀ x ∈ l, p x := by
  rintro fs ⟨es, rfl, hl, hes⟩
  have : ∀ es : List (List FV), (∀ r ∈ es, T.has B r) → ∃ l : List α, es = l.map row ∧ ∀ x ∈ l, p x := by
    intro es
    induction es with
    | nil => intro _; exact ⟨[], rfl, by simp⟩
    | cons e es ih =>
      intro h2
      obtain ⟨l, rfl, hl⟩ := ih fun r m => h2 r (by simp [m])
      obtain ⟨x, rfl, hx⟩ := h _ (h2 _ (List.mem_cons_self ..))
      exact ⟨x :: l, rfl, by simp only [List.mem_cons]; rintro y (rfl | m); exact hx; exact hl y m⟩
  obtain ⟨l, rfl, h2⟩ := this es hes
  exact ⟨l, rfl, by simpa using hl, h2⟩
end Go.Fm
set_option linter.unusedVariables false
set_option linter.unusedSimpArgs false
namespace Go.Fm
open Go Go.Sort
def ints (zs : List Int) : List (List FV) := zs.map fun z => [.int .i64 z]
theorem ints_length (zs : List Int) : (ints zs).length = zs.length := by simp [ints]
theorem ints_flatten (zs : List Int) : (ints zs).flatten = zs.map (FV.int .i64) := by
  induction zs with
  | nil => rfl
  | cons z zs ih => simp only [ints, List.map_cons, List.flatten_cons] at ih ⊢; rw [ih]; rfl
theorem ints_rep {h : Array Obj} {S : Nat → Prop} : ∀ {zs : List Int} {cs : List Value} {R : List Nat}, Rep h S cs (zs.map (FV.int .i64)) R → cs = zs.map (Value.int .i64) ∧ R = []
  | [], cs, R, r => by cases r; exact ⟨rfl, rfl⟩
  | z :: zs, cs, R, r => by
    cases r with
    | int r1 => obtain ⟨rfl, rfl⟩ := ints_rep r1; exact ⟨rfl, rfl⟩
theorem rep_ints {h : Array Obj} {S : Nat → Prop} : ∀ (zs : List Int), Rep h S (zs.map (Value.int .i64)) (zs.map (FV.int .i64)) []
  | [] => .nil
  | z :: zs => .int (rep_ints zs)
theorem heap_put {w : World} {n b o : Nat} {d : Array Int} {os : Array Obj} {k : Nat} (hk : k < w.heap.size) :
    (grow (putRow (Value.int .i64) (Sort.ahead w n) b o d) os).heap[k]? = if k = b then (w.heap[k]?).map (onCells (putCells (Value.int .i64) o d)) else w.heap[k]? := by
  unfold grow putRow mapBlock Sort.ahead
  simp only
  rw [Array.getElem?_append_left (by simpa using hk), Array.getElem?_modify]
  by_cases h : k = b
  · subst h; simp
  · rw [if_neg h, if_neg (fun e => h e.symm)]
theorem putCells_row {c : Array Value} {o : Nat} {ds : List Int} (h : o + ds.length ≤ c.size) : (((putCells (Value.int .i64) o ds.toArray c).toList.drop o).take ds.length) = ds.map (Value.int .i64) := by
  refine List.ext_getElem? fun j => ?_
  rw [List.getElem?_take, List.getElem?_drop, List.getElem?_map]
  by_cases hj : j < ds.length
  · rw [if_pos hj]
    unfold putCells
    rw [Array.getElem?_toList, Array.getElem?_mapIdx, Array.getElem?_eq_getElem (show o + j < c.size by omega)]
    simp only [Option.map_some]
    rw [if_pos ⟨by omega, by simp; omega⟩]
    simp [hj]
  · rw [if_neg hj, List.getElem?_eq_none (by omega)]; rfl
theorem row_ext {w : World} {S : Nat → Prop} {n b o : Nat} {d : Array Int} {os : Array Obj} : Ext w S [b] (grow (putRow (Value.int .i64) (Sort.ahead w n) b o d) os) S [b] := by
  refine ⟨fun _ h => h, fun _ h => .inl h, fun k hk hn => ?_, ?_, fun k m => .inl m, rfl, rfl, rfl, fun _ h => h⟩
  · rw [heap_put hk, if_neg]
    intro e; exact hn (by simp [e])
  · unfold grow putRow mapBlock Sort.ahead
    simp
theorem compact_le (zs : List Int) : (Lib.compact zs).length ≤ zs.length := by
  unfold Lib.compact Lib.compactUpTo
  rw [List.length_map]
  exact Nat.le_trans (List.length_filter_le _ _) (by simp)
theorem compact_nil : Lib.compact ([] : List Int) = [] := rfl
theorem compact_ne {zs : List Int} (h : zs ≠ []) : Lib.compact zs ≠ [] := by
  unfold Lib.compact Lib.compactUpTo
  intro e
  rw [List.map_eq_nil_iff, List.filter_eq_nil_iff] at e
  have := e 0 (List.mem_range.2 (List.length_pos_iff.2 h))
  simp [Lib.keeps] at this
section
variable {P : Program}
theorem FMut.sort {f : FuncId} {zs : List Int}
    (h1 : ∀ (blk off cap : Nat) (zs : List Int) (w : World), Holds (Value.int .i64) w blk off zs.toArray → blk < w.heap.size → zs.length < 4611686018427387904 →
      Calls P f #[.slice (some ⟨blk, off, none⟩) zs.length cap] w fun e w' => e = .returned (.tuple #[]) ∧ ∃ n os, w' = grow (putRow (Value.int .i64) (Sort.ahead w n) blk off (zs.mergeSort fun x y => decide (x ≤ y)).toArray) os)
    (h0 : ∀ (p : Option Addr) (cap : Nat) (w : World), Calls P f #[.slice p 0 cap] w fun e w' => e = .returned (.tuple #[]) ∧ w' = w)
    (hl : zs.length < 4611686018427387904) : FMut P f (ints zs) (· = ints (zs.mergeSort fun x y => decide (x ≤ y))) := by
  refine ⟨fun {w S R v} hA hrep hnd hsep => ?_⟩
  generalize hes : ints zs = es at hrep
  cases hrep with
  | arrNil ht =>
    cases ht
    have : zs = [] := by cases zs <;> simp [ints] at hes; rfl
    subst this
    refine (h0 _ _ _).mono ?_
    rintro e w' ⟨rfl, rfl⟩
    refine ⟨_, rfl, rfl, ?_, Ext.refl _ _ _ _ fun _ m => m⟩
    have e1 : ints (([] : List Int).mergeSort fun x y => decide (x ≤ y)) = [] := by simp [ints]
    rw [e1]
    exact .arrNil .nil
  | @arr _ b o n cap st c T _ _ R1 _ hn hst hb hsz hcap hpos hr ht =>
    cases ht
    subst hes
    rw [ints_length] at hn
    subst hn
    have hst1 : st = 1 := by
      cases zs with
      | nil => simp at hpos
      | cons z zs => exact (hst [.int .i64 z] (by simp [ints])).symm
    subst hst1
    rw [Nat.mul_one] at hsz hr
    rw [ints_flatten] at hr
    obtain ⟨hcs, rfl⟩ := ints_rep hr
    have hblk : b < w.heap.size := (Array.getElem?_eq_some_iff.1 hb).1
    have hH : Holds (Value.int .i64) w b o zs.toArray := fun j hj => by
      have hj' : j < zs.length := by simpa using hj
      have e1 := congrArg (fun l => l[j]?) hcs
      simp only [List.getElem?_take, List.getElem?_drop, List.getElem?_map, if_pos hj'] at e1
      refine ⟨?_, ?_⟩
      · rw [cell?_eq]
        unfold cellAt
        rw [hb]
        simp only
        rw [Array.getElem?_toList] at e1
        rw [e1]
        simp [hj']
      · unfold World.frozen?
        rw [hb]
        simp
    refine (h1 b o cap zs w hH hblk hl).mono ?_
    rintro e w' ⟨rfl, q, os, rfl⟩
    have hlen : (zs.mergeSort fun x y => decide (x ≤ y)).length = zs.length := List.length_mergeSort _
    refine ⟨_, rfl, rfl, ?_, by simpa using row_ext⟩
    refine .arr (c := putCells (Value.int .i64) o (zs.mergeSort fun x y => decide (x ≤ y)).toArray c) (T := T) (st := 1) (R1 := []) (by rw [ints_length, hlen]) (fun e m => ?_) ?_ ?_ hcap hpos ?_ .nil
    · unfold ints at m
      obtain ⟨z, _, rfl⟩ := List.mem_map.1 m
      rfl
    · rw [heap_put hblk, if_pos rfl, hb]; rfl
    · unfold putCells; simpa using hsz
    · rw [Nat.mul_one, ints_flatten, ← hlen, putCells_row (by omega)]
      exact rep_ints _
theorem FCall.compact {f : FuncId} {zs : List Int}
    (h1 : ∀ (blk off cap : Nat) (zs : List Int) (w : World), Holds (Value.int .i64) w blk off zs.toArray → zs.length ≤ 9223372036854775807 → zs.length ≤ cap →
      Calls P f #[.slice (some ⟨blk, off, none⟩) zs.length cap] w fun e w' => e = .returned (.slice (some ⟨blk, off, none⟩) (Lib.compact zs).length cap) ∧ ∃ q, w' = putRow (Value.int .i64) (Sort.ahead w q) blk off (Lib.compact zs ++ List.replicate (zs.length - (Lib.compact zs).length) 0).toArray)
    (h0 : ∀ (p : Option Addr) (cap : Nat) (w : World), Calls P f #[.slice p 0 cap] w fun e w' => e = .returned (.slice p 0 cap) ∧ w' = w)
    (hl : zs.length ≤ 9223372036854775807) : FCall P f [.arr (ints zs)] (· = .arr (ints (Lib.compact zs))) := by
  refine ⟨fun {w S R vs} hA hrep hnd hsep => ?_⟩
  have hlen := hrep.length
  match vs, hlen with
  | [v], _ =>
  generalize hes : ints zs = es at hrep
  cases hrep with
  | arrNil ht =>
    cases ht
    have : zs = [] := by cases zs <;> simp [ints] at hes; rfl
    subst this
    refine (h0 _ _ _).mono ?_
    rintro e w' ⟨rfl, rfl⟩
    refine ⟨_, .arr (ints (Lib.compact ([] : List Int))), S, [], rfl, rfl, ?_, by simp, fun b hb => ⟨(hsep b hb).1, by simp⟩, Ext.refl _ _ _ _ (by simp)⟩
    rw [compact_nil]
    exact .arrNil .nil
  | @arr _ b o n cap st c T _ _ R1 _ hn hst hb hsz hcap hpos hr ht =>
    cases ht
    subst hes
    rw [ints_length] at hn
    subst hn
    have hst1 : st = 1 := by
      cases zs with
      | nil => simp at hpos
      | cons z zs => exact (hst [.int .i64 z] (by simp [ints])).symm
    subst hst1
    rw [Nat.mul_one] at hsz hr
    rw [ints_flatten] at hr
    obtain ⟨hcs, rfl⟩ := ints_rep hr
    have hblk : b < w.heap.size := (Array.getElem?_eq_some_iff.1 hb).1
    have hH : Holds (Value.int .i64) w b o zs.toArray := fun j hj => by
      have hj' : j < zs.length := by simpa using hj
      have e1 := congrArg (fun l => l[j]?) hcs
      simp only [List.getElem?_take, List.getElem?_drop, List.getElem?_map, if_pos hj'] at e1
      refine ⟨?_, ?_⟩
      · rw [cell?_eq]
        unfold cellAt
        rw [hb]
        simp only
        rw [Array.getElem?_toList] at e1
        rw [e1]
        simp [hj']
      · unfold World.frozen?
        rw [hb]
        simp
    refine (h1 b o cap zs w hH hl hcap).mono ?_
    rintro e w' ⟨rfl, q, rfl⟩
    have hne' : Lib.compact zs ≠ [] := compact_ne (by intro e; subst e; simp at hpos)
    have hle := compact_le zs
    have hpos' : 0 < (Lib.compact zs).length := List.length_pos_iff.2 hne'
    have hg : ∀ d : Array Int, putRow (Value.int .i64) (Sort.ahead w q) b o d = grow (putRow (Value.int .i64) (Sort.ahead w q) b o d) #[] := fun d => by simp
    rw [hg]
    have hfull : (Lib.compact zs ++ List.replicate (zs.length - (Lib.compact zs).length) 0).length = zs.length := by simp; omega
    have hext := row_ext (w := w) (S := S) (n := q) (b := b) (o := o) (d := (Lib.compact zs ++ List.replicate (zs.length - (Lib.compact zs).length) 0).toArray) (os := #[])
    refine ⟨_, .arr (ints (Lib.compact zs)), S, [b], rfl, rfl, ?_, by simp, fun k hk => ?_, hext⟩
    · refine .arr (c := putCells (Value.int .i64) o (Lib.compact zs ++ List.replicate (zs.length - (Lib.compact zs).length) 0).toArray c) (T := T) (st := 1) (R1 := []) (ints_length _) (fun e m => ?_) ?_ ?_ (by omega) hpos' ?_ .nil
      · unfold ints at m
        obtain ⟨z, _, rfl⟩ := List.mem_map.1 m
        rfl
      · rw [heap_put hblk, if_pos rfl, hb]; rfl
      · unfold putCells; simpa using hsz
      · rw [Nat.mul_one, ints_flatten]
        have e2 := putCells_row (c := c) (o := o) (ds := Lib.compact zs ++ List.replicate (zs.length - (Lib.compact zs).length) 0) (by omega)
        have e3 := congrArg (List.take (Lib.compact zs).length) e2
        rw [List.take_take, Nat.min_eq_left (by omega), List.map_append, List.take_left' (by simp)] at e3
        rw [e3]
        exact rep_ints _
    · obtain ⟨h2, h3⟩ := hsep k hk
      refine ⟨?_, by simpa using h3⟩
      unfold grow putRow mapBlock Sort.ahead
      simpa using h2
end
end Go.Fm
namespace Go.Fx.Tryz
open Go Go.Fm Go.Proofs
theorem p_contains {a b : List UInt8} (ha : a.length < 4294967281) : FCall Tryz.prog n_strings_Contains [.str a, .str b] (· = .bool (Lib.contains a b)) := by
  refine FCall.prim (us := [.string (bytesOf a), .string (bytesOf b)]) (v := .bool (Lib.contains a b)) rfl (by simp [constOk]) fun w S hA => ?_
  obtain ⟨_, m, hm⟩ := hA.ints "internal/bytealg.MaxLen" (by simp [ambInts]) 0 (by kernel_rfl)
  refine (Go.Proofs.Tryz.strings_Contains (bytesOf a) (bytesOf b) m w (by simpa [bytesOf, ByteArray.size] using ha) hm).mono ?_
  rintro e w' ⟨rfl, rfl⟩
  exact ⟨by simp [bytesOf], Stood.refl _⟩
theorem p_compact {zs : List Int} (h : zs.length ≤ 9223372036854775807) : FCall Tryz.prog n_slices_Compact_int_int [.arr (ints zs)] (· = .arr (ints (Lib.compact zs))) :=
  FCall.compact (fun blk off cap zs w => Go.Proofs.Tryz.slices_Compact_int blk off cap zs w) (fun p cap w => Go.Proofs.Tryz.slices_Compact_int_empty p cap w) h
end Go.Fx.Tryz
set_option linter.unusedVariables false
set_option linter.unusedSimpArgs false
namespace Go.Fm
open Go
def I64 (n : Int) : Prop := -9223372036854775808 ≤ n ∧ n ≤ 9223372036854775807
theorem w64 {n : Int} (h : I64 n) : IntKind.i64.wrap n = n := by
  obtain ⟨h1, h2⟩ := h
  simp only [IntKind.wrap, IntKind.bits, IntKind.signed]
  have e : (2 ^ 64 : Int) = 18446744073709551616 := by decide
  have e2 : (2 ^ (64 - 1) : Int) = 9223372036854775808 := by decide
  simp only [e, e2, Bool.true_and, decide_eq_true_eq]
  split <;> rename_i hc <;> omega
noncomputable def bp (p : Prop) : Bool := @decide p (Classical.propDecidable p)
theorem bp_true {p : Prop} (h : p) : bp p = true := @decide_eq_true p (Classical.propDecidable p) h
theorem bp_false {p : Prop} (h : ¬ p) : bp p = false := @decide_eq_false p (Classical.propDecidable p) h
theorem fbp_true {p : Prop} (h : p) : FV.bool true = .bool (bp p) := by rw [bp_true h]
theorem fbp_false {p : Prop} (h : ¬ p) : FV.bool false = .bool (bp p) := by rw [bp_false h]
theorem orF {c p rest : Prop} (h : c → ¬ p) (hr : ¬ c → rest) : (c → FV.bool false = .bool (bp p)) ∧ (¬ c → rest) := ⟨fun a => fbp_false (h a), hr⟩
theorem bp_iff {p : Prop} : bp p = true ↔ p := by
  by_cases h : p
  · rw [bp_true h]; exact ⟨fun _ => h, fun _ => rfl⟩
  · rw [bp_false h]; exact ⟨fun e => (by cases e), fun e => absurd e h⟩
theorem ltT {i n : Nat} (h : i < n) : ((i : Int) < (n : Int)) = True := eq_true (by omega)
theorem ltF {i n : Nat} (h : ¬ i < n) : ((i : Int) < (n : Int)) = False := eq_false (by omega)
theorem w64s {i : Nat} (h : i < 2 ^ 62) : IntKind.i64.wrap ((i : Int) + 1) = ((i + 1 : Nat) : Int) := by rw [w64 (by unfold I64; omega)]; rfl
structure EnumL where
  name : List UInt8
  full : Bool
  members : List (List UInt8)
def EnumL.row (e : EnumL) : List FV := [.str e.name, .sl e.full (strs e.members)]
def enumsV (l : List EnumL) : List (List FV) := l.map EnumL.row
@[go_sem] theorem enumsV_length (l : List EnumL) : (enumsV l).length = l.length := by simp [enumsV]
structure NodeL where
  op : Int
  n : Int
def NodeL.row (x : NodeL) : List FV := [.int .i64 x.op, .int .i64 x.n]
structure FieldL where
  name : List UInt8
  k : Int
  e : Int
def FieldL.row (x : FieldL) : List FV := [.str x.name, .int .i64 x.k, .int .i64 x.e]
structure RuleL where
  name : List UInt8
  d : Int
  p : Int
  pr : Int
  f : Int
  t : Int
  gfull : Bool
  guard : List NodeL
  vfull : Bool
  value : List NodeL
  src : List UInt8
def nodesV (l : List NodeL) : List (List FV) := l.map NodeL.row
def RuleL.row (x : RuleL) : List FV := [.str x.name, .int .i64 x.d, .int .i64 x.p, .int .i64 x.pr, .int .i64 x.f, .int .i64 x.t, .sl x.gfull (nodesV x.guard), .sl x.vfull (nodesV x.value), .str x.src]
structure RowL where
  f : Int
  t : Int
  lo : Int
  hi : Int
  n : Int
def RowL.row (x : RowL) : List FV := [.int .i64 x.f, .int .i64 x.t, .int .i64 x.lo, .int .i64 x.hi, .int .i64 x.n]
structure TableL where
  name : List UInt8
  kk : Int
  ke : Int
  vk : Int
  ve : Int
  rfull : Bool
  rows : List RowL
def rowsV (l : List RowL) : List (List FV) := l.map RowL.row
def TableL.row (x : TableL) : List FV := [.str x.name, .int .i64 x.kk, .int .i64 x.ke, .int .i64 x.vk, .int .i64 x.ve, .sl x.rfull (rowsV x.rows)]
def fieldsV (l : List FieldL) : List (List FV) := l.map FieldL.row
def rulesV (l : List RuleL) : List (List FV) := l.map RuleL.row
structure ScopeL where
  name : List UInt8
  ms : Int
  ifull : Bool
  inputs : List FieldL
  dfull : Bool
  defs : List FieldL
  rfull : Bool
  rules : List RuleL
def ScopeL.row (x : ScopeL) : List FV := [.str x.name, .int .i64 x.ms, .sl x.ifull (fieldsV x.inputs), .sl x.dfull (fieldsV x.defs), .sl x.rfull (rulesV x.rules)]
def tablesV (l : List TableL) : List (List FV) := l.map TableL.row
def scopesV (l : List ScopeL) : List (List FV) := l.map ScopeL.row
structure LawL where
  efull : Bool
  enums : List EnumL
  tfull : Bool
  tables : List TableL
  sfull : Bool
  scopes : List ScopeL
def LawL.row (x : LawL) : List FV := [.sl x.efull (enumsV x.enums), .sl x.tfull (tablesV x.tables), .sl x.sfull (scopesV x.scopes)]
@[go_sem] theorem nodesV_length (l : List NodeL) : (nodesV l).length = l.length := by simp [nodesV]
@[go_sem] theorem fieldsV_length (l : List FieldL) : (fieldsV l).length = l.length := by simp [fieldsV]
@[go_sem] theorem rulesV_length (l : List RuleL) : (rulesV l).length = l.length := by simp [rulesV]
@[go_sem] theorem rowsV_length (l : List RowL) : (rowsV l).length = l.length := by simp [rowsV]
@[go_sem] theorem tablesV_length (l : List TableL) : (tablesV l).length = l.length := by simp [tablesV]
@[go_sem] theorem scopesV_length (l : List ScopeL) : (scopesV l).length = l.length := by simp [scopesV]
theorem fieldsV_get {l : List FieldL} {i : Nat} (h : i < l.length) : (fieldsV l)[i]? = some l[i].row := by simp [fieldsV, h]
theorem rulesV_get {l : List RuleL} {i : Nat} (h : i < l.length) : (rulesV l)[i]? = some l[i].row := by simp [rulesV, h]
theorem tablesV_get {l : List TableL} {i : Nat} (h : i < l.length) : (tablesV l)[i]? = some l[i].row := by simp [tablesV, h]
theorem rowsV_get {l : List RowL} {i : Nat} (h : i < l.length) : (rowsV l)[i]? = some l[i].row := by simp [rowsV, h]
theorem scopesV_get {l : List ScopeL} {i : Nat} (h : i < l.length) : (scopesV l)[i]? = some l[i].row := by simp [scopesV, h]
end Go.Fm
set_option linter.unusedVariables false
set_option linter.unusedSimpArgs false
namespace Go.Fx.Tryz
open Go Go.Fm Go.Proofs
theorem enumsV_get {en : List EnumL} {i : Nat} (h : i < en.length) : (enumsV en)[i]? = some [.str en[i].name, .sl en[i].full (strs en[i].members)] := by simp [enumsV, h, EnumL.row]
def ruleSm (r : RuleL) : Prop := r.name.length ≤ 80 ∧ r.src.length ≤ 80 ∧ r.guard.length ≤ 50 ∧ r.value.length ≤ 50
def smallScopeP (s : ScopeL) : Prop := s.name.length ≤ 80 ∧ s.inputs.length ≤ 14 ∧ s.defs.length ≤ 14 ∧ s.rules.length ≤ 60 ∧ (∀ f ∈ s.inputs, f.name.length ≤ 80) ∧ (∀ f ∈ s.defs, f.name.length ≤ 80) ∧ ∀ r ∈ s.rules, ruleSm r
theorem smallScope_call {s : ScopeL} : FCall Tryz.prog n_same_smallScope [.agg s.row] (· = .bool (bp (smallScopeP s))) := by
  refine FCall.walk u_same_smallScope k_same_smallScope rfl ?_
  unfold c_same_smallScope
  simp only [go_sem, simprocAttr, ScopeL.row]
  refine orF (fun h g => by have := g.1; omega) fun h1 => orF (fun h g => by have := g.2.1; omega) fun h2 => orF (fun h g => by have := g.2.2.1; omega) fun h3 => orF (fun h g => by have := g.2.2.2.1; omega) fun h4 => ?_
  refine FWT.count [] s.inputs.length (fun i => [(3, .int .i64 i)]) (fun i => ∀ f ∈ s.inputs.take i, f.name.length ≤ 80) rfl (by simp) ?_
  intro i hi hg
  by_cases h : i < s.inputs.length
  · have hx := fieldsV_get h
    simp only [go_sem, simprocAttr, ltT h, Int.toNat_natCast, hx, FieldL.row]
    refine ⟨fun h5 => fbp_false fun g => by have := g.2.2.2.2.1 _ (List.getElem_mem h); omega, fun h5 => ⟨by rw [w64s (by omega)], (all_take_succ h).2 ⟨hg, by omega⟩, h⟩⟩
  simp only [go_sem, simprocAttr, ltF h]
  rw [List.take_of_length_le (by omega)] at hg
  refine FWT.count [] s.defs.length (fun i => [(4, .int .i64 i)]) (fun i => ∀ f ∈ s.defs.take i, f.name.length ≤ 80) rfl (by simp) ?_
  intro i hi hg2
  by_cases h : i < s.defs.length
  · have hx := fieldsV_get h
    simp only [go_sem, simprocAttr, ltT h, Int.toNat_natCast, hx, FieldL.row]
    refine ⟨fun h5 => fbp_false fun g => by have := g.2.2.2.2.2.1 _ (List.getElem_mem h); omega, fun h5 => ⟨by rw [w64s (by omega)], (all_take_succ h).2 ⟨hg2, by omega⟩, h⟩⟩
  simp only [go_sem, simprocAttr, ltF h]
  rw [List.take_of_length_le (by omega)] at hg2
  refine FWT.count [] s.rules.length (fun i => [(5, .int .i64 i)]) (fun i => ∀ f ∈ s.rules.take i, ruleSm f) rfl (by simp) ?_
  intro i hi hg3
  by_cases h : i < s.rules.length
  · have hx := rulesV_get h
    simp only [go_sem, simprocAttr, ltT h, Int.toNat_natCast, hx, RuleL.row]
    refine orF (fun h5 g => by have := (g.2.2.2.2.2.2 _ (List.getElem_mem h)).1; omega) fun h5 => orF (fun h6 g => by have := (g.2.2.2.2.2.2 _ (List.getElem_mem h)).2.1; omega) fun h6 =>
      orF (fun h7 g => by have := (g.2.2.2.2.2.2 _ (List.getElem_mem h)).2.2.1; omega) fun h7 => orF (fun h8 g => by have := (g.2.2.2.2.2.2 _ (List.getElem_mem h)).2.2.2; omega) fun h8 => ⟨by rw [w64s (by omega)], (all_take_succ h).2 ⟨hg3, by omega, by omega, by omega, by omega⟩, h⟩
  simp only [go_sem, simprocAttr, ltF h]
  rw [List.take_of_length_le (by omega)] at hg3
  exact fbp_true ⟨by omega, by omega, by omega, by omega, hg, hg2, hg3⟩
def rowsN (l : List TableL) (i : Nat) : Nat := ((l.take i).map (·.rows.length)).sum
def rulesN (l : List ScopeL) (i : Nat) : Nat := ((l.take i).map (·.rules.length)).sum
theorem rowsN_succ {l : List TableL} {i : Nat} (h : i < l.length) : rowsN l (i + 1) = rowsN l i + l[i].rows.length := by
  unfold rowsN; rw [List.take_succ_eq_append_getElem h, List.map_append, List.sum_append]; rfl
theorem rulesN_succ {l : List ScopeL} {i : Nat} (h : i < l.length) : rulesN l (i + 1) = rulesN l i + l[i].rules.length := by
  unfold rulesN; rw [List.take_succ_eq_append_getElem h, List.map_append, List.sum_append]; rfl
theorem rowsN_mono (l : List TableL) {i j : Nat} (h : i ≤ j) : rowsN l i ≤ rowsN l j := by
  induction h with
  | refl => exact Nat.le_refl _
  | @step m _ ih =>
    refine Nat.le_trans ih ?_
    by_cases hm : m < l.length
    · rw [rowsN_succ hm]; omega
    · unfold rowsN; rw [List.take_of_length_le (by omega), List.take_of_length_le (by omega)]; omega
theorem rulesN_mono (l : List ScopeL) {i j : Nat} (h : i ≤ j) : rulesN l i ≤ rulesN l j := by
  induction h with
  | refl => exact Nat.le_refl _
  | @step m _ ih =>
    refine Nat.le_trans ih ?_
    by_cases hm : m < l.length
    · rw [rulesN_succ hm]; omega
    · unfold rulesN; rw [List.take_of_length_le (by omega), List.take_of_length_le (by omega)]; omega
def enumSm (e : EnumL) : Prop := e.name.length ≤ 80 ∧ e.members.length ≤ 20 ∧ ∀ m ∈ e.members, m.length ≤ 80
def smallLawP (l : LawL) : Prop := l.enums.length ≤ 9 ∧ l.tables.length ≤ 9 ∧ l.scopes.length ≤ 5 ∧ (∀ e ∈ l.enums, enumSm e) ∧ (∀ t ∈ l.tables, t.name.length ≤ 80) ∧ rowsN l.tables l.tables.length ≤ 150 ∧ rulesN l.scopes l.scopes.length ≤ 60 ∧ ∀ s ∈ l.scopes, smallScopeP s
theorem smallLaw_call {l : LawL} (hr : ∀ t ∈ l.tables, t.rows.length < 2 ^ 60) (hu : ∀ s ∈ l.scopes, s.rules.length < 2 ^ 60) : FCall Tryz.prog n_same_SmallLaw [.agg l.row] (· = .bool (bp (smallLawP l))) := by
  refine FCall.walk u_same_SmallLaw k_same_SmallLaw rfl ?_
  unfold c_same_SmallLaw
  simp only [go_sem, simprocAttr, LawL.row]
  refine orF (fun h g => by have := g.1; omega) fun h1 => orF (fun h g => by have := g.2.1; omega) fun h2 => orF (fun h g => by have := g.2.2.1; omega) fun h3 => ?_
  refine FWT.count [] l.enums.length (fun i => [(5, .int .i64 i)]) (fun i => ∀ f ∈ l.enums.take i, enumSm f) rfl (by simp) ?_
  intro i hi hg
  by_cases h : i < l.enums.length
  · have hx := enumsV_get h
    simp only [go_sem, simprocAttr, ltT h, Int.toNat_natCast, hx, EnumL.row]
    refine orF (fun h4 g => by have := (g.2.2.2.1 _ (List.getElem_mem h)).1; omega) fun h4 => orF (fun h5 g => by have := (g.2.2.2.1 _ (List.getElem_mem h)).2.1; omega) fun h5 => ?_
    refine FWT.count [] l.enums[i].members.length (fun k => [(6, .int .i64 k)]) (fun k => ∀ m ∈ l.enums[i].members.take k, m.length ≤ 80) rfl (by simp) ?_
    intro k hk hgk
    by_cases h6 : k < l.enums[i].members.length
    · have hx2 := strs_get h6
      simp only [go_sem, simprocAttr, ltT h6, Int.toNat_natCast, hx, hx2]
      refine orF (fun h7 g => by have := (g.2.2.2.1 _ (List.getElem_mem h)).2.2 _ (List.getElem_mem h6); omega) fun h7 => ⟨by rw [w64s (by omega)], (all_take_succ h6).2 ⟨hgk, by omega⟩, h6⟩
    simp only [go_sem, simprocAttr, ltF h6, Int.toNat_natCast, hx]
    rw [List.take_of_length_le (by omega)] at hgk
    exact ⟨by rw [w64s (by omega)], (all_take_succ h).2 ⟨hg, by omega, by omega, hgk⟩, h⟩
  simp only [go_sem, simprocAttr, ltF h]
  rw [List.take_of_length_le (by omega)] at hg
  refine FWT.count [] l.tables.length (fun i => [(3, .int .i64 (rowsN l.tables i)), (7, .int .i64 i)]) (fun i => (∀ f ∈ l.tables.take i, f.name.length ≤ 80) ∧ rowsN l.tables i ≤ 150) rfl ⟨by simp, by simp [rowsN]⟩ ?_
  intro i hi hg2
  by_cases h : i < l.tables.length
  · have hx := tablesV_get h
    have hw : IntKind.i64.wrap ((rowsN l.tables i : Int) + (l.tables[i].rows.length : Int)) = (rowsN l.tables (i + 1) : Int) := by
      rw [rowsN_succ h, w64 (by have := hr _ (List.getElem_mem h); unfold I64; omega)]; omega
    simp only [go_sem, simprocAttr, ltT h, Int.toNat_natCast, hx, TableL.row, hw]
    refine orF (fun h4 g => by have := g.2.2.2.2.1 _ (List.getElem_mem h); omega) fun h4 => orF (fun h5 g => by have := g.2.2.2.2.2.1; have := rowsN_mono l.tables (show i + 1 ≤ l.tables.length from h); omega) fun h5 => ⟨by rw [w64s (by omega)], ⟨(all_take_succ h).2 ⟨hg2.1, by omega⟩, by omega⟩, h⟩
  simp only [go_sem, simprocAttr, ltF h]
  rw [List.take_of_length_le (by omega)] at hg2
  have hie : i = l.tables.length := by omega
  refine FWT.count [] l.scopes.length (fun i => [(4, .int .i64 (rulesN l.scopes i)), (8, .int .i64 i)]) (fun i => (∀ f ∈ l.scopes.take i, smallScopeP f) ∧ rulesN l.scopes i ≤ 60) rfl ⟨by simp, by simp [rulesN]⟩ ?_
  intro j hj hg3
  by_cases h : j < l.scopes.length
  · have hx := scopesV_get h
    have hw : IntKind.i64.wrap ((rulesN l.scopes j : Int) + (l.scopes[j].rules.length : Int)) = (rulesN l.scopes (j + 1) : Int) := by
      rw [rulesN_succ h, w64 (by have := hu _ (List.getElem_mem h); unfold I64; omega)]; omega
    simp only [go_sem, simprocAttr, ltT h, Int.toNat_natCast, hx, ScopeL.row, hw]
    refine orF (fun h4 g => by have := g.2.2.2.2.2.2.1; have := rulesN_mono l.scopes (show j + 1 ≤ l.scopes.length from h); omega) fun h4 => ?_
    refine FCallT.of (smallScope_call (s := l.scopes[j])) ?_
    rintro _ rfl
    simp only [go_sem, simprocAttr]
    refine ⟨fun h5 => ?_, fun h5 => ?_⟩
    · exact fbp_false fun g => by rw [bp_true (g.2.2.2.2.2.2.2 _ (List.getElem_mem h))] at h5; cases h5
    · exact ⟨by rw [w64s (by omega)], ⟨(all_take_succ h).2 ⟨hg3.1, bp_iff.1 h5⟩, by omega⟩, h⟩
  simp only [go_sem, simprocAttr, ltF h]
  rw [List.take_of_length_le (by omega)] at hg3
  have hje : j = l.scopes.length := by omega
  subst hie; subst hje
  exact fbp_true ⟨by omega, by omega, by omega, hg, hg2.1, hg2.2, hg3.2, hg3.1⟩
end Go.Fx.Tryz
set_option linter.unusedVariables false
namespace Go.Fm
open Go
end Go.Fm
set_option linter.unusedVariables false
set_option linter.unusedSimpArgs false
namespace Go.Fx.Tryz
open Go Go.Fm Go.Proofs
end Go.Fx.Tryz
set_option linter.unusedVariables false
set_option linter.unusedSimpArgs false
namespace Go.Fx.Tryz
open Go Go.Fm Go.Proofs
end Go.Fx.Tryz
set_option linter.unusedVariables false
set_option linter.unusedSimpArgs false
namespace Go.Fx.Tryz
open Go Go.Fm Go.Proofs
end Go.Fx.Tryz
set_option linter.unusedVariables false
set_option linter.unusedSimpArgs false
namespace Go.Fm
open Go
end Go.Fm
set_option linter.unusedVariables false
set_option linter.unusedSimpArgs false
namespace Go.Fx.Tryz
open Go Go.Fm Go.Proofs
end Go.Fx.Tryz
set_option linter.unusedVariables false
set_option linter.unusedSimpArgs false
namespace Go.Fm
open Go
structure TyL where
  k : Int
  e : Int
  deriving DecidableEq
structure SigL where
  efull : Bool
  enums : List EnumL
  tfull : Bool
  tables : List TableL
  ifull : Bool
  inputs : List TyL
  dfull : Bool
  defs : List TyL
  mfull : Bool
  mems : List TyL
  has : Bool
def validT (t : TyL) (ne : Nat) : Prop := (t.k = 6 ∧ 0 ≤ t.e ∧ t.e < ne) ∨ (1 ≤ t.k ∧ t.k ≤ 5 ∧ t.e = 0)
instance (t : TyL) (ne : Nat) : Decidable (validT t ne) := by unfold validT; infer_instance
def loT (t : TyL) (en : List EnumL) : Int := if validT t en.length then if t.k = 2 then -1000000000000 else if t.k = 3 then -1000000000000000 else if t.k = 4 then -1000000000 else 0 else 0
def hiT (t : TyL) (en : List EnumL) : Int :=
  if validT t en.length then if t.k = 1 then 1 else if t.k = 2 then 1000000000000 else if t.k = 3 then 1000000000000000 else if t.k = 4 then 1000000000 else if t.k = 5 then 109572 else (((en[t.e.toNat]?).map fun e => (e.members.length : Int)).getD 0) - 1 else -1
def arityZ (op : Int) : Int :=
  if op < 1 ∨ 39 < op then -1 else if op = 26 then 3 else if op = 10 ∨ op = 25 ∨ op = 31 ∨ op = 32 ∨ op = 33 ∨ op = 34 then 1 else if op ≤ 9 ∨ 35 ≤ op then 0 else 2
def structGo (i : Nat) (stack out : List Int) : List NodeL → List Int × Int × Int
  | [] => if 1 < stack.length then ([], i, 4) else (out, 0, 0)
  | n :: r =>
    if arityZ n.op < 0 then ([], i, 2) else if (stack.length : Int) < arityZ n.op then ([], i, 5) else
    let k := (arityZ n.op).toNat
    let from_ := if 0 < k then (stack[stack.length - k]?).getD 0 else (i : Int)
    let st := stack.take (stack.length - k) ++ [from_]
    if 12 < st.length then ([], i, 16) else structGo (i + 1) st (out ++ [from_]) r
def meanP (op : Int) : Prop := (1 ≤ op ∧ op ≤ 8) ∨ (36 ≤ op ∧ op ≤ 39) ∨ op = 14 ∨ op = 15 ∨ op = 16 ∨ op = 33 ∨ op = 34
instance (op : Int) : Decidable (meanP op) := by unfold meanP; infer_instance
def rangedP (n : NodeL) : Prop :=
  (1 ≤ n.op ∧ n.op ≤ 5 → loT ⟨n.op, 0⟩ [] ≤ n.n ∧ n.n ≤ hiT ⟨n.op, 0⟩ []) ∧ (14 ≤ n.op ∧ n.op ≤ 16 → 0 ≤ n.n ∧ n.n ≤ 5) ∧ (n.op = 34 → 0 ≤ n.n ∧ n.n % 8 ≤ 5) ∧ (n.op = 6 → 0 ≤ n.n)
instance (n : NodeL) : Decidable (rangedP n) := by unfold rangedP; infer_instance
def numE (n : NodeL) : Int := if n.n ≠ 0 ∧ ¬ meanP n.op then 2 else if rangedP n then 0 else 3
def memN (en : List EnumL) (i : Int) : Int := ((en[i.toNat]?).map fun e => (e.members.length : Int)).getD 0
def foundP (n : NodeL) (s : SigL) : Prop :=
  (n.op = 6 → n.n / 16 < s.enums.length ∧ n.n % 16 < memN s.enums (n.n / 16)) ∧ (n.op = 7 → 0 ≤ n.n ∧ n.n < s.inputs.length) ∧ (n.op = 8 → 0 ≤ n.n ∧ n.n < s.defs.length) ∧
  (n.op = 33 → 0 ≤ n.n ∧ n.n < s.tables.length) ∧ (n.op = 34 → n.n / 8 < s.tables.length) ∧ (n.op = 35 → s.has = true) ∧ (36 ≤ n.op ∧ n.op ≤ 39 → s.has = true ∧ 0 ≤ n.n ∧ n.n < s.mems.length)
instance (n : NodeL) (s : SigL) : Decidable (foundP n s) := by unfold foundP; infer_instance
def numK (k : Int) : Prop := 2 ≤ k ∧ k ≤ 4
def ordK (k : Int) : Prop := 2 ≤ k ∧ k ≤ 5
instance (k : Int) : Decidable (numK k) := by unfold numK; infer_instance
instance (k : Int) : Decidable (ordK k) := by unfold ordK; infer_instance
def kindT (k : Int) : TyL := ⟨k, 0⟩
def tyAt (l : List TyL) (i : Int) : TyL := (l[i.toNat]?).getD ⟨0, 0⟩
def leafT (n : NodeL) (s : SigL) : TyL :=
  if n.op = 6 then ⟨6, n.n / 16⟩ else if n.op = 7 then tyAt s.inputs n.n else if n.op = 8 then tyAt s.defs n.n else if n.op = 9 then kindT 5 else if n.op = 35 then kindT 2 else if 36 ≤ n.op ∧ n.op ≤ 39 then tyAt s.mems n.n else kindT n.op
def aggP (op k : Int) : Prop := (op = 36 → k = 2 ∨ k = 3) ∧ (op = 37 ∨ op = 38 → k = 1) ∧ (op = 39 → ordK k)
instance (op k : Int) : Decidable (aggP op k) := by unfold aggP; infer_instance
def tabAt (l : List TableL) (i : Int) : TableL := (l[i.toNat]?).getD ⟨[], 0, 0, 0, 0, true, []⟩
def unT (n : NodeL) (a : TyL) (s : SigL) : TyL × Bool :=
  if n.op = 10 then (a, decide (numK a.k)) else if n.op = 25 then (a, decide (a.k = 1)) else if n.op = 31 ∨ n.op = 32 then (kindT 2, decide (a.k = 5)) else
  if n.op = 33 then let t := tabAt s.tables n.n; (⟨t.vk, t.ve⟩, decide (validT ⟨t.kk, t.ke⟩ s.enums.length ∧ validT ⟨t.vk, t.ve⟩ s.enums.length ∧ a = ⟨t.kk, t.ke⟩)) else
  let t := tabAt s.tables (n.n / 8); (a, decide (a.k = 3 ∧ t.kk = 3 ∧ t.ke = 0 ∧ t.vk = 4 ∧ t.ve = 0))
def scT (op a b : Int) : TyL × Bool :=
  if op = 13 then (kindT a, decide (b = 2 ∧ (a = 2 ∨ a = 3))) else if op = 14 then (kindT a, decide (b = 4 ∧ (a = 3 ∨ a = 4))) else
  if a = 3 ∧ b = 3 then (kindT 4, true) else (kindT a, decide (b = 2 ∧ (a = 2 ∨ a = 3)))
def binT (op : Int) (a b : TyL) : TyL × Bool :=
  if op = 11 ∨ op = 12 then (a, decide (a = b ∧ numK a.k)) else if op = 13 ∨ op = 14 ∨ op = 15 then scT op a.k b.k else if op = 16 then (a, decide (a.k = 3 ∧ b.k = 3)) else
  if op = 17 ∨ op = 18 then (a, decide (a = b ∧ ordK a.k)) else if op = 19 ∨ op = 20 then (kindT 1, decide (a = b)) else if op = 21 ∨ op = 22 then (kindT 1, decide (a = b ∧ ordK a.k)) else
  if op = 23 ∨ op = 24 then (a, decide (a.k = 1 ∧ b.k = 1)) else if op = 27 ∨ op = 28 then (a, decide (a.k = 5 ∧ b.k = 2)) else (kindT 2, decide (a.k = 5 ∧ b.k = 5))
def triT (a b c : TyL) : TyL × Bool := (b, decide (a.k = 1 ∧ b = c))
def nodeT (n : NodeL) (l : List TyL) (s : SigL) : TyL × Int :=
  if numE n ≠ 0 then (⟨0, 0⟩, numE n) else if ¬ foundP n s then (⟨0, 0⟩, 6) else
  let r : TyL × Bool := match l with
    | [] => (leafT n s, decide (validT (leafT n s) s.enums.length ∧ aggP n.op (leafT n s).k))
    | [a] => unT n a s
    | [a, b] => binT n.op a b
    | a :: b :: c :: _ => triT a b c
  if r.2 then (r.1, 0) else (⟨0, 0⟩, 8)
def typeGo (s : SigL) (i : Nat) (st : List TyL) : List NodeL → TyL × Int × Int
  | [] => ((st[0]?).getD ⟨0, 0⟩, 0, 0)
  | n :: r =>
    let k := st.length - (arityZ n.op).toNat
    let x := nodeT n (st.drop k) s
    if x.2 ≠ 0 then (⟨0, 0⟩, i, x.2) else typeGo s (i + 1) (st.take k ++ [x.1]) r
end Go.Fm
set_option linter.unusedVariables false
set_option linter.unusedSimpArgs false
namespace Go.Fm
open Go
theorem nodesV_get {l : List NodeL} {i : Nat} (h : i < l.length) : (nodesV l)[i]? = some l[i].row := by simp [nodesV, h]
theorem enumsV_get {l : List EnumL} {i : Nat} (h : i < l.length) : (enumsV l)[i]? = some l[i].row := by simp [enumsV, h]
@[go_sem] theorem e_at_cons (E : Env) (r : Nat) (x : Nat × Nat) (p : Path) : E.at r (x :: p) = match getN (E.get r) (x :: p) 1 with
  | some [y] => y
  | _ => .undef := rfl
theorem rowsOk_map {α : Type} {n : Nat} {f : α → List FV} (h : ∀ x, ((f x).length == n && (f x).all FV.one) = true) : ∀ l : List α, rowsOk n (l.map f) = true
  | [] => rfl
  | x :: l => by rw [List.map_cons, rowsOk_cons, h x, rowsOk_map h l]; rfl
theorem map_take_succ {α β : Type} {f : α → β} {l : List α} {i : Nat} (h : i < l.length) : (l.take (i + 1)).map f = (l.take i).map f ++ [f l[i]] := by
  rw [List.take_succ_eq_append_getElem h, List.map_append]; rfl
attribute [go_sem] ints_length
theorem take_eq_succ {α : Type} {a b : List α} {i : Nat} (h : i < a.length) (h2 : i < b.length) (hg : a.take i = b.take i) (e : a[i] = b[i]) : a.take (i + 1) = b.take (i + 1) := by
  rw [List.take_succ_eq_append_getElem h, List.take_succ_eq_append_getElem h2, hg, e]
theorem take_all_eq {α : Type} {a b : List α} {i : Nat} (h : a.length ≤ i) (h2 : b.length ≤ i) (hg : a.take i = b.take i) : a = b := by
  rwa [List.take_of_length_le h, List.take_of_length_le h2] at hg
@[go_sem] theorem rowsOk_nodesV (l : List NodeL) : rowsOk 2 (nodesV l) = true := rowsOk_map (fun _ => rfl) l
@[go_sem] theorem rowsOk_fieldsV (l : List FieldL) : rowsOk 3 (fieldsV l) = true := rowsOk_map (fun _ => rfl) l
@[go_sem] theorem rowsOk_rowsV (l : List RowL) : rowsOk 5 (rowsV l) = true := rowsOk_map (fun _ => rfl) l
def EnumL.own (e : EnumL) : List FV := [.str e.name, .arr (strs e.members)]
def enumsO (l : List EnumL) : List (List FV) := l.map EnumL.own
def TableL.own (x : TableL) : List FV := [.str x.name, .int .i64 x.kk, .int .i64 x.ke, .int .i64 x.vk, .int .i64 x.ve, .arr (rowsV x.rows)]
def tablesO (l : List TableL) : List (List FV) := l.map TableL.own
@[go_sem] theorem enumsO_length (l : List EnumL) : (enumsO l).length = l.length := by simp [enumsO]
@[go_sem] theorem tablesO_length (l : List TableL) : (tablesO l).length = l.length := by simp [tablesO]
@[go_sem] theorem rowsOk_enumsO (l : List EnumL) : rowsOk 2 (enumsO l) = true := rowsOk_map (fun _ => rfl) l
@[go_sem] theorem rowsOk_tablesO (l : List TableL) : rowsOk 6 (tablesO l) = true := rowsOk_map (fun _ => rfl) l
theorem enumsO_snoc (l : List EnumL) (x : EnumL) : enumsO (l ++ [x]) = enumsO l ++ [x.own] := by simp [enumsO]
theorem tablesO_snoc (l : List TableL) (x : TableL) : tablesO (l ++ [x]) = tablesO l ++ [x.own] := by simp [tablesO]
def EnumL.bare (e : EnumL) : EnumL := { e with full := false }
def TableL.bare (e : TableL) : TableL := { e with rfull := false }
theorem sealedLL_map {α : Type} {f g : α → List FV} (h : ∀ x, sealedL (f x) = g x) : ∀ l : List α, sealedLL (l.map f) = l.map g
  | [] => rfl
  | x :: l => by rw [List.map_cons, sealedLL, h x, sealedLL_map h l]; rfl
@[go_sem] theorem sealed_strs (l : List (List UInt8)) : sealedLL (strs l) = strs l := sealedLL_map (fun _ => rfl) l
@[go_sem] theorem sealed_nodesV (l : List NodeL) : sealedLL (nodesV l) = nodesV l := sealedLL_map (fun _ => rfl) l
@[go_sem] theorem sealed_fieldsV (l : List FieldL) : sealedLL (fieldsV l) = fieldsV l := sealedLL_map (fun _ => rfl) l
@[go_sem] theorem sealed_rowsV (l : List RowL) : sealedLL (rowsV l) = rowsV l := sealedLL_map (fun _ => rfl) l
@[go_sem] theorem sealed_enumsO (l : List EnumL) : sealedLL (enumsO l) = enumsV (l.map EnumL.bare) := by
  rw [enumsO, sealedLL_map (g := fun e => e.bare.row) (fun x => by simp only [EnumL.own, sealedL, FV.sealed, sealed_strs]; rfl), enumsV, List.map_map]; rfl
@[go_sem] theorem sealed_tablesO (l : List TableL) : sealedLL (tablesO l) = tablesV (l.map TableL.bare) := by
  rw [tablesO, sealedLL_map (g := fun e => e.bare.row) (fun x => by simp only [TableL.own, sealedL, FV.sealed, sealed_rowsV]; rfl), tablesV, List.map_map]; rfl
theorem NodeL.eqB (x y : NodeL) : (decide (x.op = y.op) && decide (x.n = y.n)) = bp (x = y) := by
  rw [Bool.eq_iff_iff, bp_iff]; cases x; cases y; simp
theorem RowL.eqB (x y : RowL) : (decide (x.f = y.f) && (decide (x.t = y.t) && (decide (x.lo = y.lo) && (decide (x.hi = y.hi) && decide (x.n = y.n))))) = bp (x = y) := by
  rw [Bool.eq_iff_iff, bp_iff]; cases x; cases y; simp
theorem FieldL.eqB (x y : FieldL) : (decide (x.name = y.name) && (decide (x.k = y.k) && decide (x.e = y.e))) = bp (x = y) := by
  rw [Bool.eq_iff_iff, bp_iff]; cases x; cases y; simp
theorem cmp_round {α : Type} {a b : List α} {i : Nat} (h2 : i < a.length) (h3 : i < b.length) (hg : a.take i = b.take i) {E E' : Env} (hE : E = E') :
    (bp (a[i] = b[i]) = false → FV.bool false = FV.bool (bp (a = b))) ∧ (bp (a[i] = b[i]) = true → E = E' ∧ a.take (i + 1) = b.take (i + 1) ∧ i < a.length) := by
  refine ⟨fun e => fbp_false fun hh => ?_, fun e => ⟨hE, take_eq_succ h2 h3 hg (bp_iff.1 e), h2⟩⟩
  subst hh
  rw [bp_true rfl] at e; cases e
theorem cmp_roundM {α β : Type} {f : α → β} {a b : List α} {i : Nat} (h2 : i < a.length) (h3 : i < b.length) (hg : (a.take i).map f = (b.take i).map f) {E E' : Env} (hE : E = E') :
    (bp (f a[i] = f b[i]) = false → FV.bool false = FV.bool (bp (a.map f = b.map f))) ∧ (bp (f a[i] = f b[i]) = true → E = E' ∧ (a.take (i + 1)).map f = (b.take (i + 1)).map f ∧ i < a.length) := by
  refine ⟨fun e => fbp_false fun hh => ?_, fun e => ⟨hE, by rw [map_take_succ h2, map_take_succ h3, hg, bp_iff.1 e], h2⟩⟩
  have h4 : (a.map f)[i]? = (b.map f)[i]? := by rw [hh]
  simp only [List.getElem?_map, List.getElem?_eq_getElem h2, List.getElem?_eq_getElem h3, Option.map_some, Option.some.injEq] at h4
  rw [bp_true h4] at e; cases e
theorem bp_congr {p q : Prop} (h : p ↔ q) : bp p = bp q := by rw [Bool.eq_iff_iff, bp_iff, bp_iff, h]
def EnumL.core (e : EnumL) : List UInt8 × List (List UInt8) := (e.name, e.members)
def TableL.core (x : TableL) : List UInt8 × TyL × TyL × List RowL := (x.name, ⟨x.kk, x.ke⟩, ⟨x.vk, x.ve⟩, x.rows)
def RuleL.core (x : RuleL) : List UInt8 × Int × Int × Int × Int × Int × List NodeL × List NodeL × List UInt8 := (x.name, x.d, x.p, x.pr, x.f, x.t, x.guard, x.value, x.src)
def ScopeL.core (x : ScopeL) := (x.name, x.ms, x.inputs, x.defs, x.rules.map RuleL.core)
def LawL.core (x : LawL) := (x.enums.map EnumL.core, x.tables.map TableL.core, x.scopes.map ScopeL.core)
@[go_sem] theorem cut_arr (es : List (List FV)) (lo n sz : Nat) : cutFV (.arr es) lo n sz = if n = 0 then .buf sz else .arr ((es.drop lo).take n) := rfl
end Go.Fm
set_option linter.unusedVariables false
set_option linter.unusedSimpArgs false
namespace Go.Fx.Tryz
open Go Go.Fm Go.Proofs
theorem Strings_call {a b : List (List UInt8)} {u v : Bool} (hl : a.length < 2 ^ 60) : FCall Tryz.prog n_same_Strings [.sl u (strs a), .sl v (strs b)] (· = .bool (bp (a = b))) := by
  refine FCall.walk u_same_Strings k_same_Strings rfl ?_
  unfold c_same_Strings
  simp only [go_sem, simprocAttr]
  refine ⟨fun h => fbp_false fun e => h (by rw [e]), fun h => ?_⟩
  refine FWT.count [] a.length (fun i => [(5, .int .i64 i)]) (fun i => a.take i = b.take i) rfl (by simp) ?_
  intro i hi hg
  by_cases h2 : i < a.length
  · have h3 : i < b.length := by omega
    have hx := strs_get h2
    have hy := strs_get h3
    simp only [go_sem, simprocAttr, ltT h2, ltT h3, Int.toNat_natCast, hx, hy]
    refine ⟨fun e => fbp_false fun hh => ?_, fun e => ⟨by rw [w64s (by omega)], take_eq_succ h2 h3 hg e, h2⟩⟩
    subst hh; exact e rfl
  have h3 : ¬ i < b.length := by omega
  simp only [go_sem, simprocAttr, ltF h2, ltF h3]
  exact fbp_true (take_all_eq (by omega) (by omega) hg)
theorem Nodes_call {a b : List NodeL} {u v : Bool} (hl : a.length < 2 ^ 60) : FCall Tryz.prog n_same_Nodes [.sl u (nodesV a), .sl v (nodesV b)] (· = .bool (bp (a = b))) := by
  refine FCall.walk u_same_Nodes k_same_Nodes rfl ?_
  unfold c_same_Nodes
  simp only [go_sem, simprocAttr]
  refine ⟨fun h => fbp_false fun e => h (by rw [e]), fun h => ?_⟩
  refine FWT.count [] a.length (fun i => [(5, .int .i64 i)]) (fun i => a.take i = b.take i) rfl (by simp) ?_
  intro i hi hg
  by_cases h2 : i < a.length
  · have h3 : i < b.length := by omega
    have hx := nodesV_get h2
    have hy := nodesV_get h3
    simp only [go_sem, simprocAttr, ltT h2, ltT h3, Int.toNat_natCast, hx, hy, NodeL.row]
    simp only [NodeL.eqB]
    exact cmp_round h2 h3 hg (by rw [w64s (by omega)])
  have h3 : ¬ i < b.length := by omega
  simp only [go_sem, simprocAttr, ltF h2, ltF h3]
  exact fbp_true (take_all_eq (by omega) (by omega) hg)
theorem Rows_call {a b : List RowL} {u v : Bool} (hl : a.length < 2 ^ 60) : FCall Tryz.prog n_same_Rows [.sl u (rowsV a), .sl v (rowsV b)] (· = .bool (bp (a = b))) := by
  refine FCall.walk u_same_Rows k_same_Rows rfl ?_
  unfold c_same_Rows
  simp only [go_sem, simprocAttr]
  refine ⟨fun h => fbp_false fun e => h (by rw [e]), fun h => ?_⟩
  refine FWT.count [] a.length (fun i => [(5, .int .i64 i)]) (fun i => a.take i = b.take i) rfl (by simp) ?_
  intro i hi hg
  by_cases h2 : i < a.length
  · have h3 : i < b.length := by omega
    have hx := rowsV_get h2
    have hy := rowsV_get h3
    simp only [go_sem, simprocAttr, ltT h2, ltT h3, Int.toNat_natCast, hx, hy, RowL.row]
    simp only [RowL.eqB]
    exact cmp_round h2 h3 hg (by rw [w64s (by omega)])
  have h3 : ¬ i < b.length := by omega
  simp only [go_sem, simprocAttr, ltF h2, ltF h3]
  exact fbp_true (take_all_eq (by omega) (by omega) hg)
theorem Fields_call {a b : List FieldL} {u v : Bool} (hl : a.length < 2 ^ 60) : FCall Tryz.prog n_same_Fields [.sl u (fieldsV a), .sl v (fieldsV b)] (· = .bool (bp (a = b))) := by
  refine FCall.walk u_same_Fields k_same_Fields rfl ?_
  unfold c_same_Fields
  simp only [go_sem, simprocAttr]
  refine ⟨fun h => fbp_false fun e => h (by rw [e]), fun h => ?_⟩
  refine FWT.count [] a.length (fun i => [(5, .int .i64 i)]) (fun i => a.take i = b.take i) rfl (by simp) ?_
  intro i hi hg
  by_cases h2 : i < a.length
  · have h3 : i < b.length := by omega
    have hx := fieldsV_get h2
    have hy := fieldsV_get h3
    simp only [go_sem, simprocAttr, ltT h2, ltT h3, Int.toNat_natCast, hx, hy, FieldL.row]
    simp only [FieldL.eqB]
    exact cmp_round h2 h3 hg (by rw [w64s (by omega)])
  have h3 : ¬ i < b.length := by omega
  simp only [go_sem, simprocAttr, ltF h2, ltF h3]
  exact fbp_true (take_all_eq (by omega) (by omega) hg)
end Go.Fx.Tryz
set_option linter.unusedVariables false
set_option linter.unusedSimpArgs false
namespace Go.Fx.Tryz
open Go Go.Fm Go.Proofs
theorem Enum_call {x y : EnumL} (hm : x.members.length < 2 ^ 60) : FCall Tryz.prog n_same_Enum [.agg x.row, .agg y.row] (· = .bool (bp (x.core = y.core))) := by
  refine FCall.walk u_same_Enum k_same_Enum rfl ?_
  unfold c_same_Enum
  simp only [go_sem, simprocAttr, EnumL.row]
  refine ⟨fun e => ?_, fun e => fbp_false fun h => e (congrArg Prod.fst h)⟩
  refine FCallT.of (Strings_call (a := x.members) (b := y.members) hm) ?_
  rintro _ rfl
  simp only [go_sem, simprocAttr]
  exact congrArg FV.bool (bp_congr (by simp [EnumL.core, e]))
theorem Table_call {x y : TableL} (hm : x.rows.length < 2 ^ 60) : FCall Tryz.prog n_same_Table [.agg x.row, .agg y.row] (· = .bool (bp (x.core = y.core))) := by
  refine FCall.walk u_same_Table k_same_Table rfl ?_
  unfold c_same_Table
  simp only [go_sem, simprocAttr, TableL.row]
  refine ⟨fun e => ?_, fun e => fbp_false fun h => e (congrArg Prod.fst h)⟩
  refine ⟨fun e2 => ?_, fun e2 => fbp_false fun h => by simp only [TableL.core, Prod.mk.injEq, TyL.mk.injEq] at h; simp [h] at e2⟩
  refine ⟨fun e3 => ?_, fun e3 => fbp_false fun h => by simp only [TableL.core, Prod.mk.injEq, TyL.mk.injEq] at h; simp [h] at e3⟩
  refine FCallT.of (Rows_call (a := x.rows) (b := y.rows) hm) ?_
  rintro _ rfl
  simp only [go_sem, simprocAttr]
  simp only [Bool.and_eq_true, decide_eq_true_eq] at e2 e3
  exact congrArg FV.bool (bp_congr (by simp [TableL.core, e, e2, e3]))
theorem Rule_call {x y : RuleL} (hm : x.guard.length < 2 ^ 60) (hv : x.value.length < 2 ^ 60) : FCall Tryz.prog n_same_Rule [.agg x.row, .agg y.row] (· = .bool (bp (x.core = y.core))) := by
  refine FCall.walk u_same_Rule k_same_Rule rfl ?_
  unfold c_same_Rule
  simp only [go_sem, simprocAttr, RuleL.row]
  refine ⟨fun e1 => ?_, fun e => fbp_false fun h => by simp only [RuleL.core, Prod.mk.injEq] at h; simp [h] at e⟩
  refine ⟨fun e2 => ?_, fun e => fbp_false fun h => by simp only [RuleL.core, Prod.mk.injEq] at h; simp [h] at e⟩
  refine ⟨fun e3 => ?_, fun e => fbp_false fun h => by simp only [RuleL.core, Prod.mk.injEq] at h; simp [h] at e⟩
  refine ⟨fun e4 => ?_, fun e => fbp_false fun h => by simp only [RuleL.core, Prod.mk.injEq] at h; simp [h] at e⟩
  refine ⟨fun e5 => ?_, fun e => fbp_false fun h => by simp only [RuleL.core, Prod.mk.injEq] at h; simp [h] at e⟩
  refine ⟨fun e6 => ?_, fun e => fbp_false fun h => by simp only [RuleL.core, Prod.mk.injEq] at h; simp [h] at e⟩
  refine FCallT.of (Nodes_call (a := x.guard) (b := y.guard) hm) ?_
  rintro _ rfl
  simp only [go_sem, simprocAttr]
  refine ⟨fun e7 => ?_, fun e => fbp_false fun h => by simp only [RuleL.core, Prod.mk.injEq] at h; rw [bp_true h.2.2.2.2.2.2.1] at e; cases e⟩
  refine FCallT.of (Nodes_call (a := x.value) (b := y.value) hv) ?_
  rintro _ rfl
  simp only [go_sem, simprocAttr]
  simp only [Bool.and_eq_true, decide_eq_true_eq] at e5
  exact congrArg FV.bool (bp_congr (by simp [RuleL.core, e1, e2, e3, e4, e5, e6, bp_iff.1 e7]))
theorem Enums_call {a b : List EnumL} {u v : Bool} (hl : a.length < 2 ^ 60) (hm : ∀ x ∈ a, x.members.length < 2 ^ 60) : FCall Tryz.prog n_same_Enums [.sl u (enumsV a), .sl v (enumsV b)] (· = .bool (bp (a.map EnumL.core = b.map EnumL.core))) := by
  refine FCall.walk u_same_Enums k_same_Enums rfl ?_
  unfold c_same_Enums
  simp only [go_sem, simprocAttr]
  refine ⟨fun h => fbp_false fun e => h (by have := congrArg List.length e; rw [List.length_map, List.length_map] at this; rw [this]), fun h => ?_⟩
  refine FWT.count [] a.length (fun i => [(5, .int .i64 i)]) (fun i => (a.take i).map EnumL.core = (b.take i).map EnumL.core) rfl (by simp) ?_
  intro i hi hg
  by_cases h2 : i < a.length
  · have h3 : i < b.length := by omega
    have hx := Go.Fm.enumsV_get h2
    have hy := Go.Fm.enumsV_get h3
    simp only [go_sem, simprocAttr, ltT h2, ltT h3, Int.toNat_natCast, hx, hy, EnumL.row]
    refine detCall_of _ (Enum_call (x := a[i]) (y := b[i]) (hm _ (List.getElem_mem h2))) ?_
    simp only [go_sem, simprocAttr]
    exact cmp_roundM h2 h3 hg (by rw [w64s (by omega)])
  have h3 : ¬ i < b.length := by omega
  simp only [go_sem, simprocAttr, ltF h2, ltF h3]
  rw [List.take_of_length_le (by omega), List.take_of_length_le (by omega)] at hg
  exact fbp_true hg
theorem Tables_call {a b : List TableL} {u v : Bool} (hl : a.length < 2 ^ 60) (hm : ∀ x ∈ a, x.rows.length < 2 ^ 60) : FCall Tryz.prog n_same_Tables [.sl u (tablesV a), .sl v (tablesV b)] (· = .bool (bp (a.map TableL.core = b.map TableL.core))) := by
  refine FCall.walk u_same_Tables k_same_Tables rfl ?_
  unfold c_same_Tables
  simp only [go_sem, simprocAttr]
  refine ⟨fun h => fbp_false fun e => h (by have := congrArg List.length e; rw [List.length_map, List.length_map] at this; rw [this]), fun h => ?_⟩
  refine FWT.count [] a.length (fun i => [(5, .int .i64 i)]) (fun i => (a.take i).map TableL.core = (b.take i).map TableL.core) rfl (by simp) ?_
  intro i hi hg
  by_cases h2 : i < a.length
  · have h3 : i < b.length := by omega
    have hx := tablesV_get h2
    have hy := tablesV_get h3
    simp only [go_sem, simprocAttr, ltT h2, ltT h3, Int.toNat_natCast, hx, hy, TableL.row]
    refine detCall_of _ (Table_call (x := a[i]) (y := b[i]) (hm _ (List.getElem_mem h2))) ?_
    simp only [go_sem, simprocAttr]
    exact cmp_roundM h2 h3 hg (by rw [w64s (by omega)])
  have h3 : ¬ i < b.length := by omega
  simp only [go_sem, simprocAttr, ltF h2, ltF h3]
  rw [List.take_of_length_le (by omega), List.take_of_length_le (by omega)] at hg
  exact fbp_true hg
theorem Rules_call {a b : List RuleL} {u v : Bool} (hl : a.length < 2 ^ 60) (hm : ∀ x ∈ a, x.guard.length < 2 ^ 60 ∧ x.value.length < 2 ^ 60) : FCall Tryz.prog n_same_Rules [.sl u (rulesV a), .sl v (rulesV b)] (· = .bool (bp (a.map RuleL.core = b.map RuleL.core))) := by
  refine FCall.walk u_same_Rules k_same_Rules rfl ?_
  unfold c_same_Rules
  simp only [go_sem, simprocAttr]
  refine ⟨fun h => fbp_false fun e => h (by have := congrArg List.length e; rw [List.length_map, List.length_map] at this; rw [this]), fun h => ?_⟩
  refine FWT.count [] a.length (fun i => [(5, .int .i64 i)]) (fun i => (a.take i).map RuleL.core = (b.take i).map RuleL.core) rfl (by simp) ?_
  intro i hi hg
  by_cases h2 : i < a.length
  · have h3 : i < b.length := by omega
    have hx := rulesV_get h2
    have hy := rulesV_get h3
    simp only [go_sem, simprocAttr, ltT h2, ltT h3, Int.toNat_natCast, hx, hy, RuleL.row]
    refine detCall_of _ (Rule_call (x := a[i]) (y := b[i]) (hm _ (List.getElem_mem h2)).1 (hm _ (List.getElem_mem h2)).2) ?_
    simp only [go_sem, simprocAttr]
    exact cmp_roundM h2 h3 hg (by rw [w64s (by omega)])
  have h3 : ¬ i < b.length := by omega
  simp only [go_sem, simprocAttr, ltF h2, ltF h3]
  rw [List.take_of_length_le (by omega), List.take_of_length_le (by omega)] at hg
  exact fbp_true hg
def ScopeL.fit (x : ScopeL) : Prop := x.inputs.length < 2 ^ 60 ∧ x.defs.length < 2 ^ 60 ∧ x.rules.length < 2 ^ 60 ∧ ∀ r ∈ x.rules, r.guard.length < 2 ^ 60 ∧ r.value.length < 2 ^ 60
def LawL.fit (l : LawL) : Prop := l.enums.length < 2 ^ 60 ∧ (∀ x ∈ l.enums, x.members.length < 2 ^ 60) ∧ l.tables.length < 2 ^ 60 ∧ (∀ x ∈ l.tables, x.rows.length < 2 ^ 60) ∧ l.scopes.length < 2 ^ 60 ∧ ∀ x ∈ l.scopes, ScopeL.fit x
theorem Scope_call {x y : ScopeL} (hm : ScopeL.fit x) : FCall Tryz.prog n_same_Scope [.agg x.row, .agg y.row] (· = .bool (bp (x.core = y.core))) := by
  refine FCall.walk u_same_Scope k_same_Scope rfl ?_
  unfold c_same_Scope
  simp only [go_sem, simprocAttr, ScopeL.row]
  refine ⟨fun e1 => ?_, fun e => fbp_false fun h => by simp only [ScopeL.core, Prod.mk.injEq] at h; simp [h] at e⟩
  refine ⟨fun e2 => ?_, fun e => fbp_false fun h => by simp only [ScopeL.core, Prod.mk.injEq] at h; simp [h] at e⟩
  refine FCallT.of (Fields_call (a := x.inputs) (b := y.inputs) hm.1) ?_
  rintro _ rfl
  simp only [go_sem, simprocAttr]
  refine ⟨fun e3 => ?_, fun e => fbp_false fun h => by simp only [ScopeL.core, Prod.mk.injEq] at h; rw [bp_true h.2.2.1] at e; cases e⟩
  refine FCallT.of (Fields_call (a := x.defs) (b := y.defs) hm.2.1) ?_
  rintro _ rfl
  simp only [go_sem, simprocAttr]
  refine ⟨fun e4 => ?_, fun e => fbp_false fun h => by simp only [ScopeL.core, Prod.mk.injEq] at h; rw [bp_true h.2.2.2.1] at e; cases e⟩
  refine FCallT.of (Rules_call (a := x.rules) (b := y.rules) hm.2.2.1 hm.2.2.2) ?_
  rintro _ rfl
  simp only [go_sem, simprocAttr]
  exact congrArg FV.bool (bp_congr (by simp [ScopeL.core, e1, e2, bp_iff.1 e3, bp_iff.1 e4]))
theorem Scopes_call {a b : List ScopeL} {u v : Bool} (hl : a.length < 2 ^ 60) (hm : ∀ x ∈ a, ScopeL.fit x) : FCall Tryz.prog n_same_Scopes [.sl u (scopesV a), .sl v (scopesV b)] (· = .bool (bp (a.map ScopeL.core = b.map ScopeL.core))) := by
  refine FCall.walk u_same_Scopes k_same_Scopes rfl ?_
  unfold c_same_Scopes
  simp only [go_sem, simprocAttr]
  refine ⟨fun h => fbp_false fun e => h (by have := congrArg List.length e; rw [List.length_map, List.length_map] at this; rw [this]), fun h => ?_⟩
  refine FWT.count [] a.length (fun i => [(5, .int .i64 i)]) (fun i => (a.take i).map ScopeL.core = (b.take i).map ScopeL.core) rfl (by simp) ?_
  intro i hi hg
  by_cases h2 : i < a.length
  · have h3 : i < b.length := by omega
    have hx := scopesV_get h2
    have hy := scopesV_get h3
    simp only [go_sem, simprocAttr, ltT h2, ltT h3, Int.toNat_natCast, hx, hy, ScopeL.row]
    refine detCall_of _ (Scope_call (x := a[i]) (y := b[i]) (hm _ (List.getElem_mem h2))) ?_
    simp only [go_sem, simprocAttr]
    exact cmp_roundM h2 h3 hg (by rw [w64s (by omega)])
  have h3 : ¬ i < b.length := by omega
  simp only [go_sem, simprocAttr, ltF h2, ltF h3]
  rw [List.take_of_length_le (by omega), List.take_of_length_le (by omega)] at hg
  exact fbp_true hg
theorem Law_call {x y : LawL} (hm : LawL.fit x) : FCall Tryz.prog n_same_Law [.agg x.row, .agg y.row] (· = .bool (bp (x.core = y.core))) := by
  refine FCall.walk u_same_Law k_same_Law rfl ?_
  unfold c_same_Law
  simp only [go_sem, simprocAttr, LawL.row]
  refine FCallT.of (Enums_call (a := x.enums) (b := y.enums) hm.1 hm.2.1) ?_
  rintro _ rfl
  simp only [go_sem, simprocAttr]
  refine ⟨fun e3 => ?_, fun e => fbp_false fun h => by simp only [LawL.core, Prod.mk.injEq] at h; rw [bp_true h.1] at e; cases e⟩
  refine FCallT.of (Tables_call (a := x.tables) (b := y.tables) hm.2.2.1 hm.2.2.2.1) ?_
  rintro _ rfl
  simp only [go_sem, simprocAttr]
  refine ⟨fun e4 => ?_, fun e => fbp_false fun h => by simp only [LawL.core, Prod.mk.injEq] at h; rw [bp_true h.2.1] at e; cases e⟩
  refine FCallT.of (Scopes_call (a := x.scopes) (b := y.scopes) hm.2.2.2.2.1 hm.2.2.2.2.2) ?_
  rintro _ rfl
  simp only [go_sem, simprocAttr]
  exact congrArg FV.bool (bp_congr (by simp [LawL.core, bp_iff.1 e3, bp_iff.1 e4]))
end Go.Fx.Tryz
set_option linter.unusedVariables false
set_option linter.unusedSimpArgs false
namespace Go.Fm
open Go
def LawL.mid (l : LawL) : Prop := l.enums.length < 2 ^ 40 ∧ (∀ x ∈ l.enums, x.members.length < 2 ^ 40) ∧ l.tables.length < 2 ^ 40 ∧ (∀ x ∈ l.tables, x.rows.length < 2 ^ 40) ∧ l.scopes.length < 2 ^ 40 ∧ ∀ x ∈ l.scopes, x.inputs.length < 2 ^ 40 ∧ x.defs.length < 2 ^ 40
structure NamesL where
  efull : Bool
  enums : List EnumL
  tfull : Bool
  tables : List (List UInt8)
  ifull : Bool
  inputs : List (List UInt8)
  dfull : Bool
  defs : List (List UInt8)
  mfull : Bool
  mems : List (List UInt8)
def NamesL.core (s : NamesL) := (s.enums.map EnumL.core, s.tables, s.inputs, s.defs, s.mems)
def SigL.core (s : SigL) := (s.enums.map EnumL.core, s.tables.map TableL.core, s.inputs, s.defs, s.mems, s.has)
theorem core_bareT (l : List TableL) : (l.map TableL.bare).map TableL.core = l.map TableL.core := by rw [List.map_map]; rfl
end Go.Fm
set_option linter.unusedVariables false
set_option linter.unusedSimpArgs false
namespace Go.Fx.Tryz
open Go Go.Fm Go.Proofs
theorem cloneStr_call {u : Bool} {xs : List (List UInt8)} (h : xs.length < 2 ^ 40) : FCall Tryz.prog n_slices_Clone_string_string [.sl u (strs xs)] (· = .arr (strs xs)) := by
  refine FCall.walk u_slices_Clone_string_string k_slices_Clone_string_string rfl ?_
  unfold c_slices_Clone_string_string
  simp only [go_sem, simprocAttr]
  refine nilKT_of fun b hb => ?_
  simp only [go_sem, simprocAttr]
  refine ⟨fun e => ?_, fun e => by omega⟩
  have : strs xs = [] := by subst e; simpa using hb
  rw [this]
theorem cloneRow_call {u : Bool} {xs : List RowL} (h : xs.length < 2 ^ 40) : FCall Tryz.prog n_slices_Clone_api_Row_api_Row [.sl u (rowsV xs)] (· = .arr (rowsV xs)) := by
  refine FCall.walk u_slices_Clone_api_Row_api_Row k_slices_Clone_api_Row_api_Row rfl ?_
  unfold c_slices_Clone_api_Row_api_Row
  simp only [go_sem, simprocAttr]
  refine nilKT_of fun b hb => ?_
  simp only [go_sem, simprocAttr]
  refine ⟨fun e => ?_, fun e => by omega⟩
  have : rowsV xs = [] := by subst e; simpa using hb
  rw [this]
theorem cloneField_call {u : Bool} {xs : List FieldL} (h : xs.length < 2 ^ 40) : FCall Tryz.prog n_slices_Clone_api_Field_api_Field [.sl u (fieldsV xs)] (· = .arr (fieldsV xs)) := by
  refine FCall.walk u_slices_Clone_api_Field_api_Field k_slices_Clone_api_Field_api_Field rfl ?_
  unfold c_slices_Clone_api_Field_api_Field
  simp only [go_sem, simprocAttr]
  refine nilKT_of fun b hb => ?_
  simp only [go_sem, simprocAttr]
  refine ⟨fun e => ?_, fun e => by omega⟩
  have : fieldsV xs = [] := by subst e; simpa using hb
  rw [this]
theorem cloneNode_call {u : Bool} {xs : List NodeL} (h : xs.length < 2 ^ 40) : FCall Tryz.prog n_slices_Clone_api_Node_api_Node [.sl u (nodesV xs)] (· = .arr (nodesV xs)) := by
  refine FCall.walk u_slices_Clone_api_Node_api_Node k_slices_Clone_api_Node_api_Node rfl ?_
  unfold c_slices_Clone_api_Node_api_Node
  simp only [go_sem, simprocAttr]
  refine nilKT_of fun b hb => ?_
  simp only [go_sem, simprocAttr]
  refine ⟨fun e => ?_, fun e => by omega⟩
  have : nodesV xs = [] := by subst e; simpa using hb
  rw [this]
theorem enums_call {u : Bool} {l : List EnumL} (h : l.length < 2 ^ 40) (hm : ∀ x ∈ l, x.members.length < 2 ^ 40) : FCall Tryz.prog n_law_enums [.sl u (enumsV l)] (· = .arr (enumsO l)) := by
  refine FCall.walk u_law_enums k_law_enums rfl ?_
  unfold c_law_enums
  simp only [go_sem, simprocAttr]
  refine FWT.count [5] l.length (fun i => [(3, .arr (enumsO (l.take i))), (8, .int .i64 i)]) (fun i => True) rfl trivial ?_
  intro i hi hg
  by_cases h2 : i < l.length
  · have hx := Go.Fm.enumsV_get h2
    simp only [go_sem, simprocAttr, ltT h2, Int.toNat_natCast, hx, EnumL.row]
    refine detCall_of _ (cloneStr_call (xs := l[i].members) (hm _ (List.getElem_mem h2))) ?_
    simp only [go_sem, simprocAttr]
    exact ⟨by simp; omega, by rw [List.take_succ_eq_append_getElem h2, enumsO_snoc, w64s (by omega)]; rfl, h2⟩
  simp only [go_sem, simprocAttr, ltF h2]
  rw [List.take_of_length_le (by omega)]
theorem tables_call {u : Bool} {l : List TableL} (h : l.length < 2 ^ 40) (hm : ∀ x ∈ l, x.rows.length < 2 ^ 40) : FCall Tryz.prog n_law_tables [.sl u (tablesV l)] (· = .arr (tablesO l)) := by
  refine FCall.walk u_law_tables k_law_tables rfl ?_
  unfold c_law_tables
  simp only [go_sem, simprocAttr]
  refine FWT.count [5] l.length (fun i => [(3, .arr (tablesO (l.take i))), (8, .int .i64 i)]) (fun i => True) rfl trivial ?_
  intro i hi hg
  by_cases h2 : i < l.length
  · have hx := tablesV_get h2
    simp only [go_sem, simprocAttr, ltT h2, Int.toNat_natCast, hx, TableL.row]
    refine FCallT.of (cloneRow_call (xs := l[i].rows) (hm _ (List.getElem_mem h2))) ?_
    rintro _ rfl
    simp only [go_sem, simprocAttr]
    exact ⟨by simp; omega, by rw [List.take_succ_eq_append_getElem h2, tablesO_snoc, w64s (by omega)]; rfl, h2⟩
  simp only [go_sem, simprocAttr, ltF h2]
  rw [List.take_of_length_le (by omega)]
end Go.Fx.Tryz
set_option linter.unusedVariables false
set_option linter.unusedSimpArgs false
namespace Go.Fm
open Go
def ChainT (L : List Int) (T : List TyL) : Int → List (Int × TyL) → Prop
  | last, [] => last = -1
  | last, x :: r => 0 ≤ last ∧ L[last.toNat]? = some x.1 ∧ T[last.toNat]? = some x.2 ∧ x.1 ≤ last ∧ 0 ≤ x.1 ∧ ChainT L T (x.1 - 1) r
structure TyInv (e : List NodeL) (s : SigL) (L : List Int) (R : TyL × Int × Int) (i : Nat) (T : List TyL) (ps : List (Int × TyL)) : Prop where
  hi : i ≤ e.length
  len : T.length = e.length
  st : ∃ out, out.length = i ∧ structGo i (ps.reverse.map (·.1)) out (e.drop i) = (L, 0, 0)
  ty : typeGo s i (ps.reverse.map (·.2)) (e.drop i) = R
  ch : ChainT L T ((i : Int) - 1) ps
  ok : ∀ x ∈ ps, validT x.2 s.enums.length
end Go.Fm
set_option linter.unusedVariables false
set_option linter.unusedSimpArgs false
namespace Go.Fm
open Go
end Go.Fm
set_option linter.unusedVariables false
set_option linter.unusedSimpArgs false
namespace Go.Fm
open Go
inductive Reach (D : Int → List Int) (a : Int) : Int → Prop
  | one {x : Int} : x ∈ D a → Reach D a x
  | more {x y : Int} : Reach D a x → y ∈ D x → Reach D a y
section
variable {D : Int → List Int} {n : Nat} {a : Int}
structure Bfs (D : Int → List Int) (n : Nat) (a : Int) (p : Int → Prop) (todo : List Int) : Prop where
  r1 : ∀ x, p x → Reach D a x
  r2 : ∀ x ∈ todo, Reach D a x
  s1 : ∀ y ∈ D a, p y ∨ y ∈ todo
  s2 : ∀ x, p x → ∀ y ∈ D x, p y ∨ y ∈ todo
end
end Go.Fm
set_option linter.unusedVariables false
set_option linter.unusedSimpArgs false
namespace Go.Fm
open Go
def ScopeL.mid (s : ScopeL) : Prop := s.defs.length ≤ 1048576 ∧ s.rules.length ≤ 1048576 ∧ ∀ r ∈ s.rules, r.guard.length ≤ 1048576 ∧ r.value.length ≤ 1048576
end Go.Fm
set_option linter.unusedVariables false
set_option linter.unusedSimpArgs false
namespace Go.Fm
open Go
def validD (f t : Int) : Prop := 0 ≤ f ∧ f ≤ t ∧ t ≤ 109573
instance (f t : Int) : Decidable (validD f t) := by unfold validD; infer_instance
def inT (x : Int) (t : TyL) (en : List EnumL) : Prop := loT t en ≤ x ∧ x ≤ hiT t en
instance (x : Int) (t : TyL) (en : List EnumL) : Decidable (inT x t en) := by unfold inT; infer_instance
def rowBad (r : RowL) (k v : TyL) (en : List EnumL) : Prop := ¬ validD r.f r.t ∨ r.f = r.t ∨ r.hi ≤ r.lo ∨ ¬ inT r.lo k en ∨ ¬ inT (IntKind.i64.wrap (r.hi - 1)) k en ∨ ¬ inT r.n v en
instance (r : RowL) (k v : TyL) (en : List EnumL) : Decidable (rowBad r k v en) := by unfold rowBad; infer_instance
def meetP (a b : RowL) : Prop := validD a.f a.t ∧ validD b.f b.t ∧ max a.f b.f < min a.t b.t ∧ max a.lo b.lo < min a.hi b.hi
instance (a b : RowL) : Decidable (meetP a b) := by unfold meetP; infer_instance
end Go.Fm
set_option linter.unusedVariables false
set_option linter.unusedSimpArgs false
namespace Go.Fm
open Go
abbrev ErrL := Int × Int × Int × Int
def errQ (o : Option ErrL) : ErrL := o.getD (0, 0, 0, 0)
@[simp] theorem errQ_none : errQ none = (0, 0, 0, 0) := rfl
@[simp] theorem errQ_some (e : ErrL) : errQ (some e) = e := rfl
abbrev errF (o : Option ErrL) : FV := FV.agg [FV.int IntKind.i64 (errQ o).1, FV.int IntKind.i64 (errQ o).2.1, FV.int IntKind.i64 (errQ o).2.2.1, FV.int IntKind.i64 (errQ o).2.2.2]
@[go_sem] theorem errF_eq (o : Option ErrL) : errF o = FV.agg [FV.int IntKind.i64 (errQ o).1, FV.int IntKind.i64 (errQ o).2.1, FV.int IntKind.i64 (errQ o).2.2.1, FV.int IntKind.i64 (errQ o).2.2.2] := rfl
section
variable (idB : List UInt8 → Bool)
variable {idB}
end
structure LawL.sane (l : LawL) : Prop where
  e1 : l.enums.length < 2 ^ 40
  e2 : ∀ e ∈ l.enums, e.name.length < 2 ^ 60 ∧ e.members.length < 2 ^ 40 ∧ ∀ m ∈ e.members, m.length < 2 ^ 60
  t1 : l.tables.length < 2 ^ 40
  t2 : ∀ t ∈ l.tables, t.name.length < 2 ^ 60 ∧ t.rows.length < 2 ^ 40
  s1 : l.scopes.length < 2 ^ 40
  s2 : ∀ x ∈ l.scopes, x.name.length < 2 ^ 60 ∧ x.inputs.length < 2 ^ 30 ∧ x.mid ∧ (∀ f ∈ x.inputs, f.name.length < 2 ^ 60) ∧ (∀ f ∈ x.defs, f.name.length < 2 ^ 60) ∧ ∀ r ∈ x.rules, r.name.length < 2 ^ 60 ∧ r.src.length < 2 ^ 60 ∧ (∀ n ∈ r.guard, I64 n.n) ∧ ∀ n ∈ r.value, I64 n.n
end Go.Fm
set_option linter.unusedVariables false
set_option linter.unusedSimpArgs false
namespace Go.Fx.Tryz
open Go Go.Fm Go.Proofs
theorem EqS_call {a b : List (List UInt8)} {u v : Bool} (hl : a.length < 2 ^ 60) : FCall Tryz.prog n_slices_Equal_string_string [.sl u (strs a), .sl v (strs b)] (· = .bool (bp (a = b))) := by
  refine FCall.walk u_slices_Equal_string_string k_slices_Equal_string_string rfl ?_
  unfold c_slices_Equal_string_string
  simp only [go_sem, simprocAttr]
  refine ⟨fun h => fbp_false fun e => h (by rw [e]), fun h => ?_⟩
  refine FWT.count [] a.length (fun i => [(13, .int .i64 i)]) (fun i => a.take i = b.take i) rfl (by simp) ?_
  intro i hi hg
  by_cases h2 : i < a.length
  · have h3 : i < b.length := by omega
    have hx := strs_get h2
    have hy := strs_get h3
    simp only [go_sem, simprocAttr, ltT h2, ltT h3, Int.toNat_natCast, hx, hy]
    refine ⟨fun e => fbp_false fun hh => ?_, fun e => ⟨by rw [w64s (by omega)], take_eq_succ h2 h3 hg e, h2⟩⟩
    subst hh; exact e rfl
  simp only [go_sem, simprocAttr, ltF h2]
  exact fbp_true (take_all_eq (by omega) (by omega) hg)
theorem EqR_call {a b : List RowL} {u v : Bool} (hl : a.length < 2 ^ 60) : FCall Tryz.prog n_slices_Equal_api_Row_api_Row [.sl u (rowsV a), .sl v (rowsV b)] (· = .bool (bp (a = b))) := by
  refine FCall.walk u_slices_Equal_api_Row_api_Row k_slices_Equal_api_Row_api_Row rfl ?_
  unfold c_slices_Equal_api_Row_api_Row
  simp only [go_sem, simprocAttr]
  refine ⟨fun h => fbp_false fun e => h (by rw [e]), fun h => ?_⟩
  refine FWT.count [] a.length (fun i => [(13, .int .i64 i)]) (fun i => a.take i = b.take i) rfl (by simp) ?_
  intro i hi hg
  by_cases h2 : i < a.length
  · have h3 : i < b.length := by omega
    have hx := rowsV_get h2
    have hy := rowsV_get h3
    simp only [go_sem, simprocAttr, ltT h2, ltT h3, Int.toNat_natCast, hx, hy, RowL.row]
    simp only [RowL.eqB]
    exact cmp_round h2 h3 hg (by rw [w64s (by omega)])
  simp only [go_sem, simprocAttr, ltF h2]
  exact fbp_true (take_all_eq (by omega) (by omega) hg)
theorem EqF_call {a b : List FieldL} {u v : Bool} (hl : a.length < 2 ^ 60) : FCall Tryz.prog n_slices_Equal_api_Field_api_Field [.sl u (fieldsV a), .sl v (fieldsV b)] (· = .bool (bp (a = b))) := by
  refine FCall.walk u_slices_Equal_api_Field_api_Field k_slices_Equal_api_Field_api_Field rfl ?_
  unfold c_slices_Equal_api_Field_api_Field
  simp only [go_sem, simprocAttr]
  refine ⟨fun h => fbp_false fun e => h (by rw [e]), fun h => ?_⟩
  refine FWT.count [] a.length (fun i => [(13, .int .i64 i)]) (fun i => a.take i = b.take i) rfl (by simp) ?_
  intro i hi hg
  by_cases h2 : i < a.length
  · have h3 : i < b.length := by omega
    have hx := fieldsV_get h2
    have hy := fieldsV_get h3
    simp only [go_sem, simprocAttr, ltT h2, ltT h3, Int.toNat_natCast, hx, hy, FieldL.row]
    simp only [FieldL.eqB]
    exact cmp_round h2 h3 hg (by rw [w64s (by omega)])
  simp only [go_sem, simprocAttr, ltF h2]
  exact fbp_true (take_all_eq (by omega) (by omega) hg)
theorem EqN_call {a b : List NodeL} {u v : Bool} (hl : a.length < 2 ^ 60) : FCall Tryz.prog n_slices_Equal_api_Node_api_Node [.sl u (nodesV a), .sl v (nodesV b)] (· = .bool (bp (a = b))) := by
  refine FCall.walk u_slices_Equal_api_Node_api_Node k_slices_Equal_api_Node_api_Node rfl ?_
  unfold c_slices_Equal_api_Node_api_Node
  simp only [go_sem, simprocAttr]
  refine ⟨fun h => fbp_false fun e => h (by rw [e]), fun h => ?_⟩
  refine FWT.count [] a.length (fun i => [(13, .int .i64 i)]) (fun i => a.take i = b.take i) rfl (by simp) ?_
  intro i hi hg
  by_cases h2 : i < a.length
  · have h3 : i < b.length := by omega
    have hx := nodesV_get h2
    have hy := nodesV_get h3
    simp only [go_sem, simprocAttr, ltT h2, ltT h3, Int.toNat_natCast, hx, hy, NodeL.row]
    simp only [NodeL.eqB]
    exact cmp_round h2 h3 hg (by rw [w64s (by omega)])
  simp only [go_sem, simprocAttr, ltF h2]
  exact fbp_true (take_all_eq (by omega) (by omega) hg)
theorem sameEnum_call {x y : EnumL} (hm : x.members.length < 2 ^ 60) : FCall Tryz.prog n_law_sameEnum [.agg x.row, .agg y.row] (· = .bool (bp (x.core = y.core))) := by
  refine FCall.walk u_law_sameEnum k_law_sameEnum rfl ?_
  unfold c_law_sameEnum
  simp only [go_sem, simprocAttr, EnumL.row]
  refine ⟨fun e => ?_, fun e => fbp_false fun h => e (congrArg Prod.fst h)⟩
  refine FCallT.of (EqS_call (a := x.members) (b := y.members) hm) ?_
  rintro _ rfl
  simp only [go_sem, simprocAttr]
  exact congrArg FV.bool (bp_congr (by simp [EnumL.core, e]))
theorem isFn_sameEnum : isFn Tryz.prog n_law_sameEnum = true := by kernel_rfl
theorem EnumF_call {a b : List EnumL} {u v : Bool} (hl : a.length < 2 ^ 60) (hm : ∀ x ∈ a, x.members.length < 2 ^ 60) : FCall Tryz.prog n_slices_EqualFunc_api_Enum_api_Enum_api_Enum_api_Enum [.sl u (enumsV a), .sl v (enumsV b), .fn n_law_sameEnum []] (· = .bool (bp (a.map EnumL.core = b.map EnumL.core))) := by
  refine FCall.walk u_slices_EqualFunc_api_Enum_api_Enum_api_Enum_api_Enum k_slices_EqualFunc_api_Enum_api_Enum_api_Enum_api_Enum rfl ?_
  unfold c_slices_EqualFunc_api_Enum_api_Enum_api_Enum_api_Enum
  simp only [go_sem, simprocAttr]
  refine ⟨fun h => fbp_false fun e => h (by have := congrArg List.length e; rw [List.length_map, List.length_map] at this; rw [this]), fun h => ?_⟩
  refine FWT.count [] a.length (fun i => [(17, .int .i64 i)]) (fun i => (a.take i).map EnumL.core = (b.take i).map EnumL.core) rfl (by simp) ?_
  intro i hi hg
  by_cases h2 : i < a.length
  · have h3 : i < b.length := by omega
    have hx := Go.Fm.enumsV_get h2
    have hy := Go.Fm.enumsV_get h3
    simp only [go_sem, simprocAttr, ltT h2, ltT h3, Int.toNat_natCast, hx, hy, EnumL.row]
    refine ⟨isFn_sameEnum, ?_⟩
    refine FCallT.of (sameEnum_call (x := a[i]) (y := b[i]) (hm _ (List.getElem_mem h2))) ?_
    rintro _ rfl
    simp only [go_sem, simprocAttr]
    exact cmp_roundM h2 h3 hg (by rw [w64s (by omega)])
  simp only [go_sem, simprocAttr, ltF h2]
  rw [List.take_of_length_le (by omega), List.take_of_length_le (by omega)] at hg
  exact fbp_true hg
theorem sameTable_call {x y : TableL} (hm : x.rows.length < 2 ^ 60) : FCall Tryz.prog n_law_sameTable [.agg x.row, .agg y.row] (· = .bool (bp (x.core = y.core))) := by
  refine FCall.walk u_law_sameTable k_law_sameTable rfl ?_
  unfold c_law_sameTable
  simp only [go_sem, simprocAttr, TableL.row]
  refine ⟨fun e => ?_, fun e => fbp_false fun h => e (congrArg Prod.fst h)⟩
  refine ⟨fun e2 => ?_, fun e2 => fbp_false fun h => by simp only [TableL.core, Prod.mk.injEq, TyL.mk.injEq] at h; simp [h] at e2⟩
  refine ⟨fun e3 => ?_, fun e3 => fbp_false fun h => by simp only [TableL.core, Prod.mk.injEq, TyL.mk.injEq] at h; simp [h] at e3⟩
  refine FCallT.of (EqR_call (a := x.rows) (b := y.rows) hm) ?_
  rintro _ rfl
  simp only [go_sem, simprocAttr]
  simp only [Bool.and_eq_true, decide_eq_true_eq] at e2 e3
  exact congrArg FV.bool (bp_congr (by simp [TableL.core, e, e2, e3]))
theorem isFn_sameTable : isFn Tryz.prog n_law_sameTable = true := by kernel_rfl
theorem TableF_call {a b : List TableL} {u v : Bool} (hl : a.length < 2 ^ 60) (hm : ∀ x ∈ a, x.rows.length < 2 ^ 60) : FCall Tryz.prog n_slices_EqualFunc_api_Table_api_Table_api_Table_api_Table [.sl u (tablesV a), .sl v (tablesV b), .fn n_law_sameTable []] (· = .bool (bp (a.map TableL.core = b.map TableL.core))) := by
  refine FCall.walk u_slices_EqualFunc_api_Table_api_Table_api_Table_api_Table k_slices_EqualFunc_api_Table_api_Table_api_Table_api_Table rfl ?_
  unfold c_slices_EqualFunc_api_Table_api_Table_api_Table_api_Table
  simp only [go_sem, simprocAttr]
  refine ⟨fun h => fbp_false fun e => h (by have := congrArg List.length e; rw [List.length_map, List.length_map] at this; rw [this]), fun h => ?_⟩
  refine FWT.count [] a.length (fun i => [(17, .int .i64 i)]) (fun i => (a.take i).map TableL.core = (b.take i).map TableL.core) rfl (by simp) ?_
  intro i hi hg
  by_cases h2 : i < a.length
  · have h3 : i < b.length := by omega
    have hx := tablesV_get h2
    have hy := tablesV_get h3
    simp only [go_sem, simprocAttr, ltT h2, ltT h3, Int.toNat_natCast, hx, hy, TableL.row]
    refine ⟨isFn_sameTable, ?_⟩
    refine FCallT.of (sameTable_call (x := a[i]) (y := b[i]) (hm _ (List.getElem_mem h2))) ?_
    rintro _ rfl
    simp only [go_sem, simprocAttr]
    exact cmp_roundM h2 h3 hg (by rw [w64s (by omega)])
  simp only [go_sem, simprocAttr, ltF h2]
  rw [List.take_of_length_le (by omega), List.take_of_length_le (by omega)] at hg
  exact fbp_true hg
theorem sameRule_call {x y : RuleL} (hm : x.guard.length < 2 ^ 60 ∧ x.value.length < 2 ^ 60) : FCall Tryz.prog n_law_sameRule [.agg x.row, .agg y.row] (· = .bool (bp (x.core = y.core))) := by
  refine FCall.walk u_law_sameRule k_law_sameRule rfl ?_
  unfold c_law_sameRule
  simp only [go_sem, simprocAttr, RuleL.row]
  refine ⟨fun e1 => ?_, fun e => fbp_false fun h => by simp only [RuleL.core, Prod.mk.injEq] at h; simp [h] at e⟩
  refine ⟨fun e2 => ?_, fun e => fbp_false fun h => by simp only [RuleL.core, Prod.mk.injEq] at h; simp [h] at e⟩
  refine ⟨fun e3 => ?_, fun e => fbp_false fun h => by simp only [RuleL.core, Prod.mk.injEq] at h; simp [h] at e⟩
  refine ⟨fun e4 => ?_, fun e => fbp_false fun h => by simp only [RuleL.core, Prod.mk.injEq] at h; simp [h] at e⟩
  refine ⟨fun e5 => ?_, fun e => fbp_false fun h => by simp only [RuleL.core, Prod.mk.injEq] at h; simp [h] at e⟩
  refine FCallT.of (EqN_call (a := x.guard) (b := y.guard) hm.1) ?_
  rintro _ rfl
  simp only [go_sem, simprocAttr]
  refine ⟨fun e7 => ?_, fun e => fbp_false fun h => by simp only [RuleL.core, Prod.mk.injEq] at h; rw [bp_true h.2.2.2.2.2.2.1] at e; cases e⟩
  refine FCallT.of (EqN_call (a := x.value) (b := y.value) hm.2) ?_
  rintro _ rfl
  simp only [go_sem, simprocAttr]
  refine ⟨fun e8 => ?_, fun e => fbp_false fun h => by simp only [RuleL.core, Prod.mk.injEq] at h; rw [bp_true h.2.2.2.2.2.2.2.1] at e; cases e⟩
  simp only [Bool.and_eq_true, decide_eq_true_eq] at e5
  refine congrArg FV.bool ?_
  rw [Bool.eq_iff_iff, decide_eq_true_eq, bp_iff]
  simp [RuleL.core, e1, e2, e3, e4, e5, bp_iff.1 e7, bp_iff.1 e8]
theorem isFn_sameRule : isFn Tryz.prog n_law_sameRule = true := by kernel_rfl
theorem RuleF_call {a b : List RuleL} {u v : Bool} (hl : a.length < 2 ^ 60) (hm : ∀ x ∈ a, x.guard.length < 2 ^ 60 ∧ x.value.length < 2 ^ 60) : FCall Tryz.prog n_slices_EqualFunc_api_Rule_api_Rule_api_Rule_api_Rule [.sl u (rulesV a), .sl v (rulesV b), .fn n_law_sameRule []] (· = .bool (bp (a.map RuleL.core = b.map RuleL.core))) := by
  refine FCall.walk u_slices_EqualFunc_api_Rule_api_Rule_api_Rule_api_Rule k_slices_EqualFunc_api_Rule_api_Rule_api_Rule_api_Rule rfl ?_
  unfold c_slices_EqualFunc_api_Rule_api_Rule_api_Rule_api_Rule
  simp only [go_sem, simprocAttr]
  refine ⟨fun h => fbp_false fun e => h (by have := congrArg List.length e; rw [List.length_map, List.length_map] at this; rw [this]), fun h => ?_⟩
  refine FWT.count [] a.length (fun i => [(17, .int .i64 i)]) (fun i => (a.take i).map RuleL.core = (b.take i).map RuleL.core) rfl (by simp) ?_
  intro i hi hg
  by_cases h2 : i < a.length
  · have h3 : i < b.length := by omega
    have hx := rulesV_get h2
    have hy := rulesV_get h3
    simp only [go_sem, simprocAttr, ltT h2, ltT h3, Int.toNat_natCast, hx, hy, RuleL.row]
    refine ⟨isFn_sameRule, ?_⟩
    refine FCallT.of (sameRule_call (x := a[i]) (y := b[i]) (hm _ (List.getElem_mem h2))) ?_
    rintro _ rfl
    simp only [go_sem, simprocAttr]
    exact cmp_roundM h2 h3 hg (by rw [w64s (by omega)])
  simp only [go_sem, simprocAttr, ltF h2]
  rw [List.take_of_length_le (by omega), List.take_of_length_le (by omega)] at hg
  exact fbp_true hg
theorem sameScope_call {x y : ScopeL} (hm : ScopeL.fit x) : FCall Tryz.prog n_law_sameScope [.agg x.row, .agg y.row] (· = .bool (bp (x.core = y.core))) := by
  refine FCall.walk u_law_sameScope k_law_sameScope rfl ?_
  unfold c_law_sameScope
  simp only [go_sem, simprocAttr, ScopeL.row]
  refine ⟨fun e1 => ?_, fun e => fbp_false fun h => by simp only [ScopeL.core, Prod.mk.injEq] at h; simp [h] at e⟩
  refine ⟨fun e2 => ?_, fun e => fbp_false fun h => by simp only [ScopeL.core, Prod.mk.injEq] at h; simp [h] at e⟩
  refine FCallT.of (EqF_call (a := x.inputs) (b := y.inputs) hm.1) ?_
  rintro _ rfl
  simp only [go_sem, simprocAttr]
  refine ⟨fun e3 => ?_, fun e => fbp_false fun h => by simp only [ScopeL.core, Prod.mk.injEq] at h; rw [bp_true h.2.2.1] at e; cases e⟩
  refine FCallT.of (EqF_call (a := x.defs) (b := y.defs) hm.2.1) ?_
  rintro _ rfl
  simp only [go_sem, simprocAttr]
  refine ⟨fun e4 => ?_, fun e => fbp_false fun h => by simp only [ScopeL.core, Prod.mk.injEq] at h; rw [bp_true h.2.2.2.1] at e; cases e⟩
  refine FCallT.of (RuleF_call (a := x.rules) (b := y.rules) hm.2.2.1 hm.2.2.2) ?_
  rintro _ rfl
  simp only [go_sem, simprocAttr]
  exact congrArg FV.bool (bp_congr (by simp [ScopeL.core, e1, e2, bp_iff.1 e3, bp_iff.1 e4]))
theorem isFn_sameScope : isFn Tryz.prog n_law_sameScope = true := by kernel_rfl
theorem ScopeF_call {a b : List ScopeL} {u v : Bool} (hl : a.length < 2 ^ 60) (hm : ∀ x ∈ a, ScopeL.fit x) : FCall Tryz.prog n_slices_EqualFunc_api_Scope_api_Scope_api_Scope_api_Scope [.sl u (scopesV a), .sl v (scopesV b), .fn n_law_sameScope []] (· = .bool (bp (a.map ScopeL.core = b.map ScopeL.core))) := by
  refine FCall.walk u_slices_EqualFunc_api_Scope_api_Scope_api_Scope_api_Scope k_slices_EqualFunc_api_Scope_api_Scope_api_Scope_api_Scope rfl ?_
  unfold c_slices_EqualFunc_api_Scope_api_Scope_api_Scope_api_Scope
  simp only [go_sem, simprocAttr]
  refine ⟨fun h => fbp_false fun e => h (by have := congrArg List.length e; rw [List.length_map, List.length_map] at this; rw [this]), fun h => ?_⟩
  refine FWT.count [] a.length (fun i => [(17, .int .i64 i)]) (fun i => (a.take i).map ScopeL.core = (b.take i).map ScopeL.core) rfl (by simp) ?_
  intro i hi hg
  by_cases h2 : i < a.length
  · have h3 : i < b.length := by omega
    have hx := scopesV_get h2
    have hy := scopesV_get h3
    simp only [go_sem, simprocAttr, ltT h2, ltT h3, Int.toNat_natCast, hx, hy, ScopeL.row]
    refine ⟨isFn_sameScope, ?_⟩
    refine FCallT.of (sameScope_call (x := a[i]) (y := b[i]) (hm _ (List.getElem_mem h2))) ?_
    rintro _ rfl
    simp only [go_sem, simprocAttr]
    exact cmp_roundM h2 h3 hg (by rw [w64s (by omega)])
  simp only [go_sem, simprocAttr, ltF h2]
  rw [List.take_of_length_le (by omega), List.take_of_length_le (by omega)] at hg
  exact fbp_true hg
theorem Equal_call {x y : LawL} (hm : LawL.fit x) : FCall Tryz.prog n_law_Equal [.agg x.row, .agg y.row] (· = .bool (bp (x.core = y.core))) := by
  refine FCall.walk u_law_Equal k_law_Equal rfl ?_
  unfold c_law_Equal
  simp only [go_sem, simprocAttr, LawL.row]
  refine FCallT.of (EnumF_call (a := x.enums) (b := y.enums) hm.1 hm.2.1) ?_
  rintro _ rfl
  simp only [go_sem, simprocAttr]
  refine ⟨fun e3 => ?_, fun e => fbp_false fun h => by simp only [LawL.core, Prod.mk.injEq] at h; rw [bp_true h.1] at e; cases e⟩
  refine FCallT.of (TableF_call (a := x.tables) (b := y.tables) hm.2.2.1 hm.2.2.2.1) ?_
  rintro _ rfl
  simp only [go_sem, simprocAttr]
  refine ⟨fun e4 => ?_, fun e => fbp_false fun h => by simp only [LawL.core, Prod.mk.injEq] at h; rw [bp_true h.2.1] at e; cases e⟩
  refine FCallT.of (ScopeF_call (a := x.scopes) (b := y.scopes) hm.2.2.2.2.1 hm.2.2.2.2.2) ?_
  rintro _ rfl
  simp only [go_sem, simprocAttr]
  exact congrArg FV.bool (bp_congr (by simp [LawL.core, bp_iff.1 e3, bp_iff.1 e4]))
theorem refEqual_call {x y : LawL} (hm : LawL.fit x) : FCall Tryz.prog n_ref17_Equal [.agg x.row, .agg y.row] (· = .bool (bp (x.core = y.core))) := by
  refine FCall.walk u_ref17_Equal k_ref17_Equal rfl ?_
  unfold c_ref17_Equal
  simp only [go_sem, simprocAttr, LawL.row]
  refine FCallT.of (Law_call (x := x) (y := y) hm) ?_
  rintro _ rfl
  simp only [go_sem, simprocAttr]
end Go.Fx.Tryz
set_option linter.unusedVariables false
set_option linter.unusedSimpArgs false
namespace Go.Fx.Tryz
open Go Go.Fm Go.Proofs
def rulesO (l : List RuleL) : List (List FV) := l.map fun r => [.str r.name, .int .i64 r.d, .int .i64 r.p, .int .i64 r.pr, .int .i64 r.f, .int .i64 r.t, .arr (nodesV r.guard), .arr (nodesV r.value), .str r.src]
def ScopeL.own (x : ScopeL) : List FV := [.str x.name, .int .i64 x.ms, .arr (fieldsV x.inputs), .arr (fieldsV x.defs), .arr (rulesO x.rules)]
@[go_sem] theorem rulesO_length (l : List RuleL) : (rulesO l).length = l.length := by simp [rulesO]
@[go_sem] theorem rowsOk_rulesO (l : List RuleL) : rowsOk 9 (rulesO l) = true := rowsOk_map (fun _ => rfl) l
theorem rulesO_snoc (l : List RuleL) (r : RuleL) : rulesO (l ++ [r]) = rulesO l ++ [[.str r.name, .int .i64 r.d, .int .i64 r.p, .int .i64 r.pr, .int .i64 r.f, .int .i64 r.t, .arr (nodesV r.guard), .arr (nodesV r.value), .str r.src]] := by simp [rulesO]
def accV (r : List (List FV)) : FV := if r.isEmpty then .sl true [] else .arr r
theorem accV_cases (r : List (List FV)) : (accV r = .sl true [] ∧ r = []) ∨ accV r = .arr r := by
  cases r with
  | nil => exact .inl ⟨rfl, rfl⟩
  | cons a l => exact .inr rfl
theorem accV_snoc (r : List (List FV)) (x : List FV) : accV (r ++ [x]) = .arr (r ++ [x]) := by cases r <;> rfl
def scopesO (l : List ScopeL) : List (List FV) := l.map ScopeL.own
@[go_sem] theorem scopesO_length (l : List ScopeL) : (scopesO l).length = l.length := by simp [scopesO]
@[go_sem] theorem rowsOk_scopesO (l : List ScopeL) : rowsOk 5 (scopesO l) = true := rowsOk_map (fun _ => rfl) l
theorem scopesO_snoc (l : List ScopeL) (x : ScopeL) : scopesO (l ++ [x]) = scopesO l ++ [ScopeL.own x] := by simp [scopesO]
theorem Clone_call {l : LawL} (hl : l.sane) : FCall Tryz.prog n_law_Clone [.agg l.row] (· = .agg [.arr (enumsO l.enums), .arr (tablesO l.tables), accV (scopesO l.scopes)]) := by
  have b3 := hl.s1
  have he := fun u => enums_call (l := l.enums) (u := u) hl.e1 (fun x m => (hl.e2 x m).2.1)
  have ht := fun u => tables_call (l := l.tables) (u := u) hl.t1 (fun x m => (hl.t2 x m).2)
  refine FCall.walk u_law_Clone k_law_Clone rfl ?_
  unfold c_law_Clone
  simp only [go_sem, simprocAttr, LawL.row]
  repeat' first
    | apply And.intro <;> intro h
    | ((first
      | (refine FCallT.of (he _) ?_; rintro _ rfl)
      | refine detCall_of _ (he _) ?_
      | refine detCallB_of _ (he _) rfl ?_
      | (refine FCallT.of (ht _) ?_; rintro _ rfl)
      | refine detCall_of _ (ht _) ?_
      | refine detCallB_of _ (ht _) rfl ?_); simp only [go_sem, simprocAttr, LawL.row])
  refine FWT.count [] l.scopes.length (fun i => [(3, .box [.arr (enumsO l.enums), .arr (tablesO l.tables), accV (scopesO (l.scopes.take i))]), (19, .int .i64 i)]) (fun _ => True) rfl trivial ?_
  intro i hi _
  by_cases h : i < l.scopes.length
  · have hx := scopesV_get h
    have hs := List.take_succ_eq_append_getElem h
    obtain ⟨-, s1, s2, -⟩ := hl.s2 _ (List.getElem_mem h)
    rw [hs, scopesO_snoc, accV_snoc]
    have hlen : (l.scopes.take i).length ≤ i := by rw [List.length_take]; omega
    generalize l.scopes[i] = x at *
    have hd := s2.1
    have hr := s2.2.1
    simp only [go_sem, simprocAttr, ltT h, Int.toNat_natCast, hx, ScopeL.row]
    repeat' first
      | apply And.intro <;> intro h
      | ((first
        | (refine FCallT.of (cloneField_call (xs := x.inputs) (by omega)) ?_; rintro _ rfl)
        | refine detCall_of _ (cloneField_call (xs := x.inputs) (by omega)) ?_
        | refine detCallB_of _ (cloneField_call (xs := x.inputs) (by omega)) rfl ?_
        | (refine FCallT.of (cloneField_call (xs := x.defs) (by omega)) ?_; rintro _ rfl)
        | refine detCall_of _ (cloneField_call (xs := x.defs) (by omega)) ?_
        | refine detCallB_of _ (cloneField_call (xs := x.defs) (by omega)) rfl ?_); simp only [go_sem, simprocAttr])
    refine FWT.count [] x.rules.length (fun j => [(6, .arr (rulesO (x.rules.take j))), (34, .int .i64 j)]) (fun _ => True) rfl trivial ?_
    intro j hj _
    by_cases h2 : j < x.rules.length
    · have hy := rulesV_get h2
      have hrm := s2.2.2 _ (List.getElem_mem h2)
      have hs2 := List.take_succ_eq_append_getElem h2
      simp only [go_sem, simprocAttr, ltT h2, Int.toNat_natCast, hy, RuleL.row]
      repeat' first
        | apply And.intro <;> intro h
        | ((first
          | (refine FCallT.of (cloneNode_call (xs := x.rules[j].guard) (by omega)) ?_; rintro _ rfl)
          | refine detCall_of _ (cloneNode_call (xs := x.rules[j].guard) (by omega)) ?_
          | refine detCallB_of _ (cloneNode_call (xs := x.rules[j].guard) (by omega)) rfl ?_
          | (refine FCallT.of (cloneNode_call (xs := x.rules[j].value) (by omega)) ?_; rintro _ rfl)
          | refine detCall_of _ (cloneNode_call (xs := x.rules[j].value) (by omega)) ?_
          | refine detCallB_of _ (cloneNode_call (xs := x.rules[j].value) (by omega)) rfl ?_); simp only [go_sem, simprocAttr])
      exact ⟨by rw [List.length_take]; omega, by rw [w64s (by omega), hs2, rulesO_snoc], h2⟩
    obtain rfl : j = x.rules.length := by omega
    rcases accV_cases (scopesO (l.scopes.take i)) with ⟨e, e2⟩ | e
    · rw [e, e2]
      simp only [go_sem, simprocAttr, ltF h2]
      exact ⟨by rw [w64s (by omega), List.take_length]; rfl, h⟩
    · rw [e]
      simp only [go_sem, simprocAttr, ltF h2]
      exact ⟨by omega, by rw [w64s (by omega), List.take_length]; rfl, h⟩
  obtain rfl : i = l.scopes.length := by omega
  simp only [go_sem, simprocAttr, ltF h]
  rw [List.take_length]
  refine ⟨?_, rfl⟩
  rcases accV_cases (scopesO l.scopes) with ⟨g, -⟩ | g <;> rw [g] <;> rfl
def ruleB (r : RuleL) : RuleL := { r with gfull := false, vfull := false }
def scopeB (x : ScopeL) : ScopeL := ⟨x.name, x.ms, false, x.inputs, false, x.defs, false, x.rules.map ruleB⟩
def cloneB (l : LawL) (u : Bool) : LawL := ⟨false, l.enums.map EnumL.bare, false, l.tables.map TableL.bare, u, l.scopes.map scopeB⟩
def cloneK (l : LawL) (k : Nat) (x : ScopeL) : LawL := ⟨false, l.enums.map EnumL.bare, false, l.tables.map TableL.bare, false, (l.scopes.map scopeB).set k x⟩
@[go_sem] theorem sealedLL_set (l : List (List FV)) (k : Nat) (r : List FV) : sealedLL (l.set k r) = (sealedLL l).set k (sealedL r) := by
  rw [sealedLL_eq, sealedLL_eq, sealedL_eq, List.map_set]
@[go_sem] theorem sealed_rulesO (l : List RuleL) : sealedLL (rulesO l) = rulesV (l.map ruleB) := by
  unfold rulesO rulesV
  rw [List.map_map]
  exact sealedLL_map (fun i => by simp only [Function.comp, ruleB, RuleL.row, sealedL, FV.sealed, sealed_nodesV]) l
theorem sealed_own (x : ScopeL) : sealedL (ScopeL.own x) = (scopeB x).row := by
  simp only [ScopeL.own, scopeB, ScopeL.row, sealedL, FV.sealed, sealed_fieldsV, sealed_rulesO]
@[go_sem] theorem sealed_scopesO (l : List ScopeL) : sealedLL (scopesO l) = scopesV (l.map scopeB) := by
  unfold scopesO scopesV
  rw [List.map_map]
  exact sealedLL_map (fun x => sealed_own x) l
theorem core_bareE (l : List EnumL) : (l.map EnumL.bare).map EnumL.core = l.map EnumL.core := by rw [List.map_map]; rfl
theorem core_bareT (l : List TableL) : (l.map TableL.bare).map TableL.core = l.map TableL.core := by rw [List.map_map]; rfl
theorem core_ruleB (l : List RuleL) : (l.map ruleB).map RuleL.core = l.map RuleL.core := by rw [List.map_map]; rfl
theorem core_scopeB (x : ScopeL) : (scopeB x).core = x.core := by
  simp only [ScopeL.core, scopeB, core_ruleB]
theorem core_scopes (l : List ScopeL) : (l.map scopeB).map ScopeL.core = l.map ScopeL.core := by
  rw [List.map_map]; exact List.map_congr_left fun x _ => core_scopeB x
theorem core_cloneB (l : LawL) (u : Bool) : (cloneB l u).core = l.core := by
  simp only [LawL.core, cloneB, core_bareE, core_bareT, core_scopes]
theorem core_cloneK {l : LawL} {k : Nat} {x : ScopeL} (hk : k < l.scopes.length) (hn : x.name ≠ l.scopes[k].name) : (cloneK l k x).core ≠ l.core := by
  intro h
  simp only [LawL.core, cloneK, Prod.mk.injEq] at h
  have h2 := congrArg (fun q => (q[k]?).map Prod.fst) h.2.2
  have e1 : ((l.scopes.map scopeB).set k x)[k]? = some x := List.getElem?_set_self (by rw [List.length_map]; exact hk)
  simp only [List.getElem?_map, e1, List.getElem?_eq_getElem hk, Option.map_some, ScopeL.core, Option.some.injEq] at h2
  exact hn h2
theorem fit_scopeB {x : ScopeL} (h : ScopeL.fit x) : ScopeL.fit (scopeB x) := by
  refine ⟨h.1, h.2.1, by simp only [scopeB, List.length_map]; exact h.2.2.1, fun r m => ?_⟩
  obtain ⟨q, hq, rfl⟩ := List.mem_map.1 m
  exact h.2.2.2 q hq
theorem fit_cloneB {l : LawL} {u : Bool} (h : LawL.fit l) : LawL.fit (cloneB l u) := by
  obtain ⟨h1, h2, h3, h4, h5, h6⟩ := h
  refine ⟨by simpa [cloneB] using h1, fun x m => ?_, by simpa [cloneB] using h3, fun x m => ?_, by simpa [cloneB] using h5, fun x m => ?_⟩
  · obtain ⟨q, hq, rfl⟩ := List.mem_map.1 m; exact h2 q hq
  · obtain ⟨q, hq, rfl⟩ := List.mem_map.1 m; exact h4 q hq
  · obtain ⟨q, hq, rfl⟩ := List.mem_map.1 m; exact fit_scopeB (h6 q hq)
theorem fit_cloneK {l : LawL} {k : Nat} {x : ScopeL} (h : LawL.fit l) (hx : ScopeL.fit x) : LawL.fit (cloneK l k x) := by
  obtain ⟨h1, h2, h3, h4, h5, h6⟩ := fit_cloneB (u := false) h
  refine ⟨h1, h2, h3, h4, by simpa [cloneK, cloneB] using h5, fun y m => ?_⟩
  rcases List.mem_or_eq_of_mem_set m with m | rfl
  · exact h6 y m
  · exact hx
theorem rot_index (p : Int) {n : Nat} (hn : 0 < n) (h4 : n < 2 ^ 40) : ∃ k : Nat, k < n ∧ (IntKind.i64.wrap (p.tmod n + n)).tmod n = k := by
  have h1 := Int.tmod_lt_of_pos p (show (0 : Int) < n by omega)
  have h2 : -(n : Int) < p.tmod n := by
    have := Int.tmod_lt_of_pos (-p) (show (0 : Int) < n by omega)
    rw [Int.neg_tmod] at this; omega
  rw [w64 (by unfold I64; omega)]
  have h3 := Int.tmod_lt_of_pos (p.tmod n + n) (show (0 : Int) < n by omega)
  have h4 := Int.tmod_nonneg (a := p.tmod n + n) n (by omega)
  exact ⟨((p.tmod n + n).tmod n).toNat, by omega, by omega⟩
end Go.Fx.Tryz
set_option linter.unusedVariables false
set_option linter.unusedSimpArgs false
namespace Go.Fx.Tryz
open Go Go.Fm Go.Proofs
theorem scopesV_set (l : List ScopeL) (k : Nat) (x : ScopeL) : scopesV (l.set k x) = (scopesV l).set k x.row := by simp [scopesV, List.map_set]
theorem rulesV_set (l : List RuleL) (k : Nat) (x : RuleL) : rulesV (l.set k x) = (rulesV l).set k x.row := by simp [rulesV, List.map_set]
theorem nodesV_set (l : List NodeL) (k : Nat) (x : NodeL) : nodesV (l.set k x) = (nodesV l).set k x.row := by simp [nodesV, List.map_set]
theorem cloneK_row (l : LawL) (k : Nat) (x : ScopeL) : (cloneK l k x).row = [.sl false (enumsV (l.enums.map EnumL.bare)), .sl false (tablesV (l.tables.map TableL.bare)), .sl false ((scopesV (l.scopes.map scopeB)).set k x.row)] := by
  unfold cloneK LawL.row; rw [scopesV_set]
theorem law_clone {a b : LawL} {p : Int} (hra : ∀ t ∈ a.tables, t.rows.length < 2 ^ 60) (hua : ∀ s ∈ a.scopes, s.rules.length < 2 ^ 60) (hrb : ∀ t ∈ b.tables, t.rows.length < 2 ^ 60) (hub : ∀ s ∈ b.scopes, s.rules.length < 2 ^ 60) (hl : a.sane) (hf : LawL.fit a)
    (hw : FCall Tryz.prog n_law17_awake [] (· = .bool true)) : FCall Tryz.prog n_law17_LawClone [.agg a.row, .agg b.row, .int .i64 p] (· = .bool true) := by
  have f1 := smallLaw_call (l := a) hra hua
  have f2 := smallLaw_call (l := b) hrb hub
  have hc := Clone_call hl
  have q1 := Equal_call (x := a) (y := b) hf
  have q2 := refEqual_call (x := a) (y := b) hf
  have q3 : ∀ u, FCall Tryz.prog n_law_Equal [.agg (cloneB a u).row, .agg a.row] (· = .bool true) := fun u => by
    have := Equal_call (x := cloneB a u) (y := a) (fit_cloneB hf)
    rwa [bp_true (core_cloneB a u)] at this
  have q4 : ∀ u, FCall Tryz.prog n_ref17_Equal [.agg (cloneB a u).row, .agg a.row] (· = .bool true) := fun u => by
    have := refEqual_call (x := cloneB a u) (y := a) (fit_cloneB hf)
    rwa [bp_true (core_cloneB a u)] at this
  have q5 : ∀ (k : Nat) (h : k < a.scopes.length) (x : ScopeL), x.name ≠ a.scopes[k].name → ScopeL.fit x → FCall Tryz.prog n_law_Equal [.agg (cloneK a k x).row, .agg a.row] (· = .bool false) := fun k h x hn hx => by
    have := Equal_call (x := cloneK a k x) (y := a) (fit_cloneK hf hx)
    rwa [bp_false (core_cloneK h hn)] at this
  by_cases hn : a.scopes = []
  · have e0 : accV (scopesO a.scopes) = .sl true (scopesV (a.scopes.map scopeB)) := by rw [hn]; rfl
    rw [e0] at hc
    refine FCall.walk u_law17_LawClone k_law17_LawClone rfl ?_
    unfold c_law17_LawClone
    simp only [go_sem, simprocAttr, LawL.row]
    repeat' first
      | apply And.intro <;> intro h
      | ((first
        | (refine FCallT.of (f1) ?_; rintro _ rfl)
        | refine detCall_of _ (f1) ?_
        | refine detCallB_of _ (f1) rfl ?_
        | (refine FCallT.of (f2) ?_; rintro _ rfl)
        | refine detCall_of _ (f2) ?_
        | refine detCallB_of _ (f2) rfl ?_
        | (refine FCallT.of (hc) ?_; rintro _ rfl)
        | refine detCall_of _ (hc) ?_
        | refine detCallB_of _ (hc) rfl ?_
        | (refine FCallT.of (q1) ?_; rintro _ rfl)
        | refine detCall_of _ (q1) ?_
        | refine detCallB_of _ (q1) rfl ?_
        | (refine FCallT.of (q2) ?_; rintro _ rfl)
        | refine detCall_of _ (q2) ?_
        | refine detCallB_of _ (q2) rfl ?_
        | (refine FCallT.of (q3 true) ?_; rintro _ rfl)
        | refine detCall_of _ (q3 true) ?_
        | refine detCallB_of _ (q3 true) rfl ?_
        | (refine FCallT.of (q4 true) ?_; rintro _ rfl)
        | refine detCall_of _ (q4 true) ?_
        | refine detCallB_of _ (q4 true) rfl ?_
        | (refine FCallT.of (hw) ?_; rintro _ rfl)
        | refine detCall_of _ (hw) ?_
        | refine detCallB_of _ (hw) rfl ?_); simp only [go_sem, simprocAttr, LawL.row, beq_self_eq_true])
    rename_i h
    exact absurd (by rw [hn]; rfl) h
  · have e0 : accV (scopesO a.scopes) = .arr (scopesO a.scopes) := by
      rcases accV_cases (scopesO a.scopes) with ⟨-, e⟩ | e
      · exact absurd (List.map_eq_nil_iff.1 e) hn
      · exact e
    rw [e0] at hc
    have hn0 : 0 < a.scopes.length := List.length_pos_iff.2 hn
    have hnz : ((a.scopes.length : Int) = 0) = False := eq_false (by omega)
    obtain ⟨k, hk, hk2⟩ := rot_index p hn0 hl.s1
    have hx : (scopesO a.scopes)[k]? = some (ScopeL.own a.scopes[k]) := by simp [scopesO, hk]
    have hset : ∀ r, ((scopesO a.scopes).set k r)[k]? = some r := fun r => List.getElem?_set_self (by rw [scopesO_length]; exact hk)
    refine FCall.walk u_law17_LawClone k_law17_LawClone rfl ?_
    unfold c_law17_LawClone
    simp only [go_sem, simprocAttr, LawL.row]
    repeat' first
      | apply And.intro <;> intro h
      | ((first
        | (refine FCallT.of (f1) ?_; rintro _ rfl)
        | refine detCall_of _ (f1) ?_
        | refine detCallB_of _ (f1) rfl ?_
        | (refine FCallT.of (f2) ?_; rintro _ rfl)
        | refine detCall_of _ (f2) ?_
        | refine detCallB_of _ (f2) rfl ?_
        | (refine FCallT.of (hc) ?_; rintro _ rfl)
        | refine detCall_of _ (hc) ?_
        | refine detCallB_of _ (hc) rfl ?_
        | (refine FCallT.of (q1) ?_; rintro _ rfl)
        | refine detCall_of _ (q1) ?_
        | refine detCallB_of _ (q1) rfl ?_
        | (refine FCallT.of (q2) ?_; rintro _ rfl)
        | refine detCall_of _ (q2) ?_
        | refine detCallB_of _ (q2) rfl ?_
        | (refine FCallT.of (q3 false) ?_; rintro _ rfl)
        | refine detCall_of _ (q3 false) ?_
        | refine detCallB_of _ (q3 false) rfl ?_
        | (refine FCallT.of (q4 false) ?_; rintro _ rfl)
        | refine detCall_of _ (q4 false) ?_
        | refine detCallB_of _ (q4 false) rfl ?_
        | (refine FCallT.of (hw) ?_; rintro _ rfl)
        | refine detCall_of _ (hw) ?_
        | refine detCallB_of _ (hw) rfl ?_); simp only [go_sem, simprocAttr, LawL.row, beq_self_eq_true, hnz, hk2, Int.toNat_natCast, hx, hset, ScopeL.own, List.set_set])
    have hfk := (fit_scopeB (hf.2.2.2.2.2 _ (List.getElem_mem hk)))
    have hsk := hl.s2 _ (List.getElem_mem hk)
    have hnm : a.scopes[k].name ++ [120] ≠ a.scopes[k].name := fun h => by have := congrArg List.length h; simp at this
    have fin : ∀ x : ScopeL, x.name = a.scopes[k].name ++ [120] → ScopeL.fit x → FCall Tryz.prog n_law_Equal [.agg [.sl false (enumsV (a.enums.map EnumL.bare)), .sl false (tablesV (a.tables.map TableL.bare)), .sl false ((scopesV (a.scopes.map scopeB)).set k x.row)], .agg a.row] (· = .bool false) := fun x hx1 hx2 => by
      have := q5 k hk x (by rw [hx1]; exact hnm) hx2
      rwa [cloneK_row] at this
    have hf6 := (hf.2.2.2.2.2 _ (List.getElem_mem hk)).2.2.2
    have fitR : ∀ r : RuleL, (0 < a.scopes[k].rules.length → r.guard.length < 2 ^ 60 ∧ r.value.length < 2 ^ 60) → ScopeL.fit { scopeB a.scopes[k] with name := a.scopes[k].name ++ [120], rules := (a.scopes[k].rules.map ruleB).set 0 r } := fun r h => by
      obtain ⟨i1, i2, i3, i4⟩ := hfk
      refine ⟨i1, i2, by simpa [scopeB] using i3, fun r' m => ?_⟩
      rcases List.mem_or_eq_of_mem_set m with m | rfl
      · exact i4 r' m
      · refine h ?_
        have := List.length_pos_of_mem m
        simpa using this
    refine ⟨by have := hsk.1; omega, fun hr => ?_, fun hr => ?_⟩
    · have hr0 : 0 < a.scopes[k].rules.length := by omega
      have hy : (rulesO a.scopes[k].rules)[0]? = some [.str a.scopes[k].rules[0].name, .int .i64 a.scopes[k].rules[0].d, .int .i64 a.scopes[k].rules[0].p, .int .i64 a.scopes[k].rules[0].pr, .int .i64 a.scopes[k].rules[0].f, .int .i64 a.scopes[k].rules[0].t, .arr (nodesV a.scopes[k].rules[0].guard), .arr (nodesV a.scopes[k].rules[0].value), .str a.scopes[k].rules[0].src] := by simp [rulesO, hr0]
      have hset2 : ∀ r, ((rulesO a.scopes[k].rules).set 0 r)[0]? = some r := fun r => List.getElem?_set_self (by simpa [rulesO] using hr0)
      simp only [go_sem, simprocAttr, hy, hset2, hset, List.set_set]
      refine ⟨fun hv => ?_, fun hv => ?_⟩
      · have hv0 : 0 < a.scopes[k].rules[0].value.length := by omega
        have hz : (nodesV a.scopes[k].rules[0].value)[0]? = some a.scopes[k].rules[0].value[0].row := nodesV_get hv0
        simp only [go_sem, simprocAttr, hz, NodeL.row, hy, hset2, hset, List.set_set]
        have q := fin { scopeB a.scopes[k] with name := a.scopes[k].name ++ [120], rules := (a.scopes[k].rules.map ruleB).set 0 { ruleB a.scopes[k].rules[0] with pr := IntKind.i64.wrap (a.scopes[k].rules[0].pr + 1), value := a.scopes[k].rules[0].value.set 0 ⟨a.scopes[k].rules[0].value[0].op, IntKind.i64.wrap (a.scopes[k].rules[0].value[0].n + 1)⟩ } } rfl (fitR _ (fun _ => by
          have := hf6 _ (List.getElem_mem hr0)
          simpa [ruleB] using this))
        simp only [ScopeL.row, scopeB, rulesV_set, RuleL.row, ruleB, nodesV_set, NodeL.row] at q
        repeat' first
          | apply And.intro <;> intro h
          | ((first
            | (refine FCallT.of (q) ?_; rintro _ rfl)
            | refine detCall_of _ (q) ?_
            | refine detCallB_of _ (q) rfl ?_
            | (refine FCallT.of (q3 false) ?_; rintro _ rfl)
            | refine detCall_of _ (q3 false) ?_
            | refine detCallB_of _ (q3 false) rfl ?_
            | (refine FCallT.of (q4 false) ?_; rintro _ rfl)
            | refine detCall_of _ (q4 false) ?_
            | refine detCallB_of _ (q4 false) rfl ?_
            | (refine FCallT.of (hw) ?_; rintro _ rfl)
            | refine detCall_of _ (hw) ?_
            | refine detCallB_of _ (hw) rfl ?_); simp only [go_sem, simprocAttr, LawL.row])
      · have q := fin { scopeB a.scopes[k] with name := a.scopes[k].name ++ [120], rules := (a.scopes[k].rules.map ruleB).set 0 { ruleB a.scopes[k].rules[0] with pr := IntKind.i64.wrap (a.scopes[k].rules[0].pr + 1) } } rfl (fitR _ (fun _ => by
          have := hf6 _ (List.getElem_mem hr0)
          simpa [ruleB] using this))
        simp only [ScopeL.row, scopeB, rulesV_set, RuleL.row, ruleB] at q
        repeat' first
          | apply And.intro <;> intro h
          | ((first
            | (refine FCallT.of (q) ?_; rintro _ rfl)
            | refine detCall_of _ (q) ?_
            | refine detCallB_of _ (q) rfl ?_
            | (refine FCallT.of (q3 false) ?_; rintro _ rfl)
            | refine detCall_of _ (q3 false) ?_
            | refine detCallB_of _ (q3 false) rfl ?_
            | (refine FCallT.of (q4 false) ?_; rintro _ rfl)
            | refine detCall_of _ (q4 false) ?_
            | refine detCallB_of _ (q4 false) rfl ?_
            | (refine FCallT.of (hw) ?_; rintro _ rfl)
            | refine detCall_of _ (hw) ?_
            | refine detCallB_of _ (hw) rfl ?_); simp only [go_sem, simprocAttr, LawL.row])
    · repeat' first
        | apply And.intro <;> intro h
        | ((first
          | (refine FCallT.of (fin { scopeB a.scopes[k] with name := a.scopes[k].name ++ [120] } rfl hfk) ?_; rintro _ rfl)
          | refine detCall_of _ (fin { scopeB a.scopes[k] with name := a.scopes[k].name ++ [120] } rfl hfk) ?_
          | refine detCallB_of _ (fin { scopeB a.scopes[k] with name := a.scopes[k].name ++ [120] } rfl hfk) rfl ?_
          | (refine FCallT.of (q3 false) ?_; rintro _ rfl)
          | refine detCall_of _ (q3 false) ?_
          | refine detCallB_of _ (q3 false) rfl ?_
          | (refine FCallT.of (q4 false) ?_; rintro _ rfl)
          | refine detCall_of _ (q4 false) ?_
          | refine detCallB_of _ (q4 false) rfl ?_
          | (refine FCallT.of (hw) ?_; rintro _ rfl)
          | refine detCall_of _ (hw) ?_
          | refine detCallB_of _ (hw) rfl ?_); simp only [go_sem, simprocAttr, LawL.row])
end Go.Fx.Tryz
set_option linter.unusedVariables false
namespace Go.Fm
open Go
theorem int_of_shape {P : Program} {w : World} {g : Nat} {t : TypeId} {zero : Array Value} {k : IntKind} (h : w.ShapedOpen P) (hg : g < P.globals.size)
    (h0 : ((begin P (fun _ _ => 0) default).world.heap[g]?).bind Obj.row? = some (zero, t)) (hz : zero.size = 1)
    (hb : P.buildable t = true) (hc : P.cellTypes P.depth t = some [t]) (hu : P.underlying t = some (.int k)) : g < w.heap.size ∧ ∃ m : Int, w.cell? ⟨g, 0, none⟩ = some (.int k m) := by
  obtain ⟨cs, hh, hs, hr⟩ := h.1 g zero t hg h0
  obtain ⟨ts, hts, _, hall⟩ := hr hb
  rw [hc] at hts
  cases hts
  have h1 : 0 < cs.size := by omega
  obtain ⟨u, hu', hok⟩ := hall 0 cs[0] (by simp [h1])
  have : u = t := by simpa using hu'.symm
  subst this
  have hcell : w.cell? ⟨g, 0, none⟩ = some cs[0] := by simp [World.cell?, hh, h1]
  refine ⟨(Array.getElem?_eq_some_iff.1 hh).1, ?_⟩
  rw [hcell]
  unfold Cell.ok at hok
  rw [hu] at hok
  cases hv : cs[0] <;> rw [hv] at hok <;> first | (simp at hok; done) | (simp at hok; exact ⟨_, by rw [hok.1]⟩) | (simp at hok; exact ⟨_, by rw [hok]⟩)
end Go.Fm
set_option linter.unusedVariables false
namespace Go.Fm
open Go
abbrev ty_Str : Ty := .str
abbrev ty_Int : Ty := .int .i64
theorem i64_wf {n : Int} (h : (Lit.int .i64 n).wf = true) : I64 n := by
  simp only [Lit.wf, Bool.and_eq_true, decide_eq_true_eq] at h
  exact h
theorem has_Str {B : Nat} : ∀ fs, ty_Str.has B fs → ∃ s : List UInt8, fs = [.str s] ∧ s.length ≤ B := fun _ h => h
theorem has_Int {B : Nat} : ∀ fs, ty_Int.has B fs → ∃ n : Int, fs = [.int .i64 n] ∧ I64 n := fun _ ⟨n, h1, h2⟩ => ⟨n, h1, i64_wf h2⟩
abbrev ty_Node : Ty := (.cons (.int .i64) (.cons (.int .i64) .nil))
def NodeL.bnd (B : Nat) (x : NodeL) : Prop := I64 x.op ∧ I64 x.n
theorem has_Node {B : Nat} : ∀ fs, ty_Node.has B fs → ∃ x : NodeL, fs = x.row ∧ x.bnd B := by
  rintro _ ⟨_, _, rfl, ⟨a0, rfl, h0⟩, ⟨_, _, rfl, ⟨a1, rfl, h1⟩, rfl⟩⟩
  exact ⟨⟨a0, a1⟩, rfl, i64_wf h0, i64_wf h1⟩
abbrev ty_Enum : Ty := (.cons .str (.cons (.sl ty_Str) .nil))
def EnumL.bnd (B : Nat) (x : EnumL) : Prop := x.name.length ≤ B ∧ x.members.length ≤ B ∧ (∀ s ∈ x.members, s.length ≤ B)
theorem has_Enum {B : Nat} : ∀ fs, ty_Enum.has B fs → ∃ x : EnumL, fs = x.row ∧ x.bnd B := by
  rintro _ ⟨_, _, rfl, ⟨a0, rfl, h0⟩, ⟨_, _, rfl, h1, rfl⟩⟩
  obtain ⟨l1, rfl, k1, p1⟩ := slHas has_Str h1
  exact ⟨⟨a0, false, l1⟩, rfl, h0, k1, p1⟩
abbrev ty_Field : Ty := (.cons .str (.cons (.cons (.int .i64) (.cons (.int .i64) .nil)) .nil))
def FieldL.bnd (B : Nat) (x : FieldL) : Prop := x.name.length ≤ B ∧ I64 x.k ∧ I64 x.e
theorem has_Field {B : Nat} : ∀ fs, ty_Field.has B fs → ∃ x : FieldL, fs = x.row ∧ x.bnd B := by
  rintro _ ⟨_, _, rfl, ⟨a0, rfl, h0⟩, ⟨_, _, rfl, ⟨_, _, rfl, ⟨a1, rfl, h1⟩, ⟨_, _, rfl, ⟨a2, rfl, h2⟩, rfl⟩⟩, rfl⟩⟩
  exact ⟨⟨a0, a1, a2⟩, rfl, h0, i64_wf h1, i64_wf h2⟩
abbrev ty_Rule : Ty := (.cons .str (.cons (.int .i64) (.cons (.int .i64) (.cons (.int .i64) (.cons (.cons (.int .i64) (.cons (.int .i64) .nil)) (.cons (.sl ty_Node) (.cons (.sl ty_Node) (.cons .str .nil))))))))
def RuleL.bnd (B : Nat) (x : RuleL) : Prop := x.name.length ≤ B ∧ I64 x.d ∧ I64 x.p ∧ I64 x.pr ∧ I64 x.f ∧ I64 x.t ∧ x.guard.length ≤ B ∧ (∀ y ∈ x.guard, y.bnd B) ∧ x.value.length ≤ B ∧ (∀ y ∈ x.value, y.bnd B) ∧ x.src.length ≤ B
theorem has_Rule {B : Nat} : ∀ fs, ty_Rule.has B fs → ∃ x : RuleL, fs = x.row ∧ x.bnd B := by
  rintro _ ⟨_, _, rfl, ⟨a0, rfl, h0⟩, ⟨_, _, rfl, ⟨a1, rfl, h1⟩, ⟨_, _, rfl, ⟨a2, rfl, h2⟩, ⟨_, _, rfl, ⟨a3, rfl, h3⟩, ⟨_, _, rfl, ⟨_, _, rfl, ⟨a4, rfl, h4⟩, ⟨_, _, rfl, ⟨a5, rfl, h5⟩, rfl⟩⟩, ⟨_, _, rfl, h6, ⟨_, _, rfl, h7, ⟨_, _, rfl, ⟨a8, rfl, h8⟩, rfl⟩⟩⟩⟩⟩⟩⟩⟩
  obtain ⟨l6, rfl, k6, p6⟩ := slHas has_Node h6
  obtain ⟨l7, rfl, k7, p7⟩ := slHas has_Node h7
  exact ⟨⟨a0, a1, a2, a3, a4, a5, false, l6, false, l7, a8⟩, rfl, h0, i64_wf h1, i64_wf h2, i64_wf h3, i64_wf h4, i64_wf h5, k6, p6, k7, p7, h8⟩
abbrev ty_Row : Ty := (.cons (.cons (.int .i64) (.cons (.int .i64) .nil)) (.cons (.int .i64) (.cons (.int .i64) (.cons (.int .i64) .nil))))
def RowL.bnd (B : Nat) (x : RowL) : Prop := I64 x.f ∧ I64 x.t ∧ I64 x.lo ∧ I64 x.hi ∧ I64 x.n
theorem has_Row {B : Nat} : ∀ fs, ty_Row.has B fs → ∃ x : RowL, fs = x.row ∧ x.bnd B := by
  rintro _ ⟨_, _, rfl, ⟨_, _, rfl, ⟨a0, rfl, h0⟩, ⟨_, _, rfl, ⟨a1, rfl, h1⟩, rfl⟩⟩, ⟨_, _, rfl, ⟨a2, rfl, h2⟩, ⟨_, _, rfl, ⟨a3, rfl, h3⟩, ⟨_, _, rfl, ⟨a4, rfl, h4⟩, rfl⟩⟩⟩⟩
  exact ⟨⟨a0, a1, a2, a3, a4⟩, rfl, i64_wf h0, i64_wf h1, i64_wf h2, i64_wf h3, i64_wf h4⟩
abbrev ty_Table : Ty := (.cons .str (.cons (.cons (.int .i64) (.cons (.int .i64) .nil)) (.cons (.cons (.int .i64) (.cons (.int .i64) .nil)) (.cons (.sl ty_Row) .nil))))
def TableL.bnd (B : Nat) (x : TableL) : Prop := x.name.length ≤ B ∧ I64 x.kk ∧ I64 x.ke ∧ I64 x.vk ∧ I64 x.ve ∧ x.rows.length ≤ B ∧ (∀ y ∈ x.rows, y.bnd B)
theorem has_Table {B : Nat} : ∀ fs, ty_Table.has B fs → ∃ x : TableL, fs = x.row ∧ x.bnd B := by
  rintro _ ⟨_, _, rfl, ⟨a0, rfl, h0⟩, ⟨_, _, rfl, ⟨_, _, rfl, ⟨a1, rfl, h1⟩, ⟨_, _, rfl, ⟨a2, rfl, h2⟩, rfl⟩⟩, ⟨_, _, rfl, ⟨_, _, rfl, ⟨a3, rfl, h3⟩, ⟨_, _, rfl, ⟨a4, rfl, h4⟩, rfl⟩⟩, ⟨_, _, rfl, h5, rfl⟩⟩⟩⟩
  obtain ⟨l5, rfl, k5, p5⟩ := slHas has_Row h5
  exact ⟨⟨a0, a1, a2, a3, a4, false, l5⟩, rfl, h0, i64_wf h1, i64_wf h2, i64_wf h3, i64_wf h4, k5, p5⟩
abbrev ty_Scope : Ty := (.cons .str (.cons (.int .i64) (.cons (.sl ty_Field) (.cons (.sl ty_Field) (.cons (.sl ty_Rule) .nil)))))
def ScopeL.bnd (B : Nat) (x : ScopeL) : Prop := x.name.length ≤ B ∧ I64 x.ms ∧ x.inputs.length ≤ B ∧ (∀ y ∈ x.inputs, y.bnd B) ∧ x.defs.length ≤ B ∧ (∀ y ∈ x.defs, y.bnd B) ∧ x.rules.length ≤ B ∧ (∀ y ∈ x.rules, y.bnd B)
theorem has_Scope {B : Nat} : ∀ fs, ty_Scope.has B fs → ∃ x : ScopeL, fs = x.row ∧ x.bnd B := by
  rintro _ ⟨_, _, rfl, ⟨a0, rfl, h0⟩, ⟨_, _, rfl, ⟨a1, rfl, h1⟩, ⟨_, _, rfl, h2, ⟨_, _, rfl, h3, ⟨_, _, rfl, h4, rfl⟩⟩⟩⟩⟩
  obtain ⟨l2, rfl, k2, p2⟩ := slHas has_Field h2
  obtain ⟨l3, rfl, k3, p3⟩ := slHas has_Field h3
  obtain ⟨l4, rfl, k4, p4⟩ := slHas has_Rule h4
  exact ⟨⟨a0, a1, false, l2, false, l3, false, l4⟩, rfl, h0, i64_wf h1, k2, p2, k3, p3, k4, p4⟩
abbrev ty_Law : Ty := (.cons (.sl ty_Enum) (.cons (.sl ty_Table) (.cons (.sl ty_Scope) .nil)))
def LawL.bnd (B : Nat) (x : LawL) : Prop := x.enums.length ≤ B ∧ (∀ y ∈ x.enums, y.bnd B) ∧ x.tables.length ≤ B ∧ (∀ y ∈ x.tables, y.bnd B) ∧ x.scopes.length ≤ B ∧ (∀ y ∈ x.scopes, y.bnd B)
theorem has_Law {B : Nat} : ∀ fs, ty_Law.has B fs → ∃ x : LawL, fs = x.row ∧ x.bnd B := by
  rintro _ ⟨_, _, rfl, h0, ⟨_, _, rfl, h1, ⟨_, _, rfl, h2, rfl⟩⟩⟩
  obtain ⟨l0, rfl, k0, p0⟩ := slHas has_Enum h0
  obtain ⟨l1, rfl, k1, p1⟩ := slHas has_Table h1
  obtain ⟨l2, rfl, k2, p2⟩ := slHas has_Scope h2
  exact ⟨⟨false, l0, false, l1, false, l2⟩, rfl, k0, p0, k1, p1, k2, p2⟩
end Go.Fm
set_option linter.unusedVariables false
set_option linter.unusedSimpArgs false
namespace Go.Fm
open Go
def entryB (cs fs : List FV) : Env := (entryFrom 0 (.box cs :: fs)).put X0 (.ptr 0 [(0, 0)])
def finBX (n : Nat) (J : List FV → FV → Prop) (x : Option (List FV × Env)) : Prop := ∃ y, x = some y ∧ (y.2.get 0).isBox = true ∧ (boxOf (y.2.get 0)).length = n ∧ J (boxOf (y.2.get 0)) (one y.1)
def finB (rs : List RV) (n : Nat) (J : List FV → FV → Prop) (e : Exit) (E : Env) : Prop := (e = .normal ∨ e = .ret) ∧ isRoot 0 (E.get X0) = true ∧ (E.get 0).isBox = true ∧ finBX n J (outs E rs)
theorem entry_below : ∀ {fs : List FV} {i : Nat} {x : Nat × FV}, x ∈ entryFrom i fs → x.1 < i + fs.length
  | [], _, _, h => by simp [entryFrom] at h
  | f :: fs, i, x, h => by
    simp only [entryFrom, List.mem_cons] at h
    rcases h with rfl | h
    · simp
    · have := entry_below h; simp only [List.length_cons]; omega
theorem entry_get_none {fs : List FV} {t : Nat} (h : fs.length ≤ t) : (entryFrom 0 fs).get t = .undef := by
  refine Classical.byContradiction fun k => ?_
  have := entry_below (Env.get_mem k)
  simp only at this; omega
section
variable {P : Program} {N : Nat}
theorem FMutB.body {f : FuncId} {fn : Func} {c : Code} {cs fs : List FV} {rs : List RV} {K : List FV → FV → Prop} (hf : P.funcs[f]? = some fn) (hb : fn.body = some c) (hN : fn.ntmps = N) (hX : N ≤ X0) (hlen : fs.length + 1 ≤ N) (hcs : 0 < cs.length)
    (hr : List.all (rs.zip fn.results.toList) (fun y => y.1.chk P N y.2) = true) (hrl : rs.length = fn.results.toList.length) (h4 : fn.results.size ≤ 4)
    (h : CodeOk P N c (entryB cs fs) (finB rs cs.length K)) : FMutB P f cs fs K := by
  refine ⟨fun {w S R v vs} hA hrep hnd hsep => ?_⟩
  refine calls_of_wp hf hb ?_
  have hvl := hrep.length
  simp only [List.length_cons] at hvl
  have hval : ∀ k x, (v :: vs)[k]? = some x → valOf { tmps := (v :: vs).toArray ++ Array.replicate (fn.ntmps - (v :: vs).toArray.size) undef, defers := [] } (fun _ => v) k = x := by
    intro k x hk
    have hkl : k < (v :: vs).length := by
      rcases Nat.lt_or_ge k (v :: vs).length with h | h
      · exact h
      · rw [List.getElem?_eq_none h] at hk; cases hk
    unfold valOf
    rw [if_pos (by simp only [List.length_cons] at hkl; omega), Array.getD_eq_getD_getElem?, Array.getElem?_append_left (by simpa using hkl)]
    simp [hk]
  have hrel0 : Rel N (fun _ => v) (entryFrom 0 (.box cs :: fs)) { tmps := (v :: vs).toArray ++ Array.replicate (fn.ntmps - (v :: vs).toArray.size) undef, defers := [] } w S R := by
    refine ⟨entry_renv hrep ?_, entry_sorted _ 0, hnd, hsep, by simp; omega, hX, rfl⟩
    intro k x hk
    rw [Nat.zero_add]; exact hval k x hk
  have hu : (entryFrom 0 (.box cs :: fs)).get X0 = .undef := entry_get_none (by simp only [List.length_cons]; omega)
  obtain ⟨c0, cs1, rfl⟩ : ∃ c0 cs1, cs = c0 :: cs1 := by
    match cs, hcs with
    | c0 :: cs1, _ => exact ⟨c0, cs1, rfl⟩
  obtain ⟨R1, hrel, hmem⟩ := hrel0.putPtr (q := 0) (t := X0) (c := c0) (cs := cs1) (by simp [entryFrom, Env.get]) (by rw [hu]; rfl) hu (by unfold X0; omega) (by
    rw [hval 0 v (by simp)]
    unfold valOf; rw [if_neg (Nat.lt_irrefl _)])
  refine wp_mono (h hA hrel) fun e a w' hp => ?_
  obtain ⟨E', S', R', ⟨he, hroot, hbox, x, hx, hx1, hx2, hK⟩, r', e1⟩ := hp
  obtain ⟨fs', E2⟩ := x
  simp only at hx1 hx2 hK
  have hv0 : valOf a (fun _ => v) 0 = v := by
    obtain ⟨b, hb0⟩ := r'.box_val (isBox_eq hbox)
    have := box_ptr (isBox_eq hbox) hb0 (r'.get_ptr (isRoot_eq hroot))
    rw [← this]; unfold valOf; rw [if_neg (Nat.lt_irrefl _)]
  obtain ⟨vs', S2, Rf, R2, hall, p⟩ := outL r' hr hrl hx
  obtain ⟨Rb, R3, h1, h2, h3⟩ := p.rel.swap (d := 0) (by rw [isBox_eq hx1]; rfl)
  rw [isBox_eq hx1, hv0] at h1
  have hres := run_results (P := P) h4 hall
  have hbR : ∀ b ∈ Rb, b ∈ R2 := fun b m => h2.mem_iff.2 (by simp [m])
  have fin : bodyPost P fn (fun e w' => ∃ u r cs' S' R', e = .returned u ∧ (cs'.length = (c0 :: cs1).length ∧ K cs' r) ∧ Rep w'.heap S' [v, u] [.box cs', r] R' ∧ R'.Nodup ∧ (∀ b, S' b → b < w'.heap.size ∧ b ∉ R') ∧ Ext w S R w' S' R') .ret a w' := by
    refine ⟨r'.nodef, _, hres, _, one fs', boxOf (E2.get 0), S2, Rb ++ Rf, rfl, ⟨hx2, hK⟩, h1.cons (one_rep p.rep), ?_, ?_, ?_⟩
    · exact List.nodup_append.2 ⟨(List.nodup_append.1 (h2.nodup_iff.1 p.rel.nodup)).1, p.nodup, fun b m b' m' e => (p.apart b' m').1 (e ▸ hbR b m)⟩
    · refine fun b hb => ⟨(p.rel.sep b hb).1, fun m => ?_⟩
      rcases List.mem_append.1 m with m | m
      · exact (p.rel.sep b hb).2 (hbR b m)
      · exact (p.apart b m).2 hb
    · have e2 : Ext w S R w' S' R' := ⟨e1.seals, fun b hb => by
          rcases e1.news b hb with h | h | h
          · exact .inl h
          · exact .inr (.inl ((hmem b).1 h))
          · exact .inr (.inr h), fun b hb hn => e1.keep b hb (fun m => hn ((hmem b).1 m)), e1.grow, fun b m => (e1.owns b m).imp (hmem b).1 id, e1.os, e1.tape, e1.output, e1.spare⟩
      refine e2.trans ⟨p.seals, fun b hb => (p.news b hb).imp id .inl, fun _ _ _ => rfl, Nat.le_refl _, fun b m => .inl ?_, rfl, rfl, rfl, fun _ h => h⟩
      rcases List.mem_append.1 m with m | m
      · exact p.sub b (hbR b m)
      · exact p.subf b m
  rcases he with rfl | rfl
  · exact fin
  · exact fin
theorem FMutB.of {f : FuncId} {fn : Func} {fc : FC} {cs fs : List FV} {na : Nat} {rs : List RV} {J : List FV → FV → Prop} (hf : P.funcs[f]? = some fn) (hc : fnOk P fn fc N na rs = true) (hl : fs.length + 1 = na) (hcs : 0 < cs.length)
    (h : FW P N fc (entryB cs fs) (finB rs cs.length J)) : FMutB P f cs fs J := by
  unfold fnOk at hc
  cases hb : fn.body with
  | none => rw [hb] at hc; cases hc
  | some c =>
  rw [hb] at hc
  simp only [Bool.and_eq_true, beq_iff_eq, decide_eq_true_eq] at hc
  obtain ⟨h1, h2, h3, h4, h5, h6, h7⟩ := hc
  exact FMutB.body hf hb h2 h3 (by omega) hcs h7 h6 h5 (h c h1)
end
end Go.Fm
