/- Own text of this claim: an abstract machine over the given program form, and what follows from it. No condition. -/
import Derived.Test.YtekijepgmmemiaaGreatEvMut
import Derived.Test.YtekijepgmmemiaaGreatEvHd
import Derived.IntWalk
import Derived.Test.YtekijepgmmemiaaGreatProg
set_option linter.unusedVariables false
namespace Go.Gar
open Go Go.EV
/-! what the program's structs are, as cells -/
abbrev i (n : Int) : AV := .int .i64 n
abbrev u (n : Int) : AV := .int .u64 n
def gi : AV → Int
  | .int _ n => n
  | _ => 0
def gb : AV → Bool
  | .bool b => b
  | _ => false
structure Reply where
  code : Int
  value : Int
  badge : Int
  cap : Bool
  deriving DecidableEq, Inhabited
structure Call where
  kind : Int
  a : Int
  b : Int
  rights : Int
  badge : Int
  type : Int
  size : Int
  value : Int
  deriving DecidableEq, Inhabited
structure Span where
  core : Int
  call : Call
  start : Int
  stop : Int
  reply : Reply
  deriving DecidableEq, Inhabited
structure Done where
  core : Int
  reply : Reply
  deriving DecidableEq, Inhabited
/-- a list: how many, what each one is, whether its slice is known to be full -/
structure Ls (α : Type) where
  n : Nat
  f : Nat → α
  full : Bool
instance {α : Type} [Inhabited α] : Inhabited (Ls α) := ⟨0, fun _ => default, false⟩
structure Event where
  kind : Int
  core : Int
  call : Call
  stamp : Int
  replies : Ls Done
  deriving Inhabited
structure Hist where
  spans : Ls Span
  events : Ls Event

def eReply (r : Reply) : List AV := [i r.code, i r.value, i r.badge, .bool r.cap]
def eCall (c : Call) : List AV := [i c.kind, u c.a, u c.b, i c.rights, i c.badge, i c.type, i c.size, i c.value]
def eSpan (s : Span) : List AV := [i s.core, i s.call.kind, u s.call.a, u s.call.b, i s.call.rights, i s.call.badge, i s.call.type, i s.call.size, i s.call.value, i s.start, i s.stop, i s.reply.code, i s.reply.value, i s.reply.badge, .bool s.reply.cap]
def eDone (d : Done) : List AV := [i d.core, i d.reply.code, i d.reply.value, i d.reply.badge, .bool d.reply.cap]
def eLs {α : Type} (e : Nat) (enc : α → List AV) (l : Ls α) : AV := .ls l.n (fun k => enc (l.f k)) e l.full
def eEvent (e : Event) : List AV := [i e.kind, i e.core, i e.call.kind, u e.call.a, u e.call.b, i e.call.rights, i e.call.badge, i e.call.type, i e.call.size, i e.call.value, i e.stamp, .ls e.replies.n (fun k => eDone (e.replies.f k)) 5 e.replies.full]
def eHist (h : Hist) : List AV := [.ls h.spans.n (fun k => eSpan (h.spans.f k)) 15 h.spans.full, .ls h.events.n (fun k => eEvent (h.events.f k)) 12 h.events.full]
def dReply : List AV → Reply
  | [a, b, c, d] => ⟨gi a, gi b, gi c, gb d⟩
  | _ => default
def dSpan : List AV → Span
  | [a, c1, c2, c3, c4, c5, c6, c7, c8, s, e, r1, r2, r3, r4] => ⟨gi a, ⟨gi c1, gi c2, gi c3, gi c4, gi c5, gi c6, gi c7, gi c8⟩, gi s, gi e, ⟨gi r1, gi r2, gi r3, gb r4⟩⟩
  | _ => default
def dDone : List AV → Done
  | [a, r1, r2, r3, r4] => ⟨gi a, ⟨gi r1, gi r2, gi r3, gb r4⟩⟩
  | _ => default
def dLs {α : Type} [Inhabited α] (dec : List AV → α) : AV → Ls α
  | .ls n f _ full => ⟨n, fun k => dec (f k), full⟩
  | _ => default
def dEvent : List AV → Event
  | [a, b, c1, c2, c3, c4, c5, c6, c7, c8, s, r] => ⟨gi a, gi b, ⟨gi c1, gi c2, gi c3, gi c4, gi c5, gi c6, gi c7, gi c8⟩, gi s, dLs dDone r⟩
  | _ => default
def dHist : List AV → Hist
  | [s, e] => ⟨dLs dSpan s, dLs dEvent e⟩
  | _ => ⟨default, default⟩
/-- elements are those of a kind -/
def IsE {α : Type} (n : Nat) (f : Nat → List AV) (enc : α → List AV) (dec : List AV → α) : Prop := ∀ k, k < n → f k = enc (dec (f k))
def IsHist : List AV → Prop
  | [.ls n f 15 _, .ls m g 12 _] => IsE n f eSpan dSpan ∧ IsE m g eEvent dEvent
  | _ => False
theorem isE_of {α : Type} {n : Nat} {g : Nat → α} {enc : α → List AV} {dec : List AV → α} (h : ∀ a, dec (enc a) = a) : IsE n (fun k => enc (g k)) enc dec := fun k _ => by rw [h]
theorem d_eSpan (s : Span) : dSpan (eSpan s) = s := rfl
theorem d_eDone (s : Done) : dDone (eDone s) = s := rfl
theorem d_eEvent (s : Event) : dEvent (eEvent s) = s := rfl
theorem d_eHist (s : Hist) : dHist (eHist s) = s := rfl
theorem is_eHist (h : Hist) : IsHist (eHist h) := ⟨isE_of d_eSpan, isE_of d_eEvent⟩
/-- cells, with their places -/
def nums : List AV → Nat → List (Nat × AV)
  | [], _ => []
  | v :: l, k => (k, v) :: nums l (k + 1)
def zSpan : List AV := eSpan default
def zEvent : List AV := [i 0, i 0, i 0, u 0, u 0, i 0, i 0, i 0, i 0, i 0, i 0, .nilsl]
end Go.Gar

namespace Go.Gar
/-! numbers of functions -/
abbrev f_L20_LinOrders : Nat := 3
abbrev f_L20_LinWhole : Nat := 4
abbrev f_L20_LinSpoilt : Nat := 5
abbrev f_L20_LinOne : Nat := 6
abbrev f_L30_WingSound : Nat := 7
abbrev f_L30_WingOne : Nat := 8
abbrev f_L23_LayoutLays : Nat := 9
abbrev f_L23_LayoutBack : Nat := 10
abbrev f_L20_small : Nat := 11
abbrev f_L20_num : Nat := 12
abbrev f_hist_Check : Nat := 13
abbrev f_L20_live : Nat := 14
abbrev f_R07_Ints : Nat := 15
abbrev f_lin_Order : Nat := 16
abbrev f_R20_Order : Nat := 17
abbrev f_lin_Respects : Nat := 18
abbrev f_R20_Respects : Nat := 19
abbrev f_L20_begin : Nat := 20
abbrev f_lin_Check : Nat := 21
abbrev f_R17_Do : Nat := 22
abbrev f_model_Same : Nat := 23
abbrev f_L30_begin : Nat := 24
abbrev f_L30_live : Nat := 25
abbrev f_wing_Find : Nat := 26
abbrev f_wing_Holds : Nat := 27
abbrev f_L30_less : Nat := 28
abbrev f_hist_Ahead : Nat := 29
abbrev f_L23_run : Nat := 30
abbrev f_L23_live : Nat := 31
abbrev f_layout_Encode : Nat := 32
abbrev f_R23_Encode : Nat := 33
abbrev f_R04_Values : Nat := 34
abbrev f_L23_num : Nat := 35
abbrev f_layout_Decode : Nat := 36
abbrev f_R17_Same : Nat := 37
abbrev f_hist_isSpan : Nat := 38
abbrev f_hist_isEvent : Nat := 39
abbrev f_model_New : Nat := 40
abbrev f_lin_Next : Nat := 41
abbrev f_lin_answers : Nat := 42
abbrev f_slices_SortStableFunc_int_int : Nat := 43
abbrev f_lin_Order_1 : Nat := 44
abbrev f_cmp_Compare_int : Nat := 45
abbrev f_R20_stamp : Nat := 46
abbrev f_lin_Respects_1 : Nat := 47
abbrev f_slices_ContainsFunc_int_int : Nat := 48
abbrev f_R18_Ahead : Nat := 49
abbrev f_R17_New : Nat := 50
abbrev f_lin_goes : Nat := 51
abbrev f_R17_ready : Nat := 52
abbrev f_R15_Is : Nat := 53
abbrev f_R17_code : Nat := 54
abbrev f_R17_Begin : Nat := 55
abbrev f_R17_Turn : Nat := 56
abbrev f_R17_first : Nat := 57
abbrev f_R17_does : Nat := 58
abbrev f_R17_copied : Nat := 59
abbrev f_arena_Same : Nat := 60
abbrev f_tree_Same : Nat := 61
abbrev f_slices_Equal_api_Sweep_api_Sweep : Nat := 62
abbrev f_slices_Equal_int_int : Nat := 63
abbrev f_slices_EqualFunc_api_Cap_api_Cap_api_Cap_api_Cap : Nat := 64
abbrev f_slices_Equal_api_Cap_api_Cap : Nat := 65
abbrev f_slices_EqualFunc_api_Port_api_Port_api_Port_api_Port : Nat := 66
abbrev f_port_Same : Nat := 67
abbrev f_slices_EqualFunc_int_int_int_int : Nat := 68
abbrev f_wing_Next : Nat := 69
abbrev f_L30_num : Nat := 70
abbrev f_wing_Check : Nat := 71
abbrev f_wing_open : Nat := 72
abbrev f_wing_Find_1 : Nat := 73
abbrev f_wing_search_done : Nat := 74
abbrev f_wing_search_take : Nat := 75
abbrev f_wing_search_undo : Nat := 76
abbrev f_slices_Clone_int_int : Nat := 77
abbrev f_slices_Contains_int_int : Nat := 78
abbrev f_layout_Key : Nat := 79
abbrev f_layout_Code : Nat := 80
abbrev f_layout_Object : Nat := 81
abbrev f_layout_Slot : Nat := 82
abbrev f_layout_Guard : Nat := 83
abbrev f_layout_Core : Nat := 84
abbrev f_layout_Apply : Nat := 85
abbrev f_layout_isSmall : Nat := 86
abbrev f_layout_objects : Nat := 87
abbrev f_layout_branches : Nat := 88
abbrev f_layout_waiters : Nat := 89
abbrev f_layout_sweeps : Nat := 90
abbrev f_R23_Fits : Nat := 91
abbrev f_R09_Live : Nat := 92
abbrev f_R23_Object : Nat := 93
abbrev f_R23_port : Nat := 94
abbrev f_R23_Code : Nat := 95
abbrev f_R12_Get : Nat := 96
abbrev f_R03_Word : Nat := 97
abbrev f_R23_Slot : Nat := 98
abbrev f_R23_bit : Nat := 99
abbrev f_R23_swept : Nat := 100
abbrev f_R23_Core : Nat := 101
abbrev f_layout_cells_thing : Nat := 102
abbrev f_layout_cells_slots : Nat := 103
abbrev f_layout_cells_port : Nat := 104
abbrev f_layout_cells_core : Nat := 105
abbrev f_layout_cells_tree : Nat := 106
abbrev f_layout_isFree : Nat := 107
abbrev f_R09_Same : Nat := 108
abbrev f_R13_Same : Nat := 109
abbrev f_R16_Same : Nat := 110
abbrev f_hist_isCore : Nat := 111
abbrev f_hist_of : Nat := 112
abbrev f_arena_New : Nat := 113
abbrev f_carve_Size : Nat := 114
abbrev f_slices_DeleteFunc_int_int : Nat := 115
abbrev f_model_New_1 : Nat := 116
abbrev f_tree_Root : Nat := 117
abbrev f_model_Do : Nat := 118
abbrev f_model_Begin : Nat := 119
abbrev f_model_Turn : Nat := 120
abbrev f_model_Free : Nat := 121
abbrev f_lin_isInside : Nat := 122
abbrev f_slices_stableCmpFunc_int : Nat := 123
abbrev f_cmp_isNaN_int : Nat := 124
abbrev f_R19_Inside : Nat := 125
abbrev f_slices_IndexFunc_int_int : Nat := 126
abbrev f_R10_Power : Nat := 127
abbrev f_R09_New : Nat := 128
abbrev f_slices_Equal_api_Done_api_Done : Nat := 129
abbrev f_lin_goes_1 : Nat := 130
abbrev f_slices_ContainsFunc_api_Span_api_Span : Nat := 131
abbrev f_R17_Waits : Nat := 132
abbrev f_R15_address : Nat := 133
abbrev f_R02_Is : Nat := 134
abbrev f_R17_place : Nat := 135
abbrev f_R17_at : Nat := 136
abbrev f_R17_Busy : Nat := 137
abbrev f_R17_sweep : Nat := 138
abbrev f_R13_Below : Nat := 139
abbrev f_R13_Find : Nat := 140
abbrev f_R13_Mark : Nat := 141
abbrev f_R17_Take : Nat := 142
abbrev f_R13_Descends : Nat := 143
abbrev f_R17_mint : Nat := 144
abbrev f_R17_move : Nat := 145
abbrev f_R17_drop : Nat := 146
abbrev f_R17_retype : Nat := 147
abbrev f_R17_use : Nat := 148
abbrev f_slices_Equal_api_Thing_api_Thing : Nat := 149
abbrev f_slices_Equal_api_Branch_api_Branch : Nat := 150
abbrev f_slices_Equal_api_Waiter_api_Waiter : Nat := 151
abbrev f_model_Waits : Nat := 152
abbrev f_slices_Clone_bool_bool : Nat := 153
abbrev f_wing_search_take_1 : Nat := 154
abbrev f_slices_Index_int_int : Nat := 155
abbrev f_slices_Clone_int64_int64 : Nat := 156
abbrev f_layout_objects_1 : Nat := 157
abbrev f_layout_branches_1 : Nat := 158
abbrev f_layout_branches_1_1 : Nat := 159
abbrev f_addr_Get : Nat := 160
abbrev f_cap_Word : Nat := 161
abbrev f_layout_flag : Nat := 162
abbrev f_slices_ContainsFunc_api_Sweep_api_Sweep : Nat := 163
abbrev f_layout_branches_1_2 : Nat := 164
abbrev f_layout_waiters_1 : Nat := 165
abbrev f_layout_sweeps_1 : Nat := 166
abbrev f_R03_Is : Nat := 167
abbrev f_R01_Put : Nat := 168
abbrev f_layout_cells_thing_1 : Nat := 169
abbrev f_layout_cells_object : Nat := 170
abbrev f_cap_Parse : Nat := 171
abbrev f_layout_cells_first : Nat := 172
abbrev f_carve_isSize : Nat := 173
abbrev f_tree_right : Nat := 174
abbrev f_tree_add : Nat := 175
abbrev f_model_isReady : Nat := 176
abbrev f_call_Check : Nat := 177
abbrev f_model_failed : Nat := 178
abbrev f_model_revoke : Nat := 179
abbrev f_model_opened : Nat := 180
abbrev f_model_kernel_do : Nat := 181
abbrev f_model_place : Nat := 182
abbrev f_model_at : Nat := 183
abbrev f_model_busy : Nat := 184
abbrev f_model_swept : Nat := 185
abbrev f_tree_Below : Nat := 186
abbrev f_model_Turn_1 : Nat := 187
abbrev f_tree_Find : Nat := 188
abbrev f_slices_IndexFunc_api_Key_api_Key : Nat := 189
abbrev f_tree_Mark : Nat := 190
abbrev f_model_kernel_take : Nat := 191
abbrev f_model_sweptBy : Nat := 192
abbrev f_arena_Give : Nat := 193
abbrev f_slices_Clone_int_int_194 : Nat := 194
abbrev f_slices_insertionSortCmpFunc_int : Nat := 195
abbrev f_slices_symMergeCmpFunc_int : Nat := 196
abbrev f_slices_IndexFunc_api_Span_api_Span : Nat := 197
abbrev f_R12_Parse : Nat := 198
abbrev f_R12_Find : Nat := 199
abbrev f_R17_Root : Nat := 200
abbrev f_R13_count : Nat := 201
abbrev f_R13_Is : Nat := 202
abbrev f_R06_Is : Nat := 203
abbrev f_R13_put : Nat := 204
abbrev f_R13_out : Nat := 205
abbrev f_R13_Remove : Nat := 206
abbrev f_R17_dies : Nat := 207
abbrev f_R17_refer : Nat := 208
abbrev f_R06_Has : Nat := 209
abbrev f_R03_Derive : Nat := 210
abbrev f_R17_derive : Nat := 211
abbrev f_R13_Move : Nat := 212
abbrev f_R03_May : Nat := 213
abbrev f_R10_Size : Nat := 214
abbrev f_R10_Carve : Nat := 215
abbrev f_R17_water : Nat := 216
abbrev f_R09_Take : Nat := 217
abbrev f_R16_Signal : Nat := 218
abbrev f_R16_Wait : Nat := 219
abbrev f_R17_meets : Nat := 220
abbrev f_slices_ContainsFunc_api_Port_api_Port : Nat := 221
abbrev f_model_Waits_1 : Nat := 222
abbrev f_slices_ContainsFunc_api_Waiter_api_Waiter : Nat := 223
abbrev f_model_Waits_1_1 : Nat := 224
abbrev f_addr_isPart : Nat := 225
abbrev f_cap_Check : Nat := 226
abbrev f_cap_fields : Nat := 227
abbrev f_cap_numbers : Nat := 228
abbrev f_bits_Put : Nat := 229
abbrev f_slices_IndexFunc_api_Sweep_api_Sweep : Nat := 230
abbrev f_R01_Field : Nat := 231
abbrev f_R01_Bit : Nat := 232
abbrev f_bits_Get : Nat := 233
abbrev f_tree_right_1 : Nat := 234
abbrev f_order_Check : Nat := 235
abbrev f_tree_Check : Nat := 236
abbrev f_slices_ContainsFunc_api_Key_api_Key : Nat := 237
abbrev f_tree_put : Nat := 238
abbrev f_call_isAddress : Nat := 239
abbrev f_rights_Is : Nat := 240
abbrev f_model_revoke_1 : Nat := 241
abbrev f_slices_IndexFunc_api_Done_api_Done : Nat := 242
abbrev f_slices_Insert_api_Done_api_Done : Nat := 243
abbrev f_slices_Delete_api_Done_api_Done : Nat := 244
abbrev f_slices_Clone_api_Thing_api_Thing : Nat := 245
abbrev f_slices_Clone_api_Branch_api_Branch : Nat := 246
abbrev f_slices_Clone_api_Port_api_Port : Nat := 247
abbrev f_model_kernel_doing : Nat := 248
abbrev f_addr_Parse : Nat := 249
abbrev f_addr_Find : Nat := 250
abbrev f_model_Root : Nat := 251
abbrev f_model_busy_1 : Nat := 252
abbrev f_slices_Clone_api_Sweep_api_Sweep : Nat := 253
abbrev f_slices_Collect_api_Key : Nat := 254
abbrev f_tree_below : Nat := 255
abbrev f_slices_IndexFunc_api_Branch_api_Branch : Nat := 256
abbrev f_tree_Find_1 : Nat := 257
abbrev f_tree_with : Nat := 258
abbrev f_model_kernel_refer : Nat := 259
abbrev f_tree_Remove : Nat := 260
abbrev f_model_kernel_die : Nat := 261
abbrev f_tree_Descends : Nat := 262
abbrev f_arena_has : Nat := 263
abbrev f_arena_isLive : Nat := 264
abbrev f_arena_isFree : Nat := 265
abbrev f_arena_list : Nat := 266
abbrev f_slices_rotateCmpFunc_int : Nat := 267
abbrev f_R01_Get : Nat := 268
abbrev f_R12_Put : Nat := 269
abbrev f_R12_Is : Nat := 270
abbrev f_R09_Drop : Nat := 271
abbrev f_R09_Refer : Nat := 272
abbrev f_R02_Within : Nat := 273
abbrev f_R13_Insert : Nat := 274
abbrev f_R10_Is : Nat := 275
abbrev f_R10_Align : Nat := 276
abbrev f_R09_Is : Nat := 277
abbrev f_R09_set : Nat := 278
abbrev f_R09_list : Nat := 279
abbrev f_R16_Is : Nat := 280
abbrev f_R16_without : Nat := 281
abbrev f_R16_core : Nat := 282
abbrev f_R16_find : Nat := 283
abbrev f_R16_Send : Nat := 284
abbrev f_R17_gives : Nat := 285
abbrev f_R16_Recv : Nat := 286
abbrev f_slices_IndexFunc_api_Port_api_Port : Nat := 287
abbrev f_slices_IndexFunc_api_Waiter_api_Waiter : Nat := 288
abbrev f_cap_badges : Nat := 289
abbrev f_bits_isField : Nat := 290
abbrev f_bits_low : Nat := 291
abbrev f_bits_Mask : Nat := 292
abbrev f_slices_overlaps_api_Done : Nat := 293
abbrev f_slices_rotateRight_api_Done : Nat := 294
abbrev f_model_kernel_mint : Nat := 295
abbrev f_model_kernel_move : Nat := 296
abbrev f_model_kernel_drop : Nat := 297
abbrev f_model_kernel_retype : Nat := 298
abbrev f_model_kernel_look : Nat := 299
abbrev f_model_kernel_frame : Nat := 300
abbrev f_model_kernel_notice : Nat := 301
abbrev f_model_kernel_endpoint : Nat := 302
abbrev f_addr_Put : Nat := 303
abbrev f_addr_Check : Nat := 304
abbrev f_cap_May : Nat := 305
abbrev f_slices_AppendSeq_api_Key_api_Key : Nat := 306
abbrev f_tree_below_1 : Nat := 307
abbrev f_model_kernel_die_1 : Nat := 308
abbrev f_slices_IndexFunc_api_Thing_api_Thing : Nat := 309
abbrev f_model_kernel_answer : Nat := 310
abbrev f_arena_Drop : Nat := 311
abbrev f_slices_Contains_api_Key_api_Key : Nat := 312
abbrev f_arena_Check : Nat := 313
abbrev f_slices_ContainsFunc_int_int_314 : Nat := 314
abbrev f_arena_isFree_1 : Nat := 315
abbrev f_slices_swapRangeCmpFunc_int : Nat := 316
abbrev f_R09_place : Nat := 317
abbrev f_R08_Next : Nat := 318
abbrev f_R02_Has : Nat := 319
abbrev f_R09_in : Nat := 320
abbrev f_R16_meet : Nat := 321
abbrev f_R17_node : Nat := 322
abbrev f_slices_rotateLeft_api_Done : Nat := 323
abbrev f_model_kernel_ways : Nat := 324
abbrev f_cap_Derive : Nat := 325
abbrev f_model_kernel_derive : Nat := 326
abbrev f_model_kernel_fine : Nat := 327
abbrev f_tree_Move : Nat := 328
abbrev f_model_kernel_right : Nat := 329
abbrev f_carve_Carve : Nat := 330
abbrev f_model_kernel_given : Nat := 331
abbrev f_arena_Take : Nat := 332
abbrev f_port_Wait : Nat := 333
abbrev f_port_Signal : Nat := 334
abbrev f_port_Recv : Nat := 335
abbrev f_port_Send : Nat := 336
abbrev f_model_kernel_give : Nat := 337
abbrev f_addr_Check_1 : Nat := 338
abbrev f_slices_ContainsFunc_api_Step_api_Step : Nat := 339
abbrev f_cap_isOne : Nat := 340
abbrev f_rights_Within : Nat := 341
abbrev f_arena_put : Nat := 342
abbrev f_handle_Next : Nat := 343
abbrev f_slices_Index_api_Key_api_Key : Nat := 344
abbrev f_arena_isThing : Nat := 345
abbrev f_slices_IndexFunc_int_int_346 : Nat := 346
abbrev f_slices_Reverse_api_Done_api_Done : Nat := 347
abbrev f_tree_Insert : Nat := 348
abbrev f_carve_Check : Nat := 349
abbrev f_carve_Align : Nat := 350
abbrev f_model_kernel_given_1 : Nat := 351
abbrev f_slices_ContainsFunc_api_Thing_api_Thing : Nat := 352
abbrev f_port_begin : Nat := 353
abbrev f_port_join : Nat := 354
abbrev f_port_Check : Nat := 355
abbrev f_port_leave : Nat := 356
abbrev f_port_meet : Nat := 357
abbrev f_model_kernel_lies : Nat := 358
abbrev f_slices_IndexFunc_api_Step_api_Step : Nat := 359
abbrev f_handle_isGen : Nat := 360
abbrev f_port_isCore : Nat := 361
abbrev f_port_at : Nat := 362
abbrev f_slices_Clone_api_Waiter_api_Waiter : Nat := 363
abbrev f_port_Check_1 : Nat := 364
abbrev f_slices_Delete_api_Waiter_api_Waiter : Nat := 365
abbrev f_port_at_1 : Nat := 366
end Go.Gar

set_option linter.unusedVariables false
namespace Go.Gar
open Go Go.EV
noncomputable section
@[reducible] noncomputable def Pr : Program := Go.Proofs.Tryz.prog
theorem no_num : (Pr.funcs.toList.all fun fn => !(fn.name == "runtime.NumGoroutine")) = true := by kernel_rfl
theorem mixed : Pr.follows .mixedOrders = true := by kernel_rfl
abbrev W (n : Int) : Int := IntKind.i64.wrap n
theorem W_in (n : Int) (h : -9223372036854775808 ≤ n ∧ n < 9223372036854775808) : W n = n := by
  unfold W IntKind.wrap
  simp only [IntKind.signed, IntKind.bits]
  simp only [show ((2 : Int) ^ 64) = 18446744073709551616 by decide, show ((2 : Int) ^ (64 - 1)) = 9223372036854775808 by decide]
  simp
  split <;> omega
theorem i_eq {a b : Int} (h : a = b) : i a = i b := by rw [h]
theorem W_succ {j n : Nat} (h : j < n) (hn : n ≤ 1000000) : W ((j : Int) + 1) = ((j + 1 : Nat) : Int) := by
  rw [W_in _ (by omega)]; rfl
theorem W_pred {j n : Nat} (h : j + 1 ≤ n) (hn : n ≤ 1000000) : W (((j + 1 : Nat) : Int) - 1) = (j : Int) := by
  rw [W_in _ (by omega)]; omega
def lsS (n : Nat) (S : Nat → Span) (fl : Bool := false) : AV := .ls n (fun k => eSpan (S k)) 15 fl
def lsE (n : Nat) (E : Nat → Event) (fl : Bool := false) : AV := .ls n (fun k => eEvent (E k)) 12 fl
def lsI (n : Nat) (l : Nat → Int) (fl : Bool := false) : AV := .ls n (fun k => [i (l k)]) 1 fl
theorem G0 : GoodU Pr noU := GoodU.none no_num mixed
end
end Go.Gar
