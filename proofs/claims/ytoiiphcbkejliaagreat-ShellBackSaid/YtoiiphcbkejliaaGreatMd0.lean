/- Texts of one kind, one behind the other. -/
import Derived.Test.YtoiiphcbkejliaaGreatProg
import Derived.KernelRfl
import Derived.Test.YtoiiphcbkejliaaGreatMb0
set_option maxRecDepth 100000
set_option linter.defProp false
namespace Go.Proofs.YtoiiphcbkejliaaGreat.Cd
open Go Go.Dx
@[reducible] def oA (d : Nat) (x : Dx.Op) : O := ⟨some d, none, x⟩
@[reducible] def oM (d x : Nat) : O := ⟨some d, none, .mov (.t x)⟩
@[reducible] def oS (x : Dx.Op) : O := ⟨none, none, x⟩
@[reducible] def oT (d g : Nat) (x : Dx.Op) : O := ⟨some d, some (g, true), x⟩
@[reducible] def oF (d g : Nat) (x : Dx.Op) : O := ⟨some d, some (g, false), x⟩
def n_4k : Nat := 6
def n_87 : Nat := 11
def n_4w : Nat := 13
def n_86 : Nat := 14
def n_4s : Nat := 15
def n_4t : Nat := 16
def n_4a : Nat := 17
def n_4r : Nat := 20
def n_85 : Nat := 21
def n_4x : Nat := 22
def n_84 : Nat := 26
def n_8c : Nat := 28
def n_8b : Nat := 29
def n_88 : Nat := 30
def n_9p : Nat := 32
def n_9q : Nat := 33
def n_9r : Nat := 34
def n_2x : Nat := 35
def n_2s : Nat := 36
def n_0l : Nat := 37
def n_4d : Nat := 38
def n_89 : Nat := 40
def n_8a : Nat := 41
def n_48 : Nat := 42
def n_35 : Nat := 51
def n_3v : Nat := 52
def n_9t : Nat := 53
def n_9u : Nat := 54
def n_2v : Nat := 55
def n_2u : Nat := 56
def n_2t : Nat := 57
def n_9s : Nat := 58
def n_9y : Nat := 59
def n_4i : Nat := 60
def n_4j : Nat := 61
def n_4c : Nat := 62
def n_8e : Nat := 63
def n_3t : Nat := 77
def n_3r : Nat := 78
def n_13 : Nat := 79
def n_1a : Nat := 80
def n_0v : Nat := 81
def n_3s : Nat := 82
def n_2w : Nat := 83
def n_3u : Nat := 84
def n_2y : Nat := 85
def n_0z : Nat := 86
def n_34 : Nat := 87
def n_0y : Nat := 88
def n_0n : Nat := 89
def n_7q : Nat := 90
def n_7u : Nat := 91
def n_8m : Nat := 92
def n_0g : Nat := 93
def n_8l : Nat := 94
def n_0h : Nat := 95
def n_6k : Nat := 96
def n_4f : Nat := 97
def n_4b : Nat := 98
def n_4e : Nat := 99
def n_6m : Nat := 117
def n_7p : Nat := 119
def n_061 : Nat := 120
def n_7t : Nat := 121
def n_3m : Nat := 122
def n_9e : Nat := 123
def n_9v : Nat := 124
def n_2r : Nat := 125
def n_2k : Nat := 126
def n_1n : Nat := 127
def n_3w : Nat := 128
def n_30 : Nat := 129
def n_31 : Nat := 130
def n_33 : Nat := 131
def n_0p : Nat := 132
def n_1c : Nat := 133
def n_0m : Nat := 134
def n_7x : Nat := 135
def n_0x : Nat := 136
def n_7w : Nat := 137
def n_8k : Nat := 138
def n_80 : Nat := 139
def n_2c : Nat := 140
def n_071 : Nat := 141
def n_6j : Nat := 142
def n_6l : Nat := 143
def n_4g : Nat := 144
def n_4h : Nat := 145
def n_6r : Nat := 170
def n_6n : Nat := 171
def n_6o : Nat := 172
def n_81 : Nat := 173
def n_0i : Nat := 174
def n_1d : Nat := 175
def n_1g : Nat := 176
def n_1p : Nat := 177
def n_1m : Nat := 178
def n_1l : Nat := 179
def n_0k : Nat := 180
def n_1b : Nat := 181
def n_82 : Nat := 182
def n_83 : Nat := 183
def n_10 : Nat := 184
def n_0c : Nat := 185
def n_09 : Nat := 186
def n_0b : Nat := 187
def n_11 : Nat := 188
def n_7s : Nat := 189
def n_7r : Nat := 190
def n_2z : Nat := 191
def n_001 : Nat := 192
def n_0r : Nat := 193
def n_3i : Nat := 194
def n_8f : Nat := 195
def n_12 : Nat := 196
def n_7z : Nat := 197
def n_8d : Nat := 198
def n_6q : Nat := 199
def n_0c1 : Nat := 216
def n_0q : Nat := 217
def n_19 : Nat := 218
def n_1o : Nat := 219
def n_0j : Nat := 220
def n_20 : Nat := 221
def n_1u : Nat := 222
def n_1z : Nat := 223
def n_1q : Nat := 224
def n_1x : Nat := 225
def n_1f : Nat := 226
def n_1y : Nat := 227
def n_1t : Nat := 228
def n_1s : Nat := 229
def n_0b1 : Nat := 230
def n_1h : Nat := 231
def n_9m : Nat := 232
def n_0a : Nat := 233
def n_7y : Nat := 234
def n_3e : Nat := 235
def n_32 : Nat := 236
def n_041 : Nat := 237
def n_3k : Nat := 238
def n_0s : Nat := 239
def n_8q : Nat := 240
def n_8j : Nat := 248
def n_9f : Nat := 249
def n_9w : Nat := 250
def n_2l : Nat := 251
def n_2d : Nat := 252
def n_1k : Nat := 253
def n_18 : Nat := 254
def n_0w : Nat := 255
def n_0t : Nat := 256
def n_2b : Nat := 257
def n_24 : Nat := 258
def n_21 : Nat := 259
def n_04 : Nat := 260
def n_0m1 : Nat := 261
def n_1w : Nat := 262
def n_1v : Nat := 263
def n_0o : Nat := 264
def n_1r : Nat := 265
def n_1e : Nat := 266
def n_1i : Nat := 267
def n_9l : Nat := 268
def n_9o : Nat := 269
def n_9n : Nat := 270
def n_00 : Nat := 271
def n_02 : Nat := 272
def n_01 : Nat := 273
def n_0e : Nat := 274
def n_0f : Nat := 275
def n_0d : Nat := 276
def n_9k : Nat := 277
def n_40 : Nat := 278
def n_3f : Nat := 279
def n_39 : Nat := 280
def n_9g : Nat := 281
def n_9x : Nat := 282
def n_2m : Nat := 283
def n_2e : Nat := 284
def n_9j : Nat := 285
def n_051 : Nat := 286
def n_021 : Nat := 287
def n_2q : Nat := 288
def n_2j : Nat := 289
def n_3j : Nat := 290
def n_9h : Nat := 291
def n_9z : Nat := 292
def n_2n : Nat := 293
def n_2f : Nat := 294
def n_23 : Nat := 295
def n_28 : Nat := 296
def n_27 : Nat := 297
def n_22 : Nat := 298
def n_29 : Nat := 299
def n_25 : Nat := 300
def n_26 : Nat := 301
def n_0k1 : Nat := 302
def n_0i1 : Nat := 303
def n_0l1 : Nat := 304
def n_7v : Nat := 305
def n_0u : Nat := 306
def n_1j : Nat := 307
def n_03 : Nat := 308
def n_07 : Nat := 309
def n_08 : Nat := 310
def n_05 : Nat := 311
def n_0j1 : Nat := 312
def n_0h1 : Nat := 313
def n_3x : Nat := 314
def n_3z : Nat := 315
def n_3h : Nat := 316
def n_3g : Nat := 317
def n_8i : Nat := 318
def n_3a : Nat := 319
def n_38 : Nat := 320
def n_37 : Nat := 321
def n_081 : Nat := 322
def n_2g : Nat := 323
def n_031 : Nat := 324
def n_2a : Nat := 325
def n_3l : Nat := 326
def n_9i : Nat := 327
def n_011 : Nat := 328
def n_2o : Nat := 329
def n_2h : Nat := 330
def n_06 : Nat := 331
def n_0g1 : Nat := 332
def n_0f1 : Nat := 333
def n_44 : Nat := 334
def n_3b : Nat := 335
def n_8h : Nat := 336
def n_3y : Nat := 337
def n_45 : Nat := 338
def n_36 : Nat := 339
def n_8r : Nat := 340
def n_42 : Nat := 341
def n_41 : Nat := 342
def n_8p : Nat := 343
def n_3c : Nat := 344
def n_0a1 : Nat := 345
def n_8s : Nat := 346
def n_091 : Nat := 347
def n_14 : Nat := 348
def n_2p : Nat := 349
def n_2i : Nat := 350
def n_3n : Nat := 351
def n_8o : Nat := 352
def n_8t : Nat := 353
def n_8g : Nat := 354
def n_43 : Nat := 355
def n_3d : Nat := 356
def n_0d1 : Nat := 357
def n_9a : Nat := 358
def n_17 : Nat := 359
def n_3p : Nat := 360
def n_96 : Nat := 361
def n_3o : Nat := 362
def n_8n : Nat := 363
def n_0e1 : Nat := 364
def n_8x : Nat := 365
def n_9c : Nat := 366
def n_8y : Nat := 367
def n_8w : Nat := 368
def n_8u : Nat := 369
def n_8v : Nat := 370
def n_97 : Nat := 371
def n_93 : Nat := 372
def n_15 : Nat := 373
def n_94 : Nat := 374
def n_95 : Nat := 375
def n_3q : Nat := 376
def n_98 : Nat := 377
def n_99 : Nat := 378
def n_91 : Nat := 379
def n_9d : Nat := 380
def n_8z : Nat := 381
def n_90 : Nat := 382
def n_16 : Nat := 383
def n_9b : Nat := 384
def n_92 : Nat := 385
end Go.Proofs.YtoiiphcbkejliaaGreat.Cd

set_option maxRecDepth 100000
set_option linter.defProp false
namespace Go.Proofs.YtoiiphcbkejliaaGreat.Cd
open Go Go.Dx
def c0_4k : C :=
 .seq (.block 1 (.seq (.ops [oA 33 (.fa 4 (.t 5)),oA 34 (.ld (.t 33)),oM 35 8,oA 36 (.ia 2 (.t 34) (.t 35)),oA 37 (.fa 0 (.t 36)),oA 38 (.ld (.t 37)),oA 39 (.call n_4r [(.t 38)]),oA 40 (.un .not (.t 39))]) (.cond (.t 40) (.ops [oA 41 (.fa 4 (.t 5)),oA 42 (.ld (.t 41)),oM 43 8,oA 44 (.ia 2 (.t 42) (.t 43)),oA 45 (.fa 1 (.t 44)),oS (.st (.t 45) (.c (.int .i64 0)))]) (.skip)))) (.ops [oM 31 8,oA 32 (.bin .add (.t 31) (.c (.int .i64 1))),oM 8 32])
def c1_4k : C :=
 .seq (.seq (.ops [oM 26 8,oA 27 (.fa 4 (.t 5)),oA 28 (.ld (.t 27)),oA 29 (.len 1 (.t 28)),oA 30 (.bin .lss (.t 26) (.t 29))]) (.cond (.t 30) (.skip) (.exit 0))) (c0_4k)
def c2_4k : C :=
 .seq (.ops [oM 101 13,oA 102 (.bin .eql (.t 101) (.c (.int .i64 0))),oM 103 102,oT 104 103 (.ldn 5 (.t 12)),oT 105 103 (.ldn 5 (.t 5)),oT 106 103 (.call n_4x [(.t 104),(.t 105)]),oA 107 (.pick (.t 103) (.t 106) (.c (.bool false))),oM 108 107,oT 109 108 (.call n_4s []),oA 110 (.pick (.t 108) (.t 109) (.c (.bool false))),oM 4 110]) (.ret)
def c3_4k : C :=
 .seq (.seq (.ops [oM 91 14,oA 92 (.fa 4 (.t 5)),oA 93 (.ld (.t 92)),oA 94 (.len 1 (.t 93)),oA 95 (.bin .gtr (.t 91) (.t 94))]) (.cond (.t 95) (.seq (.ops [oA 4 (.mov (.c (.bool false)))]) (.ret)) (.skip))) (.seq (.ops [oA 96 (.fa 4 (.t 5)),oA 97 (.ld (.t 96)),oM 98 14,oA 99 (.sl 2 (.t 97) none (some (.t 98)) none),oA 100 (.fa 4 (.t 5)),oS (.st (.t 100) (.t 99))]) (c2_4k))
def c4_4k : C :=
 .seq (.ops [oM 78 6,oM 79 1,oM 80 11,oM 81 6,oA 82 (.len 1 (.t 81)),oA 83 (.call n_4a [(.t 79),(.t 80),(.t 82)]),oA 84 (.sl 1 (.t 78) none (some (.t 83)) none),oA 85 (.call n_85 [(.t 84)]),oM 77 85,oA 86 (.ext (.t 77) 0),oA 87 (.ext (.t 77) 1),oA 12 (.new [(.int .i64 0),(.int .i64 0),(.slice none 0 0),(.slice none 0 0),(.slice none 0 0)]),oS (.stn 5 (.t 12) (.t 86)),oM 13 87]) (.seq (.ops [oA 88 (.fa 4 (.t 12)),oA 89 (.ld (.t 88)),oA 90 (.len 1 (.t 89)),oM 14 90]) (c3_4k))
def c5_4k : C :=
 .seq (.seq (.ops [oM 59 7,oA 60 (.bin .neq (.t 59) (.c (.int .i64 0))),oM 61 60,oF 62 61 (.mov (.t 10)),oF 63 61 (.bin .neq (.t 62) (.c (.int .i64 0))),oA 64 (.pick (.t 61) (.c (.bool true)) (.t 63)),oM 65 64,oF 66 65 (.ldn 5 (.t 9)),oF 67 65 (.ldn 5 (.t 5)),oF 68 65 (.call n_4x [(.t 66),(.t 67)]),oF 69 65 (.un .not (.t 68)),oA 70 (.pick (.t 65) (.c (.bool true)) (.t 69)),oM 71 70,oF 72 71 (.mov (.t 6)),oF 73 71 (.len 1 (.t 72)),oF 74 71 (.mov (.t 11)),oF 75 71 (.bin .lss (.t 73) (.t 74)),oA 76 (.pick (.t 71) (.c (.bool true)) (.t 75))]) (.cond (.t 76) (.seq (.ops [oA 4 (.mov (.c (.bool false)))]) (.ret)) (.skip))) (c4_4k)
def c6_4k : C :=
 .seq (.ops [oA 51 (.fa 2 (.t 5)),oA 52 (.ld (.t 51)),oA 53 (.len 1 (.t 52)),oA 54 (.bin .add (.c (.int .i64 6)) (.t 53)),oA 55 (.fa 3 (.t 5)),oA 56 (.ld (.t 55)),oA 57 (.len 1 (.t 56)),oA 58 (.bin .add (.t 54) (.t 57)),oM 11 58]) (c5_4k)
def c7_4k : C :=
 .seq (.ops [oM 47 6,oA 48 (.call n_85 [(.t 47)]),oM 46 48,oA 49 (.ext (.t 46) 0),oA 50 (.ext (.t 46) 1),oA 9 (.new [(.int .i64 0),(.int .i64 0),(.slice none 0 0),(.slice none 0 0),(.slice none 0 0)]),oS (.stn 5 (.t 9) (.t 49)),oM 10 50]) (c6_4k)
def c8_4k : C :=
 .seq (.ops [oA 22 (.ldn 5 (.t 5)),oA 23 (.call n_87 [(.t 22)]),oM 21 23,oA 24 (.ext (.t 21) 0),oA 25 (.ext (.t 21) 1),oM 6 24,oM 7 25]) (.seq (.seq (.ops [oA 8 (.mov (.c (.int .i64 0)))]) (.block 0 (.loop c1_4k))) (c7_4k))
def c9_4k : C :=
 .seq (.ops [oA 15 (.ldn 6 (.t 2)),oA 16 (.call n_4t [(.t 15)]),oA 5 (.new [(.int .i64 0),(.int .i64 0),(.slice none 0 0),(.slice none 0 0),(.slice none 0 0)]),oS (.stn 5 (.t 5) (.t 16))]) (.seq (.seq (.ops [oA 17 (.ldn 5 (.t 5)),oA 18 (.call n_4w [(.t 17)]),oA 19 (.bin .neq (.t 18) (.c (.int .i64 0)))]) (.cond (.t 19) (.seq (.ops [oA 20 (.call n_4s []),oM 4 20]) (.ret)) (.skip))) (c8_4k))
def c_4k : C :=
 .seq (.ops [oA 2 (.box (.t 0)),oA 4 (.mov (.c (.bool false)))]) (c9_4k)
def f_4k : F := ⟨c_4k, [.t 4], some []⟩
theorem h_4k : compF Tryz.prog (compAny Tryz.prog) n_4k = some (f_4k.body, f_4k.res) := by kernel_rfl
def c0_87 : C :=
 .seq (.ops [oA 25 (.fa 0 (.t 1)),oA 26 (.ld (.t 25)),oA 27 (.bin .lss (.t 26) (.c (.int .i64 0))),oM 28 27,oF 29 28 (.fa 0 (.t 1)),oF 30 28 (.ld (.t 29)),oF 31 28 (.bin .gtr (.t 30) (.c (.int .i64 255))),oA 32 (.pick (.t 28) (.c (.bool true)) (.t 31)),oM 33 32,oF 34 33 (.fa 1 (.t 1)),oF 35 33 (.ld (.t 34)),oF 36 33 (.bin .lss (.t 35) (.c (.int .i64 0))),oA 37 (.pick (.t 33) (.c (.bool true)) (.t 36)),oM 38 37,oF 39 38 (.fa 1 (.t 1)),oF 40 38 (.ld (.t 39)),oF 41 38 (.bin .gtr (.t 40) (.c (.int .i64 255))),oA 42 (.pick (.t 38) (.c (.bool true)) (.t 41)),oM 24 42]) (.cond (.t 24) (.seq (.ops [oA 2 (.mov (.c (.slice none 0 0))),oA 3 (.mov (.c (.int .i64 1)))]) (.ret)) (.skip))
def c1_87 : C :=
 .ops [oM 75 4,oA 76 (.fa 1 (.t 6)),oA 77 (.ld (.t 76)),oA 78 (.bin .shr (.t 77) (.c (.int .u64 8))),oA 79 (.conv .u8 (.t 78)),oA 80 (.fa 1 (.t 6)),oA 81 (.ld (.t 80)),oA 82 (.conv .u8 (.t 81)),oA 83 (.bsl 2 [(.int .u8 0),(.int .u8 0)] [(0,1,(.t 79)),(1,1,(.t 82))]),oA 84 (.app 1 1 (.t 75) (.t 83)),oM 4 84]
def c2_87 : C :=
 .seq (.ops [oM 66 4,oA 67 (.fa 0 (.t 6)),oA 68 (.ld (.t 67)),oA 69 (.conv .u8 (.t 68)),oA 70 (.bsl 1 [(.int .u8 0)] [(0,1,(.t 69))]),oA 71 (.app 1 1 (.t 66) (.t 70)),oM 4 71]) (.seq (.ops [oA 72 (.fa 0 (.t 6)),oA 73 (.ld (.t 72)),oA 74 (.call n_88 [(.t 73)])]) (.cond (.t 74) (c1_87) (.skip)))
def c3_87 : C :=
 .seq (.block 2 (.seq (.ops [oA 61 (.ia 2 (.t 57) (.t 59)),oA 62 (.ldn 2 (.t 61)),oA 6 (.new [(.int .i64 0),(.int .i64 0)]),oS (.stn 2 (.t 6) (.t 62))]) (.seq (.seq (.ops [oA 63 (.ldn 2 (.t 6)),oA 64 (.call n_8b [(.t 63)]),oA 65 (.un .not (.t 64))]) (.cond (.t 65) (.seq (.ops [oA 2 (.mov (.c (.slice none 0 0))),oA 3 (.mov (.c (.int .i64 1)))]) (.ret)) (.skip))) (c2_87)))) (.ops [oA 85 (.bin .add (.t 59) (.c (.int .i64 1))),oM 59 85])
def c4_87 : C :=
 .seq (.ops [oA 60 (.bin .lss (.t 59) (.t 58))]) (.seq (.cond (.t 60) (.skip) (.exit 1)) (c3_87))
def c5_87 : C :=
 .seq (.seq (.ops [oA 56 (.fa 4 (.t 1)),oA 57 (.ld (.t 56)),oA 58 (.len 1 (.t 57)),oA 59 (.mov (.c (.int .i64 0)))]) (.block 1 (.loop c4_87))) (.seq (.ops [oM 86 4,oM 2 86,oA 3 (.mov (.c (.int .i64 0)))]) (.ret))
def c6_87 : C :=
 .seq (.any 1 [.op 0 (oA 43 (.fa 0 (.t 1))),.op 1 (oA 44 (.ld (.t 43))),.op 3 (oA 46 (.fa 1 (.t 1))),.op 4 (oA 47 (.ld (.t 46))),.op 7 (oA 50 (.fa 2 (.t 1))),.op 8 (oA 51 (.ld (.t 50))),.op 10 (oA 53 (.fa 3 (.t 1))),.op 11 (oA 54 (.ld (.t 53))),.op 2 (oA 45 (.conv .u8 (.t 44))),.op 5 (oA 48 (.conv .u8 (.t 47))),.al 6 0 (oA 49 (.bsl 2 [(.int .u8 0),(.int .u8 0)] [(0,1,(.t 45)),(1,1,(.t 48))])),.op 9 (oA 52 (.call n_8c [(.t 49),(.t 51)])),.re 11 (oA 54 (.ld (.t 53))),.op 12 (oA 55 (.call n_8c [(.t 52),(.t 54)])),.op 13 (oM 4 55)]) (c5_87)
def c7_87 : C :=
 .seq (.block 0 (.seq (.ops [oA 8 (.fa 4 (.t 1)),oA 9 (.ld (.t 8)),oA 10 (.len 1 (.t 9)),oA 11 (.bin .gtr (.t 10) (.c (.int .i64 256))),oM 12 11,oF 13 12 (.fa 2 (.t 1)),oF 14 12 (.ld (.t 13)),oF 15 12 (.len 1 (.t 14)),oF 16 12 (.bin .gtr (.t 15) (.c (.int .i64 65535))),oA 17 (.pick (.t 12) (.c (.bool true)) (.t 16)),oM 18 17,oF 19 18 (.fa 3 (.t 1)),oF 20 18 (.ld (.t 19)),oF 21 18 (.len 1 (.t 20)),oF 22 18 (.bin .gtr (.t 21) (.c (.int .i64 4096))),oA 23 (.pick (.t 18) (.c (.bool true)) (.t 22)),oM 7 23]) (.cond (.t 7) (.seq (.ops [oA 2 (.mov (.c (.slice none 0 0))),oA 3 (.mov (.c (.int .i64 3)))]) (.ret)) (c0_87)))) (c6_87)
def c_87 : C :=
 .seq (.ops [oA 1 (.box (.t 0)),oA 2 (.mov (.c (.slice none 0 0))),oA 3 (.mov (.c (.int .i64 0)))]) (c7_87)
def f_87 : F := ⟨c_87, [.t 2, .t 3], some []⟩
theorem h_87 : compF Tryz.prog (compAny Tryz.prog) n_87 = some (f_87.body, f_87.res) := by kernel_rfl
end Go.Proofs.YtoiiphcbkejliaaGreat.Cd

set_option maxRecDepth 100000
set_option linter.defProp false
namespace Go.Proofs.YtoiiphcbkejliaaGreat.Cd
open Go Go.Dx
def c0_4w : C :=
 .seq (.ops [oA 51 (.fa 0 (.t 4)),oA 52 (.ld (.t 51)),oA 53 (.bin .lss (.t 52) (.c (.int .i64 1))),oM 54 53,oF 55 54 (.fa 0 (.t 4)),oF 56 54 (.ld (.t 55)),oF 57 54 (.bin .gtr (.t 56) (.c (.int .i64 5))),oA 58 (.pick (.t 54) (.c (.bool true)) (.t 57)),oM 59 58,oF 60 59 (.fa 0 (.t 4)),oF 61 59 (.ld (.t 60)),oF 62 59 (.call n_4r [(.t 61)]),oF 63 59 (.mov (.t 62)),oT 64 63 (.fa 1 (.t 4)),oT 65 63 (.ld (.t 64)),oT 66 63 (.bin .lss (.t 65) (.c (.int .i64 0))),oT 67 63 (.mov (.t 66)),oF 68 67 (.fa 1 (.t 4)),oF 69 67 (.ld (.t 68)),oF 70 67 (.bin .gtr (.t 69) (.c (.int .i64 65535))),oT 71 63 (.pick (.t 67) (.c (.bool true)) (.t 70)),oF 72 59 (.pick (.t 63) (.t 71) (.c (.bool false))),oA 73 (.pick (.t 59) (.c (.bool true)) (.t 72))]) (.cond (.t 73) (.seq (.ops [oA 2 (.mov (.c (.int .i64 1)))]) (.ret)) (.skip))
def c1_4w : C :=
 .seq (.block 1 (.seq (.ops [oA 46 (.fa 4 (.t 1)),oA 47 (.ld (.t 46)),oM 48 3,oA 49 (.ia 2 (.t 47) (.t 48)),oA 50 (.ldn 2 (.t 49)),oA 4 (.new [(.int .i64 0),(.int .i64 0)]),oS (.stn 2 (.t 4) (.t 50))]) (c0_4w))) (.ops [oM 44 3,oA 45 (.bin .add (.t 44) (.c (.int .i64 1))),oM 3 45])
def c2_4w : C :=
 .seq (.seq (.ops [oM 39 3,oA 40 (.fa 4 (.t 1)),oA 41 (.ld (.t 40)),oA 42 (.len 1 (.t 41)),oA 43 (.bin .lss (.t 39) (.t 42))]) (.cond (.t 43) (.skip) (.exit 0))) (c1_4w)
def c3_4w : C :=
 .seq (.seq (.ops [oA 21 (.fa 0 (.t 1)),oA 22 (.ld (.t 21)),oA 23 (.bin .lss (.t 22) (.c (.int .i64 0))),oM 24 23,oF 25 24 (.fa 0 (.t 1)),oF 26 24 (.ld (.t 25)),oF 27 24 (.bin .gtr (.t 26) (.c (.int .i64 255))),oA 28 (.pick (.t 24) (.c (.bool true)) (.t 27)),oM 29 28,oF 30 29 (.fa 1 (.t 1)),oF 31 29 (.ld (.t 30)),oF 32 29 (.bin .lss (.t 31) (.c (.int .i64 0))),oA 33 (.pick (.t 29) (.c (.bool true)) (.t 32)),oM 34 33,oF 35 34 (.fa 1 (.t 1)),oF 36 34 (.ld (.t 35)),oF 37 34 (.bin .gtr (.t 36) (.c (.int .i64 255))),oA 38 (.pick (.t 34) (.c (.bool true)) (.t 37))]) (.cond (.t 38) (.seq (.ops [oA 2 (.mov (.c (.int .i64 1)))]) (.ret)) (.skip))) (.seq (.seq (.ops [oA 3 (.mov (.c (.int .i64 0)))]) (.block 0 (.loop c2_4w))) (.seq (.ops [oA 2 (.mov (.c (.int .i64 0)))]) (.ret)))
def c4_4w : C :=
 .seq (.seq (.ops [oA 5 (.fa 4 (.t 1)),oA 6 (.ld (.t 5)),oA 7 (.len 1 (.t 6)),oA 8 (.bin .gtr (.t 7) (.c (.int .i64 256))),oM 9 8,oF 10 9 (.fa 2 (.t 1)),oF 11 9 (.ld (.t 10)),oF 12 9 (.len 1 (.t 11)),oF 13 9 (.bin .gtr (.t 12) (.c (.int .i64 65535))),oA 14 (.pick (.t 9) (.c (.bool true)) (.t 13)),oM 15 14,oF 16 15 (.fa 3 (.t 1)),oF 17 15 (.ld (.t 16)),oF 18 15 (.len 1 (.t 17)),oF 19 15 (.bin .gtr (.t 18) (.c (.int .i64 4096))),oA 20 (.pick (.t 15) (.c (.bool true)) (.t 19))]) (.cond (.t 20) (.seq (.ops [oA 2 (.mov (.c (.int .i64 3)))]) (.ret)) (.skip))) (c3_4w)
def c_4w : C :=
 .seq (.ops [oA 1 (.box (.t 0)),oA 2 (.mov (.c (.int .i64 0)))]) (c4_4w)
def f_4w : F := ⟨c_4w, [.t 2], some []⟩
theorem h_4w : compF Tryz.prog (compAny Tryz.prog) n_4w = some (f_4w.body, f_4w.res) := by kernel_rfl
def c0_86 : C :=
 .seq (.ops [oM 22 4,oA 23 (.build [(.int .u32 0),(.int .u32 0),(.int .u32 0),(.int .u32 0),(.int .u32 0),(.int .u32 0),(.int .u32 0),(.int .u32 0),(.int .u32 0),(.int .u32 0),(.int .u32 0),(.int .u32 0),(.int .u32 0),(.int .u32 0),(.int .u32 0),(.int .u32 0),(.int .u32 0),(.int .u32 0),(.int .u32 0),(.int .u32 0),(.int .u32 0),(.int .u32 0),(.int .u32 0),(.int .u32 0),(.int .u32 0),(.int .u32 0),(.int .u32 0),(.int .u32 0),(.int .u32 0),(.int .u32 0),(.int .u32 0),(.int .u32 0),(.int .u32 0),(.int .u32 0),(.int .u32 0),(.int .u32 0),(.bool false),(.bool false),(.int .u32 0),(.int .u32 0),(.int .u32 0),(.int .u32 0),(.int .u32 0),(.int .u32 0),(.int .u32 0),(.int .u32 0),(.int .u32 0),(.int .u32 0),(.int .u32 0),(.int .u32 0),(.int .u32 0),(.int .u32 0),(.int .u32 0),(.int .u32 0),(.int .u32 0),(.int .u32 0),(.int .u32 0),(.int .u32 0),(.int .u32 0),(.int .u32 0),(.int .u32 0),(.int .u32 0),(.int .u32 0),(.int .u32 0),(.int .u32 0),(.int .u32 0),(.int .u32 0),(.int .u32 0),(.int .u32 0),(.int .u32 0),(.int .u32 0),(.bool false),(.int .i64 0),(.slice none 0 0),(.bool false),(.int .i64 0)] [(75,1,(.t 22))]),oS (.stn 76 (.t 2) (.t 23))]) (.ret)
def c1_86 : C :=
 .seq (.block 1 (.seq (.ops [oA 34 (.ia 2 (.t 30) (.t 32)),oA 35 (.ldn 2 (.t 34)),oA 7 (.new [(.int .i64 0),(.int .i64 0)]),oS (.stn 2 (.t 7) (.t 35))]) (.ops [oM 36 3,oA 37 (.ldn 2 (.t 7)),oA 38 (.call n_9q [(.t 36),(.t 37)]),oM 39 38,oT 40 39 (.mov (.t 5)),oA 41 (.pick (.t 39) (.t 40) (.c (.bool false))),oM 5 41]))) (.ops [oA 42 (.bin .add (.t 32) (.c (.int .i64 1))),oM 32 42])
def c2_86 : C :=
 .seq (.ops [oA 33 (.bin .lss (.t 32) (.t 31))]) (.seq (.cond (.t 33) (.skip) (.exit 0)) (c1_86))
def c3_86 : C :=
 .seq (.ops [oM 43 3,oA 44 (.call n_9r [(.t 43)]),oA 45 (.call n_2x [(.t 44)]),oM 46 3,oA 47 (.call n_9r [(.t 46)]),oA 48 (.call n_2s [(.t 47)]),oA 49 (.call n_0l [(.t 48)]),oM 50 5,oA 51 (.build [(.int .u32 0),(.int .u32 0),(.int .u32 0),(.int .u32 0),(.int .u32 0),(.int .u32 0),(.int .u32 0),(.int .u32 0),(.int .u32 0),(.int .u32 0),(.int .u32 0),(.int .u32 0),(.int .u32 0),(.int .u32 0),(.int .u32 0),(.int .u32 0),(.int .u32 0),(.int .u32 0),(.int .u32 0),(.int .u32 0),(.int .u32 0),(.int .u32 0),(.int .u32 0),(.int .u32 0),(.int .u32 0),(.int .u32 0),(.int .u32 0),(.int .u32 0),(.int .u32 0),(.int .u32 0),(.int .u32 0),(.int .u32 0),(.int .u32 0),(.int .u32 0),(.int .u32 0),(.int .u32 0),(.bool false),(.bool false),(.int .u32 0),(.int .u32 0),(.int .u32 0),(.int .u32 0),(.int .u32 0),(.int .u32 0),(.int .u32 0),(.int .u32 0),(.int .u32 0),(.int .u32 0),(.int .u32 0),(.int .u32 0),(.int .u32 0),(.int .u32 0),(.int .u32 0),(.int .u32 0),(.int .u32 0),(.int .u32 0),(.int .u32 0),(.int .u32 0),(.int .u32 0),(.int .u32 0),(.int .u32 0),(.int .u32 0),(.int .u32 0),(.int .u32 0),(.int .u32 0),(.int .u32 0),(.int .u32 0),(.int .u32 0),(.int .u32 0),(.int .u32 0),(.int .u32 0),(.bool false),(.int .i64 0),(.slice none 0 0),(.bool false),(.int .i64 0)] [(0,73,(.t 45)),(73,1,(.t 49)),(74,1,(.t 50))]),oS (.stn 76 (.t 2) (.t 51))]) (.ret)
def c4_86 : C :=
 .seq (.seq (.ops [oA 24 (.fa 4 (.t 1)),oA 25 (.ld (.t 24)),oA 26 (.fa 4 (.t 1)),oA 27 (.ld (.t 26)),oA 28 (.len 1 (.t 27)),oA 29 (.mn (.t 28) (.c (.int .i64 256))),oA 30 (.sl 2 (.t 25) none (some (.t 29)) none),oA 31 (.len 1 (.t 30)),oA 32 (.mov (.c (.int .i64 0)))]) (.block 0 (.loop c2_86))) (c3_86)
def c5_86 : C :=
 .seq (.ops [oA 9 (.fa 0 (.t 1)),oA 10 (.ld (.t 9)),oA 11 (.fa 2 (.t 1)),oA 12 (.ld (.t 11)),oA 13 (.fa 3 (.t 1)),oA 14 (.ld (.t 13)),oA 15 (.fa 1 (.t 1)),oA 16 (.ld (.t 15)),oA 17 (.call n_9p [(.t 10),(.t 12),(.t 14),(.t 16)]),oM 8 17,oA 18 (.ext (.t 8) 0),oA 19 (.ext (.t 8) 1),oM 3 18,oM 4 19]) (.seq (.seq (.ops [oM 20 4,oA 21 (.bin .neq (.t 20) (.c (.int .i64 0)))]) (.cond (.t 21) (c0_86) (.skip))) (.seq (.ops [oA 5 (.mov (.c (.bool true)))]) (c4_86)))
def c_86 : C :=
 .seq (.ops [oA 1 (.box (.t 0)),oA 2 (.new [(.int .u32 0),(.int .u32 0),(.int .u32 0),(.int .u32 0),(.int .u32 0),(.int .u32 0),(.int .u32 0),(.int .u32 0),(.int .u32 0),(.int .u32 0),(.int .u32 0),(.int .u32 0),(.int .u32 0),(.int .u32 0),(.int .u32 0),(.int .u32 0),(.int .u32 0),(.int .u32 0),(.int .u32 0),(.int .u32 0),(.int .u32 0),(.int .u32 0),(.int .u32 0),(.int .u32 0),(.int .u32 0),(.int .u32 0),(.int .u32 0),(.int .u32 0),(.int .u32 0),(.int .u32 0),(.int .u32 0),(.int .u32 0),(.int .u32 0),(.int .u32 0),(.int .u32 0),(.int .u32 0),(.bool false),(.bool false),(.int .u32 0),(.int .u32 0),(.int .u32 0),(.int .u32 0),(.int .u32 0),(.int .u32 0),(.int .u32 0),(.int .u32 0),(.int .u32 0),(.int .u32 0),(.int .u32 0),(.int .u32 0),(.int .u32 0),(.int .u32 0),(.int .u32 0),(.int .u32 0),(.int .u32 0),(.int .u32 0),(.int .u32 0),(.int .u32 0),(.int .u32 0),(.int .u32 0),(.int .u32 0),(.int .u32 0),(.int .u32 0),(.int .u32 0),(.int .u32 0),(.int .u32 0),(.int .u32 0),(.int .u32 0),(.int .u32 0),(.int .u32 0),(.int .u32 0),(.bool false),(.int .i64 0),(.slice none 0 0),(.bool false),(.int .i64 0)])]) (c5_86)
def f_86 : F := ⟨c_86, [.ldn 76 2], some []⟩
theorem h_86 : compF Tryz.prog (compAny Tryz.prog) n_86 = some (f_86.body, f_86.res) := by kernel_rfl
def c0_4s : C :=
 .seq (.ops [oM 18 3,oA 19 (.bin .eql (.t 18) (.c (.int .i64 0))),oM 20 19,oT 21 20 (.mov (.t 2)),oT 22 20 (.b2s (.t 21)),⟨some 23,some (20,true),.bin .eql (.t 22) (.c (.string ⟨#[2,3,0,0,0,0,1,0,5,3]⟩))⟩,oA 24 (.pick (.t 20) (.t 23) (.c (.bool false))),oM 25 24,oT 26 25 (.fa 75 (.t 4)),oT 27 25 (.ld (.t 26)),oT 28 25 (.bin .eql (.t 27) (.c (.int .i64 0))),oA 29 (.pick (.t 25) (.t 28) (.c (.bool false))),oM 30 29,oT 31 30 (.fa 74 (.t 4)),oT 32 30 (.ld (.t 31)),oA 33 (.pick (.t 30) (.t 32) (.c (.bool false))),oM 34 33,oT 35 34 (.fa 0 (.t 4)),oT 36 34 (.fa 72 (.t 35)),oT 37 34 (.ld (.t 36)),oT 38 34 (.bin .eql (.t 37) (.c (.int .i64 5))),oA 39 (.pick (.t 34) (.t 38) (.c (.bool false))),oM 40 39,oT 41 40 (.fa 75 (.t 5)),oT 42 40 (.ld (.t 41)),oT 43 40 (.bin .eql (.t 42) (.c (.int .i64 12))),oA 44 (.pick (.t 40) (.t 43) (.c (.bool false))),oM 0 44]) (.ret)
def c1_4s : C :=
 .seq (.ops [oA 17 (.call n_84 [(.c (.slice none 0 0))]),oA 5 (.new [(.int .u32 0),(.int .u32 0),(.int .u32 0),(.int .u32 0),(.int .u32 0),(.int .u32 0),(.int .u32 0),(.int .u32 0),(.int .u32 0),(.int .u32 0),(.int .u32 0),(.int .u32 0),(.int .u32 0),(.int .u32 0),(.int .u32 0),(.int .u32 0),(.int .u32 0),(.int .u32 0),(.int .u32 0),(.int .u32 0),(.int .u32 0),(.int .u32 0),(.int .u32 0),(.int .u32 0),(.int .u32 0),(.int .u32 0),(.int .u32 0),(.int .u32 0),(.int .u32 0),(.int .u32 0),(.int .u32 0),(.int .u32 0),(.int .u32 0),(.int .u32 0),(.int .u32 0),(.int .u32 0),(.bool false),(.bool false),(.int .u32 0),(.int .u32 0),(.int .u32 0),(.int .u32 0),(.int .u32 0),(.int .u32 0),(.int .u32 0),(.int .u32 0),(.int .u32 0),(.int .u32 0),(.int .u32 0),(.int .u32 0),(.int .u32 0),(.int .u32 0),(.int .u32 0),(.int .u32 0),(.int .u32 0),(.int .u32 0),(.int .u32 0),(.int .u32 0),(.int .u32 0),(.int .u32 0),(.int .u32 0),(.int .u32 0),(.int .u32 0),(.int .u32 0),(.int .u32 0),(.int .u32 0),(.int .u32 0),(.int .u32 0),(.int .u32 0),(.int .u32 0),(.int .u32 0),(.bool false),(.int .i64 0),(.slice none 0 0),(.bool false),(.int .i64 0)]),oS (.stn 76 (.t 5) (.t 17))]) (c0_4s)
def c2_4s : C :=
 .seq (.ops [oM 15 2,oA 16 (.call n_84 [(.t 15)]),oA 4 (.new [(.int .u32 0),(.int .u32 0),(.int .u32 0),(.int .u32 0),(.int .u32 0),(.int .u32 0),(.int .u32 0),(.int .u32 0),(.int .u32 0),(.int .u32 0),(.int .u32 0),(.int .u32 0),(.int .u32 0),(.int .u32 0),(.int .u32 0),(.int .u32 0),(.int .u32 0),(.int .u32 0),(.int .u32 0),(.int .u32 0),(.int .u32 0),(.int .u32 0),(.int .u32 0),(.int .u32 0),(.int .u32 0),(.int .u32 0),(.int .u32 0),(.int .u32 0),(.int .u32 0),(.int .u32 0),(.int .u32 0),(.int .u32 0),(.int .u32 0),(.int .u32 0),(.int .u32 0),(.int .u32 0),(.bool false),(.bool false),(.int .u32 0),(.int .u32 0),(.int .u32 0),(.int .u32 0),(.int .u32 0),(.int .u32 0),(.int .u32 0),(.int .u32 0),(.int .u32 0),(.int .u32 0),(.int .u32 0),(.int .u32 0),(.int .u32 0),(.int .u32 0),(.int .u32 0),(.int .u32 0),(.int .u32 0),(.int .u32 0),(.int .u32 0),(.int .u32 0),(.int .u32 0),(.int .u32 0),(.int .u32 0),(.int .u32 0),(.int .u32 0),(.int .u32 0),(.int .u32 0),(.int .u32 0),(.int .u32 0),(.int .u32 0),(.int .u32 0),(.int .u32 0),(.int .u32 0),(.bool false),(.int .i64 0),(.slice none 0 0),(.bool false),(.int .i64 0)]),oS (.stn 76 (.t 4) (.t 16))]) (c1_4s)
def c3_4s : C :=
 .seq (.ops [oA 6 (.build [(.int .i64 0),(.int .i64 0)] [(0,1,(.c (.int .i64 1))),(1,1,(.c (.int .i64 5)))]),oA 7 (.build [(.int .i64 0),(.int .i64 0)] [(0,1,(.c (.int .i64 3)))]),oA 8 (.bsl 2 [(.int .i64 0),(.int .i64 0),(.int .i64 0),(.int .i64 0)] [(0,2,(.t 6)),(2,2,(.t 7))]),oA 9 (.build [(.int .i64 0),(.int .i64 0),(.slice none 0 0),(.slice none 0 0),(.slice none 0 0)] [(0,1,(.c (.int .i64 2))),(1,1,(.c (.int .i64 3))),(4,1,(.t 8))]),oA 1 (.new [(.int .i64 0),(.int .i64 0),(.slice none 0 0),(.slice none 0 0),(.slice none 0 0)]),oS (.stn 5 (.t 1) (.t 9))]) (.seq (.ops [oA 11 (.ldn 5 (.t 1)),oA 12 (.call n_87 [(.t 11)]),oM 10 12,oA 13 (.ext (.t 10) 0),oA 14 (.ext (.t 10) 1),oM 2 13,oM 3 14]) (c2_4s))
def c_4s : C :=
 .seq (.ops [oA 0 (.mov (.c (.bool false)))]) (c3_4s)
def f_4s : F := ⟨c_4s, [.t 0], some []⟩
theorem h_4s : compF Tryz.prog (compAny Tryz.prog) n_4s = some (f_4s.body, f_4s.res) := by kernel_rfl
def c0_4t : C :=
 .any 0 [.op 0 (oA 26 (.fa 0 (.t 1))),.op 1 (oA 27 (.ld (.t 26))),.op 3 (oA 29 (.fa 1 (.t 1))),.op 4 (oA 30 (.ld (.t 29))),.op 2 (oA 28 (.call n_4a [(.t 27),(.c (.int .i64 3)),(.c (.int .i64 5))])),.re 4 (oA 30 (.ld (.t 29))),.op 5 (oA 31 (.call n_4a [(.t 30),(.c (.int .i64 1)),(.c (.int .i64 20))])),.op 6 (oA 32 (.fa 0 (.t 3))),.op 7 (oS (.st (.t 32) (.t 28))),.op 8 (oA 33 (.fa 1 (.t 3))),.op 9 (oS (.st (.t 33) (.t 31)))]
def c1_4t : C :=
 .ops [oA 38 (.fa 2 (.t 3)),oA 39 (.ld (.t 38)),oA 40 (.fa 2 (.t 1)),oA 41 (.ld (.t 40)),oA 42 (.len 1 (.t 41)),oA 43 (.mn (.t 42) (.c (.int .i64 400))),oA 44 (.bin .mul (.t 43) (.c (.int .i64 7))),oA 45 (.sl 1 (.t 39) none (some (.t 44)) none),oA 46 (.fa 2 (.t 3)),oS (.st (.t 46) (.t 45))]
def c2_4t : C :=
 .any 0 [.op 0 (oA 65 (.fa 0 (.t 5))),.op 1 (oA 66 (.ld (.t 65))),.op 5 (oA 70 (.fa 1 (.t 5))),.op 6 (oA 71 (.ld (.t 70))),.op 2 (oA 67 (.call n_4a [(.t 66),(.c (.int .i64 0)),(.c (.int .i64 1048576))])),.re 6 (oA 71 (.ld (.t 70))),.op 7 (oA 72 (.call n_4a [(.t 71),(.c (.int .i64 0)),(.c (.int .i64 150))])),.op 3 (oA 68 (.bin .rem (.t 67) (.c (.int .i64 5)))),.op 4 (oA 69 (.bin .add (.c (.int .i64 1)) (.t 68))),.op 8 (oA 73 (.build [(.int .i64 0),(.int .i64 0)] [(0,1,(.t 69)),(1,1,(.t 72))])),.op 9 (oS (.stn 2 (.t 5) (.t 73)))]
def c3_4t : C :=
 .seq (.seq (.ops [oA 63 (.fa 5 (.t 1)),oA 64 (.ld (.t 63))]) (.cond (.t 64) (c2_4t) (.skip))) (.ops [oA 74 (.fa 4 (.t 3)),oA 75 (.ld (.t 74)),oA 76 (.ldn 2 (.t 5)),oA 77 (.bsl 1 [(.int .i64 0),(.int .i64 0)] [(0,2,(.t 76))]),oA 78 (.app 2 16 (.t 75) (.t 77)),oA 79 (.fa 4 (.t 3)),oS (.st (.t 79) (.t 78))])
def c4_4t : C :=
 .seq (.block 1 (.seq (.ops [oA 58 (.fa 4 (.t 1)),oA 59 (.ld (.t 58)),oM 60 4,oA 61 (.ia 2 (.t 59) (.t 60)),oA 62 (.ldn 2 (.t 61)),oA 5 (.new [(.int .i64 0),(.int .i64 0)]),oS (.stn 2 (.t 5) (.t 62))]) (c3_4t))) (.ops [oM 56 4,oA 57 (.bin .add (.t 56) (.c (.int .i64 1))),oM 4 57])
def c5_4t : C :=
 .seq (.seq (.ops [oM 47 4,oA 48 (.fa 4 (.t 1)),oA 49 (.ld (.t 48)),oA 50 (.len 1 (.t 49)),oA 51 (.bin .lss (.t 47) (.t 50)),oM 52 51,oT 53 52 (.mov (.t 4)),oT 54 52 (.bin .lss (.t 53) (.c (.int .i64 30))),oA 55 (.pick (.t 52) (.t 54) (.c (.bool false)))]) (.cond (.t 55) (.skip) (.exit 0))) (c4_4t)
def c6_4t : C :=
 .seq (.seq (.ops [oA 24 (.fa 5 (.t 1)),oA 25 (.ld (.t 24))]) (.cond (.t 25) (c0_4t) (.seq (.ops [oA 34 (.fa 2 (.t 1)),oA 35 (.ld (.t 34)),oA 36 (.len 1 (.t 35)),oA 37 (.bin .gtr (.t 36) (.c (.int .i64 3)))]) (.cond (.t 37) (c1_4t) (.skip))))) (.seq (.seq (.ops [oA 4 (.mov (.c (.int .i64 0)))]) (.block 0 (.loop c5_4t))) (.seq (.ops [oA 80 (.ldn 5 (.t 3)),oS (.stn 5 (.t 2) (.t 80))]) (.ret)))
def c7_4t : C :=
 .seq (.seq (.ops [oA 16 (.fa 3 (.t 3)),oA 17 (.ld (.t 16)),oA 18 (.len 1 (.t 17)),oA 19 (.bin .gtr (.t 18) (.c (.int .i64 150)))]) (.cond (.t 19) (.ops [oA 20 (.fa 3 (.t 3)),oA 21 (.ld (.t 20)),oA 22 (.sl 1 (.t 21) none (some (.c (.int .i64 150))) none),oA 23 (.fa 3 (.t 3)),oS (.st (.t 23) (.t 22))]) (.skip))) (c6_4t)
def c8_4t : C :=
 .seq (.any 1 [.op 0 (oA 6 (.fa 0 (.t 1))),.op 1 (oA 7 (.ld (.t 6))),.op 2 (oA 8 (.fa 1 (.t 1))),.op 3 (oA 9 (.ld (.t 8))),.op 4 (oA 10 (.fa 3 (.t 1))),.op 5 (oA 11 (.ld (.t 10))),.op 6 (oA 12 (.fa 2 (.t 1))),.op 7 (oA 13 (.ld (.t 12))),.op 8 (oA 14 (.call n_4d [(.t 13),(.c (.int .i64 3))])),.re 1 (oA 7 (.ld (.t 6))),.re 3 (oA 9 (.ld (.t 8))),.re 5 (oA 11 (.ld (.t 10))),.op 9 (oA 15 (.build [(.int .i64 0),(.int .i64 0),(.slice none 0 0),(.slice none 0 0),(.slice none 0 0)] [(0,1,(.t 7)),(1,1,(.t 9)),(3,1,(.t 11)),(2,1,(.t 14))])),.al 10 0 (oA 3 (.new [(.int .i64 0),(.int .i64 0),(.slice none 0 0),(.slice none 0 0),(.slice none 0 0)])),.op 11 (oS (.stn 5 (.t 3) (.t 15)))]) (c7_4t)
def c_4t : C :=
 .seq (.ops [oA 1 (.box (.t 0)),oA 2 (.new [(.int .i64 0),(.int .i64 0),(.slice none 0 0),(.slice none 0 0),(.slice none 0 0)])]) (c8_4t)
def f_4t : F := ⟨c_4t, [.ldn 5 2], some []⟩
theorem h_4t : compF Tryz.prog (compAny Tryz.prog) n_4t = some (f_4t.body, f_4t.res) := by kernel_rfl
def c0_4a : C :=
 .seq (.seq (.ops [oM 22 0,oA 23 (.bin .lss (.t 22) (.c (.int .i64 0)))]) (.cond (.t 23) (.ops [oM 24 0,oM 25 2,oA 26 (.bin .add (.t 24) (.t 25)),oM 27 1,oA 28 (.bin .sub (.t 26) (.t 27)),oA 29 (.bin .add (.t 28) (.c (.int .i64 1))),oM 0 29]) (.skip))) (.seq (.ops [oM 30 1,oM 31 0,oA 32 (.bin .add (.t 30) (.t 31)),oM 6 32]) (.ret))
def c1_4a : C :=
 .seq (.seq (.ops [oM 7 0,oM 8 1,oA 9 (.bin .geq (.t 7) (.t 8)),oM 10 9,oT 11 10 (.mov (.t 0)),oT 12 10 (.mov (.t 2)),oT 13 10 (.bin .leq (.t 11) (.t 12)),oA 14 (.pick (.t 10) (.t 13) (.c (.bool false)))]) (.cond (.t 14) (.seq (.ops [oM 15 0,oM 6 15]) (.ret)) (.skip))) (.seq (.ops [oM 16 0,oM 17 2,oM 18 1,oA 19 (.bin .sub (.t 17) (.t 18)),oA 20 (.bin .add (.t 19) (.c (.int .i64 1))),oA 21 (.bin .rem (.t 16) (.t 20)),oM 0 21]) (c0_4a))
def c_4a : C :=
 .seq (.ops [oA 6 (.mov (.c (.int .i64 0)))]) (c1_4a)
def f_4a : F := ⟨c_4a, [.t 6], some []⟩
theorem h_4a : compF Tryz.prog (compAny Tryz.prog) n_4a = some (f_4a.body, f_4a.res) := by kernel_rfl
def c0_4r : C :=
 .seq (.ops [oM 3 0,oA 4 (.bin .eql (.t 3) (.c (.int .i64 1))),oM 5 4,oF 6 5 (.mov (.t 0)),oF 7 5 (.bin .eql (.t 6) (.c (.int .i64 2))),oA 8 (.pick (.t 5) (.c (.bool true)) (.t 7)),oM 9 8,oF 10 9 (.mov (.t 0)),oF 11 9 (.bin .eql (.t 10) (.c (.int .i64 5))),oA 12 (.pick (.t 9) (.c (.bool true)) (.t 11)),oM 2 12]) (.ret)
def c_4r : C :=
 .seq (.ops [oA 2 (.mov (.c (.bool false)))]) (c0_4r)
def f_4r : F := ⟨c_4r, [.t 2], some []⟩
theorem h_4r : compF Tryz.prog (compAny Tryz.prog) n_4r = some (f_4r.body, f_4r.res) := by kernel_rfl
def c0_85 : C :=
 .seq (.any 0 [.op 0 (oM 78 0),.op 1 (oA 79 (.ia 1 (.t 78) (.c (.int .i64 0)))),.op 2 (oA 80 (.ld (.t 79))),.op 5 (oM 83 0),.op 6 (oA 84 (.ia 1 (.t 83) (.c (.int .i64 1)))),.op 7 (oA 85 (.ld (.t 84))),.op 3 (oA 81 (.conv .i64 (.t 80))),.op 4 (oA 82 (.bin .shl (.t 81) (.c (.int .u64 8)))),.op 8 (oA 86 (.conv .i64 (.t 85))),.op 9 (oA 87 (.bin .or (.t 82) (.t 86))),.op 10 (oA 88 (.fa 1 (.t 9))),.op 11 (oS (.st (.t 88) (.t 87)))]) (.ops [oM 89 0,oA 90 (.sl 1 (.t 89) (some (.c (.int .i64 2))) none none),oM 0 90])
def c1_85 : C :=
 .seq (.seq (.ops [oA 72 (.fa 0 (.t 9)),oA 73 (.ld (.t 72)),oA 74 (.call n_88 [(.t 73)])]) (.cond (.t 74) (.seq (.seq (.ops [oM 75 0,oA 76 (.len 1 (.t 75)),oA 77 (.bin .lss (.t 76) (.c (.int .i64 2)))]) (.cond (.t 77) (.exit 0) (.skip))) (c0_85)) (.skip))) (.ops [oA 91 (.fa 4 (.t 4)),oA 92 (.ld (.t 91)),oA 93 (.ldn 2 (.t 9)),oA 94 (.bsl 1 [(.int .i64 0),(.int .i64 0)] [(0,2,(.t 93))]),oA 95 (.app 2 16 (.t 92) (.t 94)),oA 96 (.fa 4 (.t 4)),oS (.st (.t 96) (.t 95))])
def c2_85 : C :=
 .seq (.seq (.ops [oM 66 0,oA 67 (.sl 1 (.t 66) (some (.c (.int .i64 1))) none none),oM 0 67]) (.seq (.ops [oA 68 (.fa 0 (.t 9)),oA 69 (.ld (.t 68)),oA 70 (.call n_8a [(.t 69)]),oA 71 (.un .not (.t 70))]) (.cond (.t 71) (.exit 1) (.skip)))) (c1_85)
def c3_85 : C :=
 .block 1 (.seq (.ops [oM 61 0,oA 62 (.ia 1 (.t 61) (.c (.int .i64 0))),oA 63 (.ld (.t 62)),oA 64 (.conv .i64 (.t 63)),oA 65 (.build [(.int .i64 0),(.int .i64 0)] [(0,1,(.t 64))]),oA 9 (.new [(.int .i64 0),(.int .i64 0)]),oS (.stn 2 (.t 9) (.t 65))]) (c2_85))
def c4_85 : C :=
 .seq (.seq (.ops [oM 52 0,oA 53 (.len 1 (.t 52)),oA 54 (.bin .gtr (.t 53) (.c (.int .i64 0))),oM 55 54,oT 56 55 (.fa 4 (.t 4)),oT 57 55 (.ld (.t 56)),oT 58 55 (.len 1 (.t 57)),oT 59 55 (.bin .lss (.t 58) (.c (.int .i64 256))),oA 60 (.pick (.t 55) (.t 59) (.c (.bool false)))]) (.cond (.t 60) (.skip) (.exit 0))) (c3_85)
def c5_85 : C :=
 .seq (.ops [oM 48 5,oM 49 7,oA 50 (.fa 2 (.t 4)),oS (.st (.t 50) (.t 48)),oA 51 (.fa 3 (.t 4)),oS (.st (.t 51) (.t 49))]) (.seq (.block 0 (.loop c4_85)) (.seq (.ops [oA 97 (.ldn 5 (.t 4)),oS (.stn 5 (.t 2) (.t 97)),oA 3 (.mov (.c (.int .i64 0)))]) (.ret)))
def c6_85 : C :=
 .seq (.seq (.ops [oM 36 6,oA 37 (.un .not (.t 36)),oM 38 37,oF 39 38 (.mov (.t 8)),oF 40 38 (.un .not (.t 39)),oA 41 (.pick (.t 38) (.c (.bool true)) (.t 40)),oM 42 41,oF 43 42 (.mov (.t 7)),oF 44 42 (.len 1 (.t 43)),oF 45 42 (.bin .gtr (.t 44) (.c (.int .i64 4096))),oA 46 (.pick (.t 42) (.c (.bool true)) (.t 45))]) (.cond (.t 46) (.seq (.ops [oA 47 (.build [(.int .i64 0),(.int .i64 0),(.slice none 0 0),(.slice none 0 0),(.slice none 0 0)] []),oS (.stn 5 (.t 2) (.t 47)),oA 3 (.mov (.c (.int .i64 12)))]) (.ret)) (.skip))) (c5_85)
def c7_85 : C :=
 .seq (.ops [oM 31 0,oA 32 (.call n_89 [(.t 31)]),oM 30 32,oA 33 (.ext (.t 30) 0),oA 34 (.ext (.t 30) 1),oA 35 (.ext (.t 30) 2),oM 7 33,oM 0 34,oM 8 35]) (c6_85)
def c8_85 : C :=
 .seq (.ops [oM 24 0,oA 25 (.sl 1 (.t 24) (some (.c (.int .i64 2))) none none),oA 26 (.call n_89 [(.t 25)]),oM 23 26,oA 27 (.ext (.t 23) 0),oA 28 (.ext (.t 23) 1),oA 29 (.ext (.t 23) 2),oM 5 27,oM 0 28,oM 6 29]) (c7_85)
def c9_85 : C :=
 .seq (.any 1 [.op 0 (oM 14 0),.op 1 (oA 15 (.ia 1 (.t 14) (.c (.int .i64 0)))),.op 2 (oA 16 (.ld (.t 15))),.op 4 (oM 18 0),.op 5 (oA 19 (.ia 1 (.t 18) (.c (.int .i64 1)))),.op 6 (oA 20 (.ld (.t 19))),.op 3 (oA 17 (.conv .i64 (.t 16))),.op 7 (oA 21 (.conv .i64 (.t 20))),.op 8 (oA 22 (.build [(.int .i64 0),(.int .i64 0),(.slice none 0 0),(.slice none 0 0),(.slice none 0 0)] [(0,1,(.t 17)),(1,1,(.t 21))])),.al 9 0 (oA 4 (.new [(.int .i64 0),(.int .i64 0),(.slice none 0 0),(.slice none 0 0),(.slice none 0 0)])),.op 10 (oS (.stn 5 (.t 4) (.t 22)))]) (c8_85)
def c10_85 : C :=
 .seq (.seq (.ops [oM 10 0,oA 11 (.len 1 (.t 10)),oA 12 (.bin .lss (.t 11) (.c (.int .i64 2)))]) (.cond (.t 12) (.seq (.ops [oA 13 (.build [(.int .i64 0),(.int .i64 0),(.slice none 0 0),(.slice none 0 0),(.slice none 0 0)] []),oS (.stn 5 (.t 2) (.t 13)),oA 3 (.mov (.c (.int .i64 12)))]) (.ret)) (.skip))) (c9_85)
def c_85 : C :=
 .seq (.ops [oA 2 (.new [(.int .i64 0),(.int .i64 0),(.slice none 0 0),(.slice none 0 0),(.slice none 0 0)]),oA 3 (.mov (.c (.int .i64 0)))]) (c10_85)
def f_85 : F := ⟨c_85, [.ldn 5 2, .t 3], some []⟩
theorem h_85 : compF Tryz.prog (compAny Tryz.prog) n_85 = some (f_85.body, f_85.res) := by kernel_rfl
def c0_4x : C :=
 .seq (.ops [oA 5 (.fa 0 (.t 2)),oA 6 (.ld (.t 5)),oA 7 (.fa 0 (.t 3)),oA 8 (.ld (.t 7)),oA 9 (.bin .eql (.t 6) (.t 8)),oM 10 9,oT 11 10 (.fa 1 (.t 2)),oT 12 10 (.ld (.t 11)),oT 13 10 (.fa 1 (.t 3)),oT 14 10 (.ld (.t 13)),oT 15 10 (.bin .eql (.t 12) (.t 14)),oA 16 (.pick (.t 10) (.t 15) (.c (.bool false))),oM 17 16,oT 18 17 (.fa 2 (.t 2)),oT 19 17 (.ld (.t 18)),oT 20 17 (.b2s (.t 19)),oT 21 17 (.fa 2 (.t 3)),oT 22 17 (.ld (.t 21)),oT 23 17 (.b2s (.t 22)),oT 24 17 (.bin .eql (.t 20) (.t 23)),oA 25 (.pick (.t 17) (.t 24) (.c (.bool false))),oM 26 25,oT 27 26 (.fa 3 (.t 2)),oT 28 26 (.ld (.t 27)),oT 29 26 (.b2s (.t 28)),oT 30 26 (.fa 3 (.t 3)),oT 31 26 (.ld (.t 30)),oT 32 26 (.b2s (.t 31)),oT 33 26 (.bin .eql (.t 29) (.t 32)),oA 34 (.pick (.t 26) (.t 33) (.c (.bool false))),oM 35 34,oT 36 35 (.fa 4 (.t 2)),oT 37 35 (.ld (.t 36)),oT 38 35 (.fa 4 (.t 3)),oT 39 35 (.ld (.t 38)),oT 40 35 (.call n_48 [(.t 37),(.t 39)]),oA 41 (.pick (.t 35) (.t 40) (.c (.bool false))),oM 4 41]) (.ret)
def c_4x : C :=
 .seq (.ops [oA 2 (.box (.t 0)),oA 3 (.box (.t 1)),oA 4 (.mov (.c (.bool false)))]) (c0_4x)
def f_4x : F := ⟨c_4x, [.t 4], some []⟩
theorem h_4x : compF Tryz.prog (compAny Tryz.prog) n_4x = some (f_4x.body, f_4x.res) := by kernel_rfl
def c0_84 : C :=
 .seq (.ops [oM 12 4,oA 13 (.build [(.int .u32 0),(.int .u32 0),(.int .u32 0),(.int .u32 0),(.int .u32 0),(.int .u32 0),(.int .u32 0),(.int .u32 0),(.int .u32 0),(.int .u32 0),(.int .u32 0),(.int .u32 0),(.int .u32 0),(.int .u32 0),(.int .u32 0),(.int .u32 0),(.int .u32 0),(.int .u32 0),(.int .u32 0),(.int .u32 0),(.int .u32 0),(.int .u32 0),(.int .u32 0),(.int .u32 0),(.int .u32 0),(.int .u32 0),(.int .u32 0),(.int .u32 0),(.int .u32 0),(.int .u32 0),(.int .u32 0),(.int .u32 0),(.int .u32 0),(.int .u32 0),(.int .u32 0),(.int .u32 0),(.bool false),(.bool false),(.int .u32 0),(.int .u32 0),(.int .u32 0),(.int .u32 0),(.int .u32 0),(.int .u32 0),(.int .u32 0),(.int .u32 0),(.int .u32 0),(.int .u32 0),(.int .u32 0),(.int .u32 0),(.int .u32 0),(.int .u32 0),(.int .u32 0),(.int .u32 0),(.int .u32 0),(.int .u32 0),(.int .u32 0),(.int .u32 0),(.int .u32 0),(.int .u32 0),(.int .u32 0),(.int .u32 0),(.int .u32 0),(.int .u32 0),(.int .u32 0),(.int .u32 0),(.int .u32 0),(.int .u32 0),(.int .u32 0),(.int .u32 0),(.int .u32 0),(.bool false),(.int .i64 0),(.slice none 0 0),(.bool false),(.int .i64 0)] [(75,1,(.t 12))]),oS (.stn 76 (.t 2) (.t 13))]) (.ret)
def c1_84 : C :=
 .seq (.ops [oM 6 0,oA 7 (.call n_85 [(.t 6)]),oM 5 7,oA 8 (.ext (.t 5) 0),oA 9 (.ext (.t 5) 1),oA 3 (.new [(.int .i64 0),(.int .i64 0),(.slice none 0 0),(.slice none 0 0),(.slice none 0 0)]),oS (.stn 5 (.t 3) (.t 8)),oM 4 9]) (.seq (.seq (.ops [oM 10 4,oA 11 (.bin .neq (.t 10) (.c (.int .i64 0)))]) (.cond (.t 11) (c0_84) (.skip))) (.seq (.ops [oA 14 (.ldn 5 (.t 3)),oA 15 (.call n_86 [(.t 14)]),oS (.stn 76 (.t 2) (.t 15))]) (.ret)))
def c_84 : C :=
 .seq (.ops [oA 2 (.new [(.int .u32 0),(.int .u32 0),(.int .u32 0),(.int .u32 0),(.int .u32 0),(.int .u32 0),(.int .u32 0),(.int .u32 0),(.int .u32 0),(.int .u32 0),(.int .u32 0),(.int .u32 0),(.int .u32 0),(.int .u32 0),(.int .u32 0),(.int .u32 0),(.int .u32 0),(.int .u32 0),(.int .u32 0),(.int .u32 0),(.int .u32 0),(.int .u32 0),(.int .u32 0),(.int .u32 0),(.int .u32 0),(.int .u32 0),(.int .u32 0),(.int .u32 0),(.int .u32 0),(.int .u32 0),(.int .u32 0),(.int .u32 0),(.int .u32 0),(.int .u32 0),(.int .u32 0),(.int .u32 0),(.bool false),(.bool false),(.int .u32 0),(.int .u32 0),(.int .u32 0),(.int .u32 0),(.int .u32 0),(.int .u32 0),(.int .u32 0),(.int .u32 0),(.int .u32 0),(.int .u32 0),(.int .u32 0),(.int .u32 0),(.int .u32 0),(.int .u32 0),(.int .u32 0),(.int .u32 0),(.int .u32 0),(.int .u32 0),(.int .u32 0),(.int .u32 0),(.int .u32 0),(.int .u32 0),(.int .u32 0),(.int .u32 0),(.int .u32 0),(.int .u32 0),(.int .u32 0),(.int .u32 0),(.int .u32 0),(.int .u32 0),(.int .u32 0),(.int .u32 0),(.int .u32 0),(.bool false),(.int .i64 0),(.slice none 0 0),(.bool false),(.int .i64 0)])]) (c1_84)
def f_84 : F := ⟨c_84, [.ldn 76 2], some []⟩
theorem h_84 : compF Tryz.prog (compAny Tryz.prog) n_84 = some (f_84.body, f_84.res) := by kernel_rfl
def c0_8c : C :=
 .seq (.ops [oM 5 0,oM 6 1,oA 7 (.len 1 (.t 6)),oA 8 (.bin .shr (.t 7) (.c (.int .u64 8))),oA 9 (.conv .u8 (.t 8)),oM 10 1,oA 11 (.len 1 (.t 10)),oA 12 (.conv .u8 (.t 11)),oA 13 (.bsl 2 [(.int .u8 0),(.int .u8 0)] [(0,1,(.t 9)),(1,1,(.t 12))]),oA 14 (.app 1 1 (.t 5) (.t 13)),oM 15 1,oA 16 (.app 1 1 (.t 14) (.t 15)),oM 4 16]) (.ret)
def c_8c : C :=
 .seq (.ops [oA 4 (.mov (.c (.slice none 0 0)))]) (c0_8c)
def f_8c : F := ⟨c_8c, [.t 4], some []⟩
theorem h_8c : compF Tryz.prog (compAny Tryz.prog) n_8c = some (f_8c.body, f_8c.res) := by kernel_rfl
def c0_8b : C :=
 .seq (.ops [oA 3 (.fa 0 (.t 1)),oA 4 (.ld (.t 3)),oA 5 (.call n_8a [(.t 4)]),oM 6 5,oT 7 6 (.fa 0 (.t 1)),oT 8 6 (.ld (.t 7)),oT 9 6 (.call n_88 [(.t 8)]),oT 10 6 (.un .not (.t 9)),oT 11 6 (.mov (.t 10)),oF 12 11 (.fa 1 (.t 1)),oF 13 11 (.ld (.t 12)),oF 14 11 (.bin .geq (.t 13) (.c (.int .i64 0))),oF 15 11 (.mov (.t 14)),oT 16 15 (.fa 1 (.t 1)),oT 17 15 (.ld (.t 16)),oT 18 15 (.bin .leq (.t 17) (.c (.int .i64 65535))),oF 19 11 (.pick (.t 15) (.t 18) (.c (.bool false))),oT 20 6 (.pick (.t 11) (.c (.bool true)) (.t 19)),oA 21 (.pick (.t 6) (.t 20) (.c (.bool false))),oM 2 21]) (.ret)
def c_8b : C :=
 .seq (.ops [oA 1 (.box (.t 0)),oA 2 (.mov (.c (.bool false)))]) (c0_8b)
def f_8b : F := ⟨c_8b, [.t 2], some []⟩
theorem h_8b : compF Tryz.prog (compAny Tryz.prog) n_8b = some (f_8b.body, f_8b.res) := by kernel_rfl
def c0_88 : C :=
 .seq (.ops [oM 3 0,oA 4 (.bin .eql (.t 3) (.c (.int .i64 1))),oM 5 4,oF 6 5 (.mov (.t 0)),oF 7 5 (.bin .eql (.t 6) (.c (.int .i64 2))),oA 8 (.pick (.t 5) (.c (.bool true)) (.t 7)),oM 9 8,oF 10 9 (.mov (.t 0)),oF 11 9 (.bin .eql (.t 10) (.c (.int .i64 5))),oA 12 (.pick (.t 9) (.c (.bool true)) (.t 11)),oM 2 12]) (.ret)
def c_88 : C :=
 .seq (.ops [oA 2 (.mov (.c (.bool false)))]) (c0_88)
def f_88 : F := ⟨c_88, [.t 2], some []⟩
theorem h_88 : compF Tryz.prog (compAny Tryz.prog) n_88 = some (f_88.body, f_88.res) := by kernel_rfl
def c0_9p : C :=
 .seq (.ops [oM 32 12,oM 33 10,oA 34 (.build [(.pointer none),(.pointer none),(.int .i64 0),(.int .i64 0),(.int .i64 0),(.int .i64 0)] [(0,1,(.t 32)),(1,1,(.t 33))]),oA 35 (.box (.t 34)),oM 8 35,oA 9 (.mov (.c (.int .i64 0)))]) (.ret)
def c1_9p : C :=
 .seq (.ops [oM 26 0,oM 27 1,oM 28 2,oA 29 (.call n_3v [(.t 26),(.t 27),(.t 28)]),oM 25 29,oA 30 (.ext (.t 25) 0),oA 31 (.ext (.t 25) 1),oM 12 30,oM 13 31]) (c0_9p)
def c2_9p : C :=
 .seq (.ops [oM 15 0,oM 16 1,oM 17 2,oM 18 3,oA 19 (.call n_35 [(.t 15),(.t 16),(.t 17),(.t 18)]),oM 14 19,oA 20 (.ext (.t 14) 0),oA 21 (.ext (.t 14) 1),oM 10 20,oM 11 21]) (.seq (.seq (.ops [oM 22 11,oA 23 (.bin .neq (.t 22) (.c (.int .i64 0)))]) (.cond (.t 23) (.seq (.ops [oM 24 11,oA 8 (.mov (.c (.pointer none))),oM 9 24]) (.ret)) (.skip))) (c1_9p))
def c_9p : C :=
 .seq (.ops [oA 8 (.mov (.c (.pointer none))),oA 9 (.mov (.c (.int .i64 0)))]) (c2_9p)
def f_9p : F := ⟨c_9p, [.t 8, .t 9], some []⟩
theorem h_9p : compF Tryz.prog (compAny Tryz.prog) n_9p = some (f_9p.body, f_9p.res) := by kernel_rfl
def c0_9q : C :=
 .cond (.t 34) (.any 0 [.op 0 (oM 36 0),.op 1 (oA 37 (.nilc (.t 36))),.op 2 (oA 38 (.fa 1 (.t 37))),.op 3 (oA 39 (.ld (.t 38))),.op 4 (oA 40 (.fa 1 (.t 3))),.op 5 (oA 41 (.ld (.t 40))),.op 6 (oA 42 (.call n_2t [(.t 39),(.t 41)]))]) (.skip)
def c1_9q : C :=
 .cond (.t 27) (.ops [oM 29 0,oA 30 (.nilc (.t 29)),oA 31 (.fa 1 (.t 30)),oA 32 (.ld (.t 31)),oA 33 (.call n_2u [(.t 32)])]) (.seq (.ops [oA 35 (.bin .eql (.t 6) (.c (.int .i64 5))),oM 34 35]) (c0_9q))
def c2_9q : C :=
 .cond (.t 20) (.ops [oM 22 0,oA 23 (.nilc (.t 22)),oA 24 (.fa 1 (.t 23)),oA 25 (.ld (.t 24)),oA 26 (.call n_2v [(.t 25)])]) (.seq (.ops [oA 28 (.bin .eql (.t 6) (.c (.int .i64 4))),oM 27 28]) (c1_9q))
def c3_9q : C :=
 .cond (.t 13) (.ops [oM 15 0,oA 16 (.fa 1 (.t 3)),oA 17 (.ld (.t 16)),oA 18 (.conv .u8 (.t 17)),oA 19 (.call n_9u [(.t 15),(.t 18)])]) (.seq (.ops [oA 21 (.bin .eql (.t 6) (.c (.int .i64 3))),oM 20 21]) (c2_9q))
def c4_9q : C :=
 .block 0 (.seq (.ops [oA 8 (.bin .eql (.t 6) (.c (.int .i64 1))),oM 7 8]) (.cond (.t 7) (.ops [oM 9 0,oA 10 (.fa 1 (.t 3)),oA 11 (.ld (.t 10)),oA 12 (.call n_9t [(.t 9),(.t 11)])]) (.seq (.ops [oA 14 (.bin .eql (.t 6) (.c (.int .i64 2))),oM 13 14]) (c3_9q))))
def c_9q : C :=
 .seq (.ops [oA 3 (.box (.t 1)),oA 4 (.mov (.c (.bool false)))]) (.seq (.seq (.ops [oA 5 (.fa 0 (.t 3)),oA 6 (.ld (.t 5))]) (c4_9q)) (.seq (.ops [oM 43 0,oA 44 (.call n_9s [(.t 43)]),oM 4 44]) (.ret)))
def f_9q : F := ⟨c_9q, [.t 4], some []⟩
theorem h_9q : compF Tryz.prog (compAny Tryz.prog) n_9q = some (f_9q.body, f_9q.res) := by kernel_rfl
def c_9r : C :=
 .seq (.ops [oA 2 (.mov (.c (.pointer none)))]) (.seq (.ops [oM 3 0,oA 4 (.nilc (.t 3)),oA 5 (.fa 1 (.t 4)),oA 6 (.ld (.t 5)),oM 2 6]) (.ret))
def f_9r : F := ⟨c_9r, [.t 2], some []⟩
theorem h_9r : compF Tryz.prog (compAny Tryz.prog) n_9r = some (f_9r.body, f_9r.res) := by kernel_rfl
def c_2x : C :=
 .seq (.ops [oA 2 (.new [(.int .u32 0),(.int .u32 0),(.int .u32 0),(.int .u32 0),(.int .u32 0),(.int .u32 0),(.int .u32 0),(.int .u32 0),(.int .u32 0),(.int .u32 0),(.int .u32 0),(.int .u32 0),(.int .u32 0),(.int .u32 0),(.int .u32 0),(.int .u32 0),(.int .u32 0),(.int .u32 0),(.int .u32 0),(.int .u32 0),(.int .u32 0),(.int .u32 0),(.int .u32 0),(.int .u32 0),(.int .u32 0),(.int .u32 0),(.int .u32 0),(.int .u32 0),(.int .u32 0),(.int .u32 0),(.int .u32 0),(.int .u32 0),(.int .u32 0),(.int .u32 0),(.int .u32 0),(.int .u32 0),(.bool false),(.bool false),(.int .u32 0),(.int .u32 0),(.int .u32 0),(.int .u32 0),(.int .u32 0),(.int .u32 0),(.int .u32 0),(.int .u32 0),(.int .u32 0),(.int .u32 0),(.int .u32 0),(.int .u32 0),(.int .u32 0),(.int .u32 0),(.int .u32 0),(.int .u32 0),(.int .u32 0),(.int .u32 0),(.int .u32 0),(.int .u32 0),(.int .u32 0),(.int .u32 0),(.int .u32 0),(.int .u32 0),(.int .u32 0),(.int .u32 0),(.int .u32 0),(.int .u32 0),(.int .u32 0),(.int .u32 0),(.int .u32 0),(.int .u32 0),(.int .u32 0),(.bool false),(.int .i64 0)])]) (.seq (.ops [oM 3 0,oA 4 (.nilc (.t 3)),oA 5 (.fa 0 (.t 4)),oA 6 (.ldn 73 (.t 5)),oS (.stn 73 (.t 2) (.t 6))]) (.ret))
def f_2x : F := ⟨c_2x, [.ldn 73 2], some []⟩
theorem h_2x : compF Tryz.prog (compAny Tryz.prog) n_2x = some (f_2x.body, f_2x.res) := by kernel_rfl
end Go.Proofs.YtoiiphcbkejliaaGreat.Cd

set_option maxRecDepth 100000
set_option linter.defProp false
namespace Go.Proofs.YtoiiphcbkejliaaGreat.Cd
open Go Go.Dx
def c_2s : C :=
 .seq (.ops [oA 2 (.mov (.c (.pointer none)))]) (.seq (.ops [oM 3 0,oA 4 (.nilc (.t 3)),oA 5 (.fa 73 (.t 4)),oA 6 (.ld (.t 5)),oM 2 6]) (.ret))
def f_2s : F := ⟨c_2s, [.t 2], some []⟩
theorem h_2s : compF Tryz.prog (compAny Tryz.prog) n_2s = some (f_2s.body, f_2s.res) := by kernel_rfl
def c_0l : C :=
 .seq (.ops [oA 2 (.mov (.c (.slice none 0 0)))]) (.seq (.ops [oM 3 0,oA 4 (.nilc (.t 3)),oA 5 (.fa 5 (.t 4)),oA 6 (.ld (.t 5)),oA 7 (.call n_9y [(.t 6)]),oM 2 7]) (.ret))
def f_0l : F := ⟨c_0l, [.t 2], some []⟩
theorem h_0l : compF Tryz.prog (compAny Tryz.prog) n_0l = some (f_0l.body, f_0l.res) := by kernel_rfl
def c0_4d : C :=
 .seq (.block 1 (.ops [oM 46 6,oM 47 0,oM 48 7,oA 49 (.ia 7 (.t 47) (.t 48)),oA 50 (.ldn 7 (.t 49)),oA 51 (.call n_4c [(.t 50)]),oA 52 (.bsl 1 [(.int .u32 0)] [(0,1,(.t 51))]),oA 53 (.app 1 4 (.t 46) (.t 52)),oM 6 53])) (.ops [oM 44 7,oA 45 (.bin .add (.t 44) (.c (.int .i64 1))),oM 7 45])
def c1_4d : C :=
 .seq (.seq (.ops [oM 36 7,oM 37 0,oA 38 (.len 1 (.t 37)),oA 39 (.bin .lss (.t 36) (.t 38)),oM 40 39,oT 41 40 (.mov (.t 7)),oT 42 40 (.bin .lss (.t 41) (.c (.int .i64 200))),oA 43 (.pick (.t 40) (.t 42) (.c (.bool false)))]) (.cond (.t 43) (.skip) (.exit 0))) (c0_4d)
def c2_4d : C :=
 .seq (.seq (.ops [oM 54 6,oA 55 (.len 1 (.t 54)),oA 56 (.bin .mul (.t 55) (.c (.int .i64 4))),oA 57 (.bin .add (.t 56) (.c (.int .i64 1024))),oM 58 5,oA 59 (.len 1 (.t 58)),oA 60 (.bin .leq (.t 57) (.t 59))]) (.cond (.t 60) (.ops [oM 61 5,oM 62 6,oA 63 (.call n_4i [(.t 61),(.c (.int .i64 1024)),(.t 62)])]) (.skip))) (.seq (.ops [oM 64 5,oM 4 64]) (.ret))
def c3_4d : C :=
 .seq (.ops [oA 27 (.build [(.int .i64 0),(.int .i64 0),(.int .i64 0),(.int .i64 0),(.int .i64 0),(.int .u32 0)] [(0,1,(.c (.int .i64 53))),(2,1,(.c (.int .i64 28))),(5,1,(.c (.int .u32 32768)))]),oA 28 (.call n_4j [(.t 27)]),oA 29 (.build [(.int .i64 0),(.int .i64 0),(.int .i64 0),(.int .i64 0),(.int .i64 0),(.int .u32 0)] [(0,1,(.c (.int .i64 51))),(1,1,(.c (.int .i64 28))),(2,1,(.c (.int .i64 29))),(5,1,(.c (.int .u32 1024)))]),oA 30 (.call n_4j [(.t 29)]),oA 31 (.build [(.int .i64 0),(.int .i64 0),(.int .i64 0),(.int .i64 0),(.int .i64 0),(.int .u32 0)] [(0,1,(.c (.int .i64 53))),(2,1,(.c (.int .i64 30))),(5,1,(.c (.int .u32 48896)))]),oA 32 (.call n_4j [(.t 31)]),oA 33 (.build [(.int .i64 0),(.int .i64 0),(.int .i64 0),(.int .i64 0),(.int .i64 0),(.int .u32 0)] [(0,1,(.c (.int .i64 51))),(1,1,(.c (.int .i64 28))),(2,1,(.c (.int .i64 31))),(5,1,(.c (.int .u32 1536)))]),oA 34 (.call n_4j [(.t 33)]),oA 35 (.bsl 4 [(.int .u32 0),(.int .u32 0),(.int .u32 0),(.int .u32 0)] [(0,1,(.t 28)),(1,1,(.t 30)),(2,1,(.t 32)),(3,1,(.t 34))]),oM 6 35]) (.seq (.seq (.ops [oA 7 (.mov (.c (.int .i64 0)))]) (.block 0 (.loop c1_4d))) (c2_4d))
def c4_4d : C :=
 .seq (.ops [oM 16 5,oA 17 (.build [(.int .i64 0),(.int .i64 0),(.int .i64 0),(.int .i64 0),(.int .i64 0),(.int .u32 0)] [(0,1,(.c (.int .i64 54))),(2,1,(.c (.int .i64 26))),(3,1,(.c (.int .i64 14)))]),oA 18 (.call n_4j [(.t 17)]),oA 19 (.build [(.int .i64 0),(.int .i64 0),(.int .i64 0),(.int .i64 0),(.int .i64 0),(.int .u32 0)] [(0,1,(.c (.int .i64 47))),(1,1,(.c (.int .i64 26))),(2,1,(.c (.int .i64 26))),(5,1,(.c (.int .u32 4)))]),oA 20 (.call n_4j [(.t 19)]),oA 21 (.build [(.int .i64 0),(.int .i64 0),(.int .i64 0),(.int .i64 0),(.int .i64 0),(.int .u32 0)] [(0,1,(.c (.int .i64 55))),(2,1,(.c (.int .i64 26))),(3,1,(.c (.int .i64 14)))]),oA 22 (.call n_4j [(.t 21)]),oA 23 (.build [(.int .i64 0),(.int .i64 0),(.int .i64 0),(.int .i64 0),(.int .i64 0),(.int .u32 0)] [(0,1,(.c (.int .i64 60)))]),oA 24 (.call n_4j [(.t 23)]),oA 25 (.bsl 4 [(.int .u32 0),(.int .u32 0),(.int .u32 0),(.int .u32 0)] [(0,1,(.t 18)),(1,1,(.t 20)),(2,1,(.t 22)),(3,1,(.t 24))]),oA 26 (.call n_4i [(.t 16),(.c (.int .i64 384)),(.t 25)])]) (c3_4d)
def c5_4d : C :=
 .seq (.ops [oM 11 5,oA 12 (.build [(.int .i64 0),(.int .i64 0),(.int .i64 0),(.int .i64 0),(.int .i64 0),(.int .u32 0)] [(0,1,(.c (.int .i64 60)))]),oA 13 (.call n_4j [(.t 12)]),oA 14 (.bsl 1 [(.int .u32 0)] [(0,1,(.t 13))]),oA 15 (.call n_4i [(.t 11),(.c (.int .i64 0)),(.t 14)])]) (c4_4d)
def c_4d : C :=
 .seq (.ops [oA 4 (.mov (.c (.slice none 0 0)))]) (.seq (.ops [oM 8 1,oA 9 (.bin .mul (.t 8) (.c (.int .i64 1024))),oA 10 (.mks [(.int .u8 0)] 1 (.t 9) (.t 9)),oM 5 10]) (c5_4d))
def f_4d : F := ⟨c_4d, [.t 4], some []⟩
theorem h_4d : compF Tryz.prog (compAny Tryz.prog) n_4d = some (f_4d.body, f_4d.res) := by kernel_rfl
def c0_89 : C :=
 .seq (.ops [oM 21 0,oA 22 (.len 1 (.t 21)),oM 23 5,oA 24 (.bin .lss (.t 22) (.t 23))]) (.cond (.t 24) (.seq (.ops [oA 2 (.mov (.c (.slice none 0 0))),oA 3 (.mov (.c (.slice none 0 0))),oA 4 (.mov (.c (.bool false)))]) (.ret)) (.skip))
def c1_89 : C :=
 .seq (.any 0 [.op 0 (oM 25 0),.op 1 (oM 26 5),.op 2 (oA 27 (.sl 1 (.t 25) none (some (.t 26)) none)),.op 3 (oA 28 (.call n_8e [(.t 27)])),.op 4 (oM 29 0),.op 5 (oM 30 5),.op 6 (oA 31 (.sl 1 (.t 29) (some (.t 30)) none none)),.op 7 (oM 2 28),.op 8 (oM 3 31),.op 9 (oA 4 (.mov (.c (.bool true))))]) (.ret)
def c2_89 : C :=
 .seq (.any 0 [.op 0 (oM 9 0),.op 1 (oA 10 (.ia 1 (.t 9) (.c (.int .i64 0)))),.op 2 (oA 11 (.ld (.t 10))),.op 5 (oM 14 0),.op 6 (oA 15 (.ia 1 (.t 14) (.c (.int .i64 1)))),.op 7 (oA 16 (.ld (.t 15))),.op 3 (oA 12 (.conv .i64 (.t 11))),.op 4 (oA 13 (.bin .shl (.t 12) (.c (.int .u64 8)))),.op 8 (oA 17 (.conv .i64 (.t 16))),.op 9 (oA 18 (.bin .or (.t 13) (.t 17))),.op 10 (oM 5 18)]) (.seq (.seq (.ops [oM 19 0,oA 20 (.sl 1 (.t 19) (some (.c (.int .i64 2))) none none),oM 0 20]) (c0_89)) (c1_89))
def c3_89 : C :=
 .seq (.seq (.ops [oM 6 0,oA 7 (.len 1 (.t 6)),oA 8 (.bin .lss (.t 7) (.c (.int .i64 2)))]) (.cond (.t 8) (.seq (.ops [oA 2 (.mov (.c (.slice none 0 0))),oA 3 (.mov (.c (.slice none 0 0))),oA 4 (.mov (.c (.bool false)))]) (.ret)) (.skip))) (c2_89)
def c_89 : C :=
 .seq (.ops [oA 2 (.mov (.c (.slice none 0 0))),oA 3 (.mov (.c (.slice none 0 0))),oA 4 (.mov (.c (.bool false)))]) (c3_89)
def f_89 : F := ⟨c_89, [.t 2, .t 3, .t 4], some []⟩
theorem h_89 : compF Tryz.prog (compAny Tryz.prog) n_89 = some (f_89.body, f_89.res) := by kernel_rfl
def c0_8a : C :=
 .seq (.ops [oM 3 0,oA 4 (.bin .geq (.t 3) (.c (.int .i64 1))),oM 5 4,oT 6 5 (.mov (.t 0)),oT 7 5 (.bin .leq (.t 6) (.c (.int .i64 5))),oA 8 (.pick (.t 5) (.t 7) (.c (.bool false))),oM 2 8]) (.ret)
def c_8a : C :=
 .seq (.ops [oA 2 (.mov (.c (.bool false)))]) (c0_8a)
def f_8a : F := ⟨c_8a, [.t 2], some []⟩
theorem h_8a : compF Tryz.prog (compAny Tryz.prog) n_8a = some (f_8a.body, f_8a.res) := by kernel_rfl
def c0_48 : C :=
 .seq (.block 1 (.seq (.any 0 [.op 0 (oM 17 0),.op 1 (oM 18 5),.op 2 (oA 19 (.ia 2 (.t 17) (.t 18))),.op 3 (oA 20 (.ldn 2 (.t 19))),.op 4 (oM 21 1),.op 5 (oM 22 5),.op 6 (oA 23 (.ia 2 (.t 21) (.t 22))),.op 7 (oA 24 (.ldn 2 (.t 23))),.op 8 (oA 25 (.eqt true (.agg [(0,1,false,(.int .i64)),(1,1,false,(.int .i64))]) (.t 20) (.t 24)))]) (.cond (.t 25) (.seq (.ops [oA 4 (.mov (.c (.bool false)))]) (.ret)) (.skip)))) (.ops [oM 15 5,oA 16 (.bin .add (.t 15) (.c (.int .i64 1))),oM 5 16])
def c1_48 : C :=
 .seq (.seq (.ops [oM 11 5,oM 12 0,oA 13 (.len 1 (.t 12)),oA 14 (.bin .lss (.t 11) (.t 13))]) (.cond (.t 14) (.skip) (.exit 0))) (c0_48)
def c2_48 : C :=
 .seq (.seq (.ops [oM 6 0,oA 7 (.len 1 (.t 6)),oM 8 1,oA 9 (.len 1 (.t 8)),oA 10 (.bin .neq (.t 7) (.t 9))]) (.cond (.t 10) (.seq (.ops [oA 4 (.mov (.c (.bool false)))]) (.ret)) (.skip))) (.seq (.seq (.ops [oA 5 (.mov (.c (.int .i64 0)))]) (.block 0 (.loop c1_48))) (.seq (.ops [oA 4 (.mov (.c (.bool true)))]) (.ret)))
def c_48 : C :=
 .seq (.ops [oA 4 (.mov (.c (.bool false)))]) (c2_48)
def f_48 : F := ⟨c_48, [.t 4], some []⟩
theorem h_48 : compF Tryz.prog (compAny Tryz.prog) n_48 = some (f_48.body, f_48.res) := by kernel_rfl
def c0_35 : C :=
 .seq (.ops [oM 22 10,oA 23 (.call n_3t [(.t 22)]),oM 24 10,oA 25 (.call n_3r [(.t 24)]),oM 26 3,oA 27 (.call n_13 [(.t 26)]),oA 28 (.build [(.int .u32 0),(.int .u32 0),(.int .u32 0),(.int .u32 0),(.int .u32 0),(.int .u32 0),(.int .u32 0),(.int .u32 0),(.int .u32 0),(.int .u32 0),(.int .u32 0),(.int .u32 0),(.int .u32 0),(.int .u32 0),(.int .u32 0),(.int .u32 0),(.int .u32 0),(.int .u32 0),(.int .u32 0),(.int .u32 0),(.int .u32 0),(.int .u32 0),(.int .u32 0),(.int .u32 0),(.int .u32 0),(.int .u32 0),(.int .u32 0),(.int .u32 0),(.int .u32 0),(.int .u32 0),(.int .u32 0),(.int .u32 0),(.int .u32 0),(.int .u32 0),(.int .u32 0),(.int .u32 0),(.bool false),(.bool false),(.int .u32 0),(.int .u32 0),(.int .u32 0),(.int .u32 0),(.int .u32 0),(.int .u32 0),(.int .u32 0),(.int .u32 0),(.int .u32 0),(.int .u32 0),(.int .u32 0),(.int .u32 0),(.int .u32 0),(.int .u32 0),(.int .u32 0),(.int .u32 0),(.int .u32 0),(.int .u32 0),(.int .u32 0),(.int .u32 0),(.int .u32 0),(.int .u32 0),(.int .u32 0),(.int .u32 0),(.int .u32 0),(.int .u32 0),(.int .u32 0),(.int .u32 0),(.int .u32 0),(.int .u32 0),(.int .u32 0),(.int .u32 0),(.int .u32 0),(.bool false),(.int .i64 0),(.pointer none),(.pointer none),(.int .i64 0),(.int .i64 0),(.int .i64 0)] [(0,73,(.t 23)),(73,1,(.t 25)),(74,1,(.t 27)),(75,1,(.c (.int .i64 32)))]),oA 29 (.box (.t 28)),oM 8 29,oA 9 (.mov (.c (.int .i64 0)))]) (.ret)
def c1_35 : C :=
 .seq (.ops [oM 13 0,oM 14 1,oM 15 2,oA 16 (.call n_3v [(.t 13),(.t 14),(.t 15)]),oM 12 16,oA 17 (.ext (.t 12) 0),oA 18 (.ext (.t 12) 1),oM 10 17,oM 11 18]) (.seq (.seq (.ops [oM 19 11,oA 20 (.bin .neq (.t 19) (.c (.int .i64 0)))]) (.cond (.t 20) (.seq (.ops [oM 21 11,oA 8 (.mov (.c (.pointer none))),oM 9 21]) (.ret)) (.skip))) (c0_35))
def c_35 : C :=
 .seq (.ops [oA 8 (.mov (.c (.pointer none))),oA 9 (.mov (.c (.int .i64 0)))]) (c1_35)
def f_35 : F := ⟨c_35, [.t 8, .t 9], some []⟩
theorem h_35 : compF Tryz.prog (compAny Tryz.prog) n_35 = some (f_35.body, f_35.res) := by kernel_rfl
def c0_3v : C :=
 .seq (.ops [oA 26 (.call n_1a []),oM 27 0,oM 28 1,oM 29 2,oA 30 (.call n_0v [(.t 27),(.t 28),(.t 29)]),oA 31 (.build [(.int .u32 0),(.int .u32 0),(.int .u32 0),(.int .u32 0),(.int .u32 0),(.int .u32 0),(.int .u32 0),(.int .u32 0),(.int .u32 0),(.int .u32 0),(.int .u32 0),(.int .u32 0),(.int .u32 0),(.int .u32 0),(.int .u32 0),(.int .u32 0),(.int .u32 0),(.int .u32 0),(.int .u32 0),(.int .u32 0),(.int .u32 0),(.int .u32 0),(.int .u32 0),(.int .u32 0),(.int .u32 0),(.int .u32 0),(.int .u32 0),(.int .u32 0),(.int .u32 0),(.int .u32 0),(.int .u32 0),(.int .u32 0),(.int .u32 0),(.int .u32 0),(.int .u32 0),(.int .u32 0),(.bool false),(.bool false),(.int .u32 0),(.int .u32 0),(.int .u32 0),(.int .u32 0),(.int .u32 0),(.int .u32 0),(.int .u32 0),(.int .u32 0),(.int .u32 0),(.int .u32 0),(.int .u32 0),(.int .u32 0),(.int .u32 0),(.int .u32 0),(.int .u32 0),(.int .u32 0),(.int .u32 0),(.int .u32 0),(.int .u32 0),(.int .u32 0),(.int .u32 0),(.int .u32 0),(.int .u32 0),(.int .u32 0),(.int .u32 0),(.int .u32 0),(.int .u32 0),(.int .u32 0),(.int .u32 0),(.int .u32 0),(.int .u32 0),(.int .u32 0),(.int .u32 0),(.bool false),(.int .i64 0),(.pointer none)] [(0,73,(.t 26)),(73,1,(.t 30))]),oA 32 (.box (.t 31)),oM 6 32,oA 7 (.mov (.c (.int .i64 0)))]) (.ret)
def c1_3v : C :=
 .seq (.seq (.ops [oM 8 0,oA 9 (.bin .lss (.t 8) (.c (.int .i64 1))),oM 10 9,oF 11 10 (.mov (.t 0)),oF 12 10 (.bin .gtr (.t 11) (.c (.int .i64 64))),oA 13 (.pick (.t 10) (.c (.bool true)) (.t 12)),oM 14 13,oF 15 14 (.mov (.t 1)),oF 16 14 (.len 1 (.t 15)),oF 17 14 (.mov (.t 0)),oF 18 14 (.bin .mul (.t 17) (.c (.int .i64 1024))),oF 19 14 (.bin .gtr (.t 16) (.t 18)),oA 20 (.pick (.t 14) (.c (.bool true)) (.t 19)),oM 21 20,oF 22 21 (.mov (.t 2)),oF 23 21 (.len 1 (.t 22)),oF 24 21 (.bin .gtr (.t 23) (.c (.int .i64 4096))),oA 25 (.pick (.t 21) (.c (.bool true)) (.t 24))]) (.cond (.t 25) (.seq (.ops [oA 6 (.mov (.c (.pointer none))),oA 7 (.mov (.c (.int .i64 1)))]) (.ret)) (.skip))) (c0_3v)
def c_3v : C :=
 .seq (.ops [oA 6 (.mov (.c (.pointer none))),oA 7 (.mov (.c (.int .i64 0)))]) (c1_3v)
def f_3v : F := ⟨c_3v, [.t 6, .t 7], some []⟩
theorem h_3v : compF Tryz.prog (compAny Tryz.prog) n_3v = some (f_3v.body, f_3v.res) := by kernel_rfl
def c0_9t : C :=
 .ops [oM 22 0,oM 23 0,oM 24 0,oA 25 (.nilc (.t 24)),oA 26 (.fa 1 (.t 25)),oA 27 (.ld (.t 26)),oM 28 1,oA 29 (.call n_2w [(.t 27),(.t 28)]),oM 21 29,oA 30 (.ext (.t 21) 0),oA 31 (.ext (.t 21) 1),oA 32 (.nilc (.t 22)),oA 33 (.fa 4 (.t 32)),oA 34 (.fa 0 (.t 33)),oS (.st (.t 34) (.t 30)),oA 35 (.nilc (.t 23)),oA 36 (.fa 4 (.t 35)),oA 37 (.fa 1 (.t 36)),oS (.st (.t 37) (.t 31))]
def c_9t : C :=
 .seq (.ops [oM 5 0,oM 6 0,oM 7 0,oA 8 (.nilc (.t 7)),oA 9 (.fa 0 (.t 8)),oA 10 (.ld (.t 9)),oM 11 1,oA 12 (.call n_3s [(.t 10),(.t 11)]),oM 4 12,oA 13 (.ext (.t 4) 0),oA 14 (.ext (.t 4) 1),oA 15 (.nilc (.t 5)),oA 16 (.fa 2 (.t 15)),oA 17 (.fa 0 (.t 16)),oS (.st (.t 17) (.t 13)),oA 18 (.nilc (.t 6)),oA 19 (.fa 2 (.t 18)),oA 20 (.fa 1 (.t 19)),oS (.st (.t 20) (.t 14))]) (c0_9t)
def f_9t : F := ⟨c_9t, [], some []⟩
theorem h_9t : compF Tryz.prog (compAny Tryz.prog) n_9t = some (f_9t.body, f_9t.res) := by kernel_rfl
def c_9u : C :=
 .seq (.ops [oM 4 0,oA 5 (.nilc (.t 4)),oA 6 (.fa 0 (.t 5)),oA 7 (.ld (.t 6)),oM 8 1,oA 9 (.call n_3u [(.t 7),(.t 8)])]) (.ops [oM 10 0,oA 11 (.nilc (.t 10)),oA 12 (.fa 1 (.t 11)),oA 13 (.ld (.t 12)),oM 14 1,oA 15 (.call n_2y [(.t 13),(.t 14)])])
def f_9u : F := ⟨c_9u, [], some []⟩
theorem h_9u : compF Tryz.prog (compAny Tryz.prog) n_9u = some (f_9u.body, f_9u.res) := by kernel_rfl
def c_2v : C :=
 .ops [oM 2 0,oA 3 (.nilc (.t 2)),oA 4 (.fa 74 (.t 3)),oA 5 (.ld (.t 4)),oA 6 (.call n_0z [(.t 5)])]
def f_2v : F := ⟨c_2v, [], some []⟩
theorem h_2v : compF Tryz.prog (compAny Tryz.prog) n_2v = some (f_2v.body, f_2v.res) := by kernel_rfl
def c_2u : C :=
 .seq (.ops [oA 2 (.mov (.c (.bool false)))]) (.seq (.ops [oM 3 0,oA 4 (.call n_34 [(.t 3)])]) (.seq (.ops [oM 5 0,oA 6 (.nilc (.t 5)),oA 7 (.fa 74 (.t 6)),oA 8 (.ld (.t 7)),oA 9 (.call n_0y [(.t 8)]),oM 2 9]) (.ret)))
def f_2u : F := ⟨c_2u, [.t 2], some []⟩
theorem h_2u : compF Tryz.prog (compAny Tryz.prog) n_2u = some (f_2u.body, f_2u.res) := by kernel_rfl
def c_2t : C :=
 .ops [oM 4 0,oM 5 1,oA 6 (.mn (.t 5) (.c (.int .i64 32))),oA 7 (.mx (.c (.int .i64 1)) (.t 6)),oA 8 (.nilc (.t 4)),oA 9 (.fa 75 (.t 8)),oS (.st (.t 9) (.t 7))]
def f_2t : F := ⟨c_2t, [], some []⟩
theorem h_2t : compF Tryz.prog (compAny Tryz.prog) n_2t = some (f_2t.body, f_2t.res) := by kernel_rfl
def c0_9s : C :=
 .seq (.any 0 [.op 0 (oM 39 0),.op 1 (oA 40 (.nilc (.t 39))),.op 2 (oA 41 (.fa 0 (.t 40))),.op 3 (oA 42 (.ld (.t 41))),.op 5 (oM 44 0),.op 6 (oA 45 (.nilc (.t 44))),.op 7 (oA 46 (.fa 1 (.t 45))),.op 8 (oA 47 (.ld (.t 46))),.op 4 (oA 43 (.call n_3t [(.t 42)])),.re 8 (oA 47 (.ld (.t 46))),.op 9 (oA 48 (.call n_2x [(.t 47)])),.op 10 (oA 49 (.eqt false (.agg [(0,32,true,(.agg [(0,1,false,(.int .u32)),(1,1,false,(.int .u32)),(2,1,false,(.int .u32)),(3,1,false,(.int .u32)),(4,1,false,(.int .u32)),(5,1,false,(.int .u32)),(6,1,false,(.int .u32)),(7,1,false,(.int .u32)),(8,1,false,(.int .u32)),(9,1,false,(.int .u32)),(10,1,false,(.int .u32)),(11,1,false,(.int .u32)),(12,1,false,(.int .u32)),(13,1,false,(.int .u32)),(14,1,false,(.int .u32)),(15,1,false,(.int .u32)),(16,1,false,(.int .u32)),(17,1,false,(.int .u32)),(18,1,false,(.int .u32)),(19,1,false,(.int .u32)),(20,1,false,(.int .u32)),(21,1,false,(.int .u32)),(22,1,false,(.int .u32)),(23,1,false,(.int .u32)),(24,1,false,(.int .u32)),(25,1,false,(.int .u32)),(26,1,false,(.int .u32)),(27,1,false,(.int .u32)),(28,1,false,(.int .u32)),(29,1,false,(.int .u32)),(30,1,false,(.int .u32)),(31,1,false,(.int .u32))])),(32,1,false,(.int .u32)),(33,1,false,(.int .u32)),(34,1,false,(.int .u32)),(35,1,false,(.int .u32)),(36,1,false,.bool),(37,1,false,.bool),(38,1,false,(.int .u32)),(39,16,true,(.agg [(0,1,false,(.int .u32)),(1,1,false,(.int .u32)),(2,1,false,(.int .u32)),(3,1,false,(.int .u32)),(4,1,false,(.int .u32)),(5,1,false,(.int .u32)),(6,1,false,(.int .u32)),(7,1,false,(.int .u32)),(8,1,false,(.int .u32)),(9,1,false,(.int .u32)),(10,1,false,(.int .u32)),(11,1,false,(.int .u32)),(12,1,false,(.int .u32)),(13,1,false,(.int .u32)),(14,1,false,(.int .u32)),(15,1,false,(.int .u32))])),(55,16,true,(.agg [(0,2,true,(.agg [(0,1,false,(.int .u32)),(1,1,false,(.int .u32))])),(2,2,true,(.agg [(0,1,false,(.int .u32)),(1,1,false,(.int .u32))])),(4,2,true,(.agg [(0,1,false,(.int .u32)),(1,1,false,(.int .u32))])),(6,2,true,(.agg [(0,1,false,(.int .u32)),(1,1,false,(.int .u32))])),(8,2,true,(.agg [(0,1,false,(.int .u32)),(1,1,false,(.int .u32))])),(10,2,true,(.agg [(0,1,false,(.int .u32)),(1,1,false,(.int .u32))])),(12,2,true,(.agg [(0,1,false,(.int .u32)),(1,1,false,(.int .u32))])),(14,2,true,(.agg [(0,1,false,(.int .u32)),(1,1,false,(.int .u32))]))])),(71,1,false,.bool),(72,1,false,(.int .i64))]) (.t 43) (.t 48))),.op 11 (oM 50 49),.op 12 (oT 51 50 (.mov (.t 0))),.op 13 (oT 52 50 (.nilc (.t 51))),.op 14 (oT 53 50 (.fa 2 (.t 52))),.op 15 (oT 54 50 (.ldn 2 (.t 53))),.op 16 (oT 55 50 (.mov (.t 0))),.op 17 (oT 56 50 (.nilc (.t 55))),.op 18 (oT 57 50 (.fa 4 (.t 56))),.op 19 (oT 58 50 (.ldn 2 (.t 57))),.op 20 (oT 59 50 (.eqt false (.agg [(0,1,false,(.int .i64)),(1,1,false,(.int .i64))]) (.t 54) (.t 58))),.op 21 (oA 60 (.pick (.t 50) (.t 59) (.c (.bool false)))),.op 22 (oM 61 60),.op 23 (oT 62 61 (.mov (.t 5))),.op 24 (oT 63 61 (.mov (.t 7))),.op 25 (oT 64 61 (.call n_8m [(.t 62),(.t 63)])),.op 26 (oA 65 (.pick (.t 61) (.t 64) (.c (.bool false)))),.op 27 (oM 66 65),.op 28 (oT 67 66 (.mov (.t 3))),.op 29 (oT 68 66 (.call n_0l [(.t 67)])),.op 30 (oT 69 66 (.mov (.t 4))),.op 31 (oT 70 66 (.call n_0l [(.t 69)])),.op 32 (oT 71 66 (.call n_8m [(.t 68),(.t 70)])),.op 33 (oA 72 (.pick (.t 66) (.t 71) (.c (.bool false)))),.op 34 (oM 73 72),.op 35 (oT 74 73 (.mov (.t 3))),.op 36 (oT 75 73 (.call n_0g [(.t 74)])),.op 37 (oT 76 73 (.mov (.t 4))),.op 38 (oT 77 73 (.call n_0g [(.t 76)])),.op 39 (oT 78 73 (.call n_8m [(.t 75),(.t 77)])),.op 40 (oA 79 (.pick (.t 73) (.t 78) (.c (.bool false)))),.op 41 (oM 80 79),.op 42 (oT 81 80 (.mov (.t 3))),.op 43 (oT 82 80 (.call n_0h [(.t 81)])),.op 44 (oT 83 80 (.mov (.t 4))),.op 45 (oT 84 80 (.call n_0h [(.t 83)])),.op 46 (oT 85 80 (.call n_8l [(.t 82),(.t 84)])),.op 47 (oA 86 (.pick (.t 80) (.t 85) (.c (.bool false)))),.op 48 (oM 2 86)]) (.ret)
def c1_9s : C :=
 .seq (.ops [oM 30 4,oA 31 (.call n_0n [(.t 30)]),oM 32 4,oA 33 (.call n_0n [(.t 32)]),oA 34 (.call n_7u [(.t 33)]),oA 35 (.conv .i64 (.t 34)),oA 36 (.call n_7q [(.t 31),(.c (.int .u32 0)),(.t 35)]),oM 29 36,oA 37 (.ext (.t 29) 0),oA 38 (.ext (.t 29) 1),oM 7 37,oM 8 38]) (c0_9s)
def c2_9s : C :=
 .seq (.ops [oM 20 3,oA 21 (.call n_0n [(.t 20)]),oM 22 3,oA 23 (.call n_0n [(.t 22)]),oA 24 (.call n_7u [(.t 23)]),oA 25 (.conv .i64 (.t 24)),oA 26 (.call n_7q [(.t 21),(.c (.int .u32 0)),(.t 25)]),oM 19 26,oA 27 (.ext (.t 19) 0),oA 28 (.ext (.t 19) 1),oM 5 27,oM 6 28]) (c1_9s)
def c3_9s : C :=
 .seq (.any 0 [.op 0 (oM 9 0),.op 1 (oA 10 (.nilc (.t 9))),.op 2 (oA 11 (.fa 0 (.t 10))),.op 3 (oA 12 (.ld (.t 11))),.op 5 (oM 14 0),.op 6 (oA 15 (.nilc (.t 14))),.op 7 (oA 16 (.fa 1 (.t 15))),.op 8 (oA 17 (.ld (.t 16))),.op 4 (oA 13 (.call n_3r [(.t 12)])),.re 8 (oA 17 (.ld (.t 16))),.op 9 (oA 18 (.call n_2s [(.t 17)])),.op 10 (oM 3 13),.op 11 (oM 4 18)]) (c2_9s)
def c_9s : C :=
 .seq (.ops [oA 2 (.mov (.c (.bool false)))]) (c3_9s)
def f_9s : F := ⟨c_9s, [.t 2], some []⟩
theorem h_9s : compF Tryz.prog (compAny Tryz.prog) n_9s = some (f_9s.body, f_9s.res) := by kernel_rfl
def c_9y : C :=
 .seq (.ops [oA 2 (.mov (.c (.slice none 0 0)))]) (.seq (.ops [oM 3 0,oA 4 (.nilc (.t 3)),oA 5 (.fa 6 (.t 4)),oA 6 (.ld (.t 5)),oA 7 (.call n_8e [(.t 6)]),oM 2 7]) (.ret))
def f_9y : F := ⟨c_9y, [.t 2], some []⟩
theorem h_9y : compF Tryz.prog (compAny Tryz.prog) n_9y = some (f_9y.body, f_9y.res) := by kernel_rfl
def c0_4i : C :=
 .seq (.block 3 (.ops [oM 28 0,oM 29 1,oM 30 6,oA 31 (.bin .mul (.c (.int .i64 4)) (.t 30)),oA 32 (.bin .add (.t 29) (.t 31)),oM 33 7,oA 34 (.bin .add (.t 32) (.t 33)),oM 35 2,oM 36 6,oA 37 (.ia 1 (.t 35) (.t 36)),oA 38 (.ld (.t 37)),oM 39 7,oA 40 (.bin .mul (.c (.int .i64 8)) (.t 39)),oA 41 (.bin .sub (.c (.int .i64 24)) (.t 40)),oA 42 (.conv .u64 (.t 41)),oA 43 (.bin .shr (.t 38) (.t 42)),oA 44 (.conv .u8 (.t 43)),oA 45 (.ia 1 (.t 28) (.t 34)),oS (.st (.t 45) (.t 44))])) (.ops [oM 26 7,oA 27 (.bin .add (.t 26) (.c (.int .i64 1))),oM 7 27])
def c1_4i : C :=
 .seq (.seq (.ops [oM 24 7,oA 25 (.bin .lss (.t 24) (.c (.int .i64 4)))]) (.cond (.t 25) (.skip) (.exit 2))) (c0_4i)
def c2_4i : C :=
 .seq (.seq (.ops [oM 8 6,oM 9 2,oA 10 (.len 1 (.t 9)),oA 11 (.bin .lss (.t 8) (.t 10)),oM 12 11,oT 13 12 (.mov (.t 1)),oT 14 12 (.mov (.t 6)),oT 15 12 (.bin .mul (.c (.int .i64 4)) (.t 14)),oT 16 12 (.bin .add (.t 13) (.t 15)),oT 17 12 (.bin .add (.t 16) (.c (.int .i64 4))),oT 18 12 (.mov (.t 0)),oT 19 12 (.len 1 (.t 18)),oT 20 12 (.bin .leq (.t 17) (.t 19)),oA 21 (.pick (.t 12) (.t 20) (.c (.bool false)))]) (.cond (.t 21) (.skip) (.exit 0))) (.seq (.block 1 (.seq (.ops [oA 7 (.mov (.c (.int .i64 0)))]) (.block 2 (.loop c1_4i)))) (.ops [oM 22 6,oA 23 (.bin .add (.t 22) (.c (.int .i64 1))),oM 6 23]))
def c_4i : C :=
 .seq (.ops [oA 6 (.mov (.c (.int .i64 0)))]) (.block 0 (.loop c2_4i))
def f_4i : F := ⟨c_4i, [], some []⟩
theorem h_4i : compF Tryz.prog (compAny Tryz.prog) n_4i = some (f_4i.body, f_4i.res) := by kernel_rfl
def c0_4j : C :=
 .seq (.ops [oA 6 (.ldn 6 (.t 1)),oA 7 (.call n_6k [(.t 6)]),oM 5 7,oA 8 (.ext (.t 5) 0),oA 9 (.ext (.t 5) 1),oM 3 8,oM 4 9]) (.seq (.ops [oM 10 3,oM 2 10]) (.ret))
def c_4j : C :=
 .seq (.ops [oA 1 (.box (.t 0)),oA 2 (.mov (.c (.int .u32 0)))]) (c0_4j)
def f_4j : F := ⟨c_4j, [.t 2], some []⟩
theorem h_4j : compF Tryz.prog (compAny Tryz.prog) n_4j = some (f_4j.body, f_4j.res) := by kernel_rfl
def c0_4c : C :=
 .seq (.ops [oA 42 (.fa 1 (.t 1)),oA 43 (.ld (.t 42)),oA 44 (.bin .and (.t 43) (.c (.int .i64 3))),oA 45 (.bin .add (.c (.int .i64 28)) (.t 44)),oA 46 (.fa 1 (.t 4)),oS (.st (.t 46) (.t 45))]) (.ops [oA 47 (.fa 5 (.t 4)),oA 48 (.ld (.t 47)),oA 49 (.bin .and (.t 48) (.c (.int .u32 2044))),oA 50 (.fa 5 (.t 4)),oS (.st (.t 50) (.t 49))])
def c1_4c : C :=
 .seq (.any 0 [.op 0 (oA 32 (.ldn 7 (.t 1))),.op 1 (oM 33 5),.op 2 (oM 34 3),.op 3 (oA 35 (.bin .quo (.t 34) (.c (.int .i64 16)))),.op 4 (oM 36 5),.op 5 (oA 37 (.len 1 (.t 36))),.op 6 (oA 38 (.bin .rem (.t 35) (.t 37))),.op 7 (oA 39 (.ia 1 (.t 33) (.t 38))),.op 8 (oA 40 (.ld (.t 39))),.op 9 (oA 41 (.call n_4e [(.t 32),(.t 40)])),.op 10 (oS (.stn 6 (.t 4) (.t 41)))]) (c0_4c)
def c2_4c : C :=
 .seq (.ops [oA 31 (.bsl 12 (List.replicate 12 (.int .i64 0)) [(0,1,(.c (.int .i64 66))),(1,1,(.c (.int .i64 67))),(2,1,(.c (.int .i64 68))),(3,1,(.c (.int .i64 69))),(4,1,(.c (.int .i64 70))),(5,1,(.c (.int .i64 71))),(6,1,(.c (.int .i64 72))),(7,1,(.c (.int .i64 73))),(8,1,(.c (.int .i64 74))),(9,1,(.c (.int .i64 75))),(10,1,(.c (.int .i64 73))),(11,1,(.c (.int .i64 68)))]),oM 5 31]) (c1_4c)
def c3_4c : C :=
 .ops [oA 65 (.fa 5 (.t 1)),oA 66 (.ld (.t 65)),oA 67 (.bin .rem (.t 66) (.c (.int .u32 16))),oA 68 (.conv .i32 (.t 67)),oA 69 (.bin .sub (.t 68) (.c (.int .i32 6))),oA 70 (.conv .u32 (.t 69)),oA 71 (.bin .and (.t 70) (.c (.int .u32 65535))),oA 72 (.fa 5 (.t 4)),oS (.st (.t 72) (.t 71))]
def c4_4c : C :=
 .seq (.any 0 [.op 0 (oA 55 (.ldn 7 (.t 1))),.op 1 (oM 56 6),.op 2 (oM 57 3),.op 3 (oA 58 (.bin .quo (.t 57) (.c (.int .i64 16)))),.op 4 (oM 59 6),.op 5 (oA 60 (.len 1 (.t 59))),.op 6 (oA 61 (.bin .rem (.t 58) (.t 60))),.op 7 (oA 62 (.ia 1 (.t 56) (.t 61))),.op 8 (oA 63 (.ld (.t 62))),.op 9 (oA 64 (.call n_4e [(.t 55),(.t 63)])),.op 10 (oS (.stn 6 (.t 4) (.t 64)))]) (c3_4c)
def c5_4c : C :=
 .seq (.ops [oA 54 (.bsl 8 [(.int .i64 0),(.int .i64 0),(.int .i64 0),(.int .i64 0),(.int .i64 0),(.int .i64 0),(.int .i64 0),(.int .i64 0)] [(0,1,(.c (.int .i64 42))),(1,1,(.c (.int .i64 43))),(2,1,(.c (.int .i64 44))),(3,1,(.c (.int .i64 45))),(4,1,(.c (.int .i64 36))),(5,1,(.c (.int .i64 37))),(6,1,(.c (.int .i64 39))),(7,1,(.c (.int .i64 42)))]),oM 6 54]) (c4_4c)
def c6_4c : C :=
 .ops [oA 94 (.bsl 8 [(.int .i64 0),(.int .i64 0),(.int .i64 0),(.int .i64 0),(.int .i64 0),(.int .i64 0),(.int .i64 0),(.int .i64 0)] [(0,1,(.c (.int .i64 12))),(1,1,(.c (.int .i64 13))),(2,1,(.c (.int .i64 11))),(3,1,(.c (.int .i64 9))),(4,1,(.c (.int .i64 10))),(5,1,(.c (.int .i64 2))),(6,1,(.c (.int .i64 0))),(7,1,(.c (.int .i64 14)))]),oA 95 (.fa 3 (.t 1)),oA 96 (.ld (.t 95)),oA 97 (.bin .and (.t 96) (.c (.int .i64 7))),oA 98 (.ia 1 (.t 94) (.t 97)),oA 99 (.ld (.t 98)),oA 100 (.fa 3 (.t 4)),oS (.st (.t 100) (.t 99))]
def c7_4c : C :=
 .seq (.ops [oA 86 (.fa 0 (.t 4)),oA 87 (.ld (.t 86)),oA 88 (.bin .eql (.t 87) (.c (.int .i64 55))),oM 89 88,oF 90 89 (.fa 0 (.t 4)),oF 91 89 (.ld (.t 90)),oF 92 89 (.bin .eql (.t 91) (.c (.int .i64 54))),oA 93 (.pick (.t 89) (.c (.bool true)) (.t 92))]) (.cond (.t 93) (c6_4c) (.skip))
def c8_4c : C :=
 .seq (.any 0 [.op 0 (oA 76 (.ldn 7 (.t 1))),.op 1 (oM 77 7),.op 2 (oM 78 3),.op 3 (oA 79 (.bin .quo (.t 78) (.c (.int .i64 16)))),.op 4 (oM 80 7),.op 5 (oA 81 (.len 1 (.t 80))),.op 6 (oA 82 (.bin .rem (.t 79) (.t 81))),.op 7 (oA 83 (.ia 1 (.t 77) (.t 82))),.op 8 (oA 84 (.ld (.t 83))),.op 9 (oA 85 (.call n_4e [(.t 76),(.t 84)])),.op 10 (oS (.stn 6 (.t 4) (.t 85)))]) (c7_4c)
def c9_4c : C :=
 .seq (.ops [oA 75 (.bsl 10 (List.replicate 10 (.int .i64 0)) [(0,1,(.c (.int .i64 55))),(1,1,(.c (.int .i64 54))),(2,1,(.c (.int .i64 55))),(3,1,(.c (.int .i64 57))),(4,1,(.c (.int .i64 59))),(5,1,(.c (.int .i64 56))),(6,1,(.c (.int .i64 58))),(7,1,(.c (.int .i64 60))),(8,1,(.c (.int .i64 11))),(9,1,(.c (.int .i64 61)))]),oM 7 75]) (c8_4c)
def c10_4c : C :=
 .seq (.seq (.ops [oA 52 (.bin .eql (.t 16) (.c (.int .i64 7))),oM 51 52]) (.cond (.t 51) (.skip) (.ops [oA 53 (.bin .eql (.t 16) (.c (.int .i64 8))),oM 51 53]))) (.cond (.t 51) (c5_4c) (.seq (.ops [oA 74 (.bin .eql (.t 16) (.c (.int .i64 9))),oM 73 74]) (.cond (.t 73) (c9_4c) (.skip))))
def c11_4c : C :=
 .seq (.seq (.ops [oA 28 (.bin .eql (.t 16) (.c (.int .i64 4))),oM 27 28]) (.cond (.t 27) (.skip) (.seq (.ops [oA 29 (.bin .eql (.t 16) (.c (.int .i64 5))),oM 27 29]) (.cond (.t 27) (.skip) (.ops [oA 30 (.bin .eql (.t 16) (.c (.int .i64 6))),oM 27 30]))))) (.cond (.t 27) (c2_4c) (c10_4c))
def c12_4c : C :=
 .seq (.seq (.ops [oA 23 (.bin .eql (.t 16) (.c (.int .i64 2))),oM 22 23]) (.cond (.t 22) (.skip) (.ops [oA 24 (.bin .eql (.t 16) (.c (.int .i64 3))),oM 22 24]))) (.cond (.t 22) (.ops [oA 25 (.ldn 7 (.t 1)),oA 26 (.call n_4b [(.t 25)]),oS (.stn 6 (.t 4) (.t 26))]) (c11_4c))
def c13_4c : C :=
 .block 0 (.seq (.seq (.ops [oA 18 (.bin .eql (.t 16) (.c (.int .i64 0))),oM 17 18]) (.cond (.t 17) (.skip) (.ops [oA 19 (.bin .eql (.t 16) (.c (.int .i64 1))),oM 17 19]))) (.cond (.t 17) (.seq (.ops [oA 20 (.fa 6 (.t 1)),oA 21 (.ld (.t 20)),oM 2 21]) (.ret)) (c12_4c)))
def c14_4c : C :=
 .seq (.ops [oA 102 (.ldn 6 (.t 4)),oA 103 (.call n_6k [(.t 102)]),oM 101 103,oA 104 (.ext (.t 101) 0),oA 105 (.ext (.t 101) 1),oM 8 104,oM 9 105]) (.seq (.ops [oM 106 8,oM 2 106]) (.ret))
def c15_4c : C :=
 .seq (.ops [oA 13 (.ldn 7 (.t 1)),oA 14 (.call n_4f [(.t 13)]),oA 4 (.new [(.int .i64 0),(.int .i64 0),(.int .i64 0),(.int .i64 0),(.int .i64 0),(.int .u32 0)]),oS (.stn 6 (.t 4) (.t 14))]) (.seq (.seq (.ops [oM 15 3,oA 16 (.bin .rem (.t 15) (.c (.int .i64 16)))]) (c13_4c)) (c14_4c))
def c_4c : C :=
 .seq (.ops [oA 1 (.box (.t 0)),oA 2 (.mov (.c (.int .u32 0)))]) (.seq (.ops [oA 10 (.fa 0 (.t 1)),oA 11 (.ld (.t 10)),oA 12 (.call n_4a [(.t 11),(.c (.int .i64 0)),(.c (.int .i64 1048576))]),oM 3 12]) (c15_4c))
def f_4c : F := ⟨c_4c, [.t 2], some []⟩
theorem h_4c : compF Tryz.prog (compAny Tryz.prog) n_4c = some (f_4c.body, f_4c.res) := by kernel_rfl
def c0_8e : C :=
 .seq (.seq (.ops [oM 3 0,oA 4 (.eqn 1 false (.t 3))]) (.cond (.t 4) (.seq (.ops [oA 2 (.mov (.c (.slice none 0 0)))]) (.ret)) (.skip))) (.seq (.ops [oA 5 (.bsl 0 [] []),oM 6 0,oA 7 (.app 1 1 (.t 5) (.t 6)),oM 2 7]) (.ret))
def c_8e : C :=
 .seq (.ops [oA 2 (.mov (.c (.slice none 0 0)))]) (c0_8e)
def f_8e : F := ⟨c_8e, [.t 2], some []⟩
theorem h_8e : compF Tryz.prog (compAny Tryz.prog) n_8e = some (f_8e.body, f_8e.res) := by kernel_rfl
end Go.Proofs.YtoiiphcbkejliaaGreat.Cd

set_option maxRecDepth 100000
set_option linter.defProp false
namespace Go.Proofs.YtoiiphcbkejliaaGreat.Cd
open Go Go.Dx
def c_3t : C :=
 .seq (.ops [oA 2 (.new [(.int .u32 0),(.int .u32 0),(.int .u32 0),(.int .u32 0),(.int .u32 0),(.int .u32 0),(.int .u32 0),(.int .u32 0),(.int .u32 0),(.int .u32 0),(.int .u32 0),(.int .u32 0),(.int .u32 0),(.int .u32 0),(.int .u32 0),(.int .u32 0),(.int .u32 0),(.int .u32 0),(.int .u32 0),(.int .u32 0),(.int .u32 0),(.int .u32 0),(.int .u32 0),(.int .u32 0),(.int .u32 0),(.int .u32 0),(.int .u32 0),(.int .u32 0),(.int .u32 0),(.int .u32 0),(.int .u32 0),(.int .u32 0),(.int .u32 0),(.int .u32 0),(.int .u32 0),(.int .u32 0),(.bool false),(.bool false),(.int .u32 0),(.int .u32 0),(.int .u32 0),(.int .u32 0),(.int .u32 0),(.int .u32 0),(.int .u32 0),(.int .u32 0),(.int .u32 0),(.int .u32 0),(.int .u32 0),(.int .u32 0),(.int .u32 0),(.int .u32 0),(.int .u32 0),(.int .u32 0),(.int .u32 0),(.int .u32 0),(.int .u32 0),(.int .u32 0),(.int .u32 0),(.int .u32 0),(.int .u32 0),(.int .u32 0),(.int .u32 0),(.int .u32 0),(.int .u32 0),(.int .u32 0),(.int .u32 0),(.int .u32 0),(.int .u32 0),(.int .u32 0),(.int .u32 0),(.bool false),(.int .i64 0)])]) (.seq (.ops [oM 3 0,oA 4 (.nilc (.t 3)),oA 5 (.fa 0 (.t 4)),oA 6 (.ldn 73 (.t 5)),oS (.stn 73 (.t 2) (.t 6))]) (.ret))
def f_3t : F := ⟨c_3t, [.ldn 73 2], some []⟩
theorem h_3t : compF Tryz.prog (compAny Tryz.prog) n_3t = some (f_3t.body, f_3t.res) := by kernel_rfl
def c_3r : C :=
 .seq (.ops [oA 2 (.mov (.c (.pointer none)))]) (.seq (.ops [oM 3 0,oA 4 (.nilc (.t 3)),oA 5 (.fa 73 (.t 4)),oA 6 (.ld (.t 5)),oM 2 6]) (.ret))
def f_3r : F := ⟨c_3r, [.t 2], some []⟩
theorem h_3r : compF Tryz.prog (compAny Tryz.prog) n_3r = some (f_3r.body, f_3r.res) := by kernel_rfl
def c0_13 : C :=
 .seq (.ops [oM 3 0,oA 4 (.mn (.t 3) (.c (.int .i64 256))),oA 5 (.mx (.c (.int .i64 1)) (.t 4)),oA 6 (.mkm),oA 7 (.build [(.int .i64 0),(.slice none 0 0),(.map none)] [(0,1,(.t 5)),(2,1,(.t 6))]),oA 8 (.box (.t 7)),oM 2 8]) (.ret)
def c_13 : C :=
 .seq (.ops [oA 2 (.mov (.c (.pointer none)))]) (c0_13)
def f_13 : F := ⟨c_13, [.t 2], some []⟩
theorem h_13 : compF Tryz.prog (compAny Tryz.prog) n_13 = some (f_13.body, f_13.res) := by kernel_rfl
def c0_1a : C :=
 .seq (.ops [oA 2 (.build [(.int .u32 0),(.int .u32 0),(.int .u32 0),(.int .u32 0),(.int .u32 0),(.int .u32 0),(.int .u32 0),(.int .u32 0),(.int .u32 0),(.int .u32 0),(.int .u32 0),(.int .u32 0),(.int .u32 0),(.int .u32 0),(.int .u32 0),(.int .u32 0),(.int .u32 0),(.int .u32 0),(.int .u32 0),(.int .u32 0),(.int .u32 0),(.int .u32 0),(.int .u32 0),(.int .u32 0),(.int .u32 0),(.int .u32 0),(.int .u32 0),(.int .u32 0),(.int .u32 0),(.int .u32 0),(.int .u32 0),(.int .u32 0),(.int .u32 0),(.int .u32 0),(.int .u32 0),(.int .u32 0),(.bool false),(.bool false),(.int .u32 0),(.int .u32 0),(.int .u32 0),(.int .u32 0),(.int .u32 0),(.int .u32 0),(.int .u32 0),(.int .u32 0),(.int .u32 0),(.int .u32 0),(.int .u32 0),(.int .u32 0),(.int .u32 0),(.int .u32 0),(.int .u32 0),(.int .u32 0),(.int .u32 0),(.int .u32 0),(.int .u32 0),(.int .u32 0),(.int .u32 0),(.int .u32 0),(.int .u32 0),(.int .u32 0),(.int .u32 0),(.int .u32 0),(.int .u32 0),(.int .u32 0),(.int .u32 0),(.int .u32 0),(.int .u32 0),(.int .u32 0),(.int .u32 0),(.bool false),(.int .i64 0)] [(34,1,(.c (.int .u32 2147484672))),(35,1,(.c (.int .u32 2147484676)))]),oA 1 (.new [(.int .u32 0),(.int .u32 0),(.int .u32 0),(.int .u32 0),(.int .u32 0),(.int .u32 0),(.int .u32 0),(.int .u32 0),(.int .u32 0),(.int .u32 0),(.int .u32 0),(.int .u32 0),(.int .u32 0),(.int .u32 0),(.int .u32 0),(.int .u32 0),(.int .u32 0),(.int .u32 0),(.int .u32 0),(.int .u32 0),(.int .u32 0),(.int .u32 0),(.int .u32 0),(.int .u32 0),(.int .u32 0),(.int .u32 0),(.int .u32 0),(.int .u32 0),(.int .u32 0),(.int .u32 0),(.int .u32 0),(.int .u32 0),(.int .u32 0),(.int .u32 0),(.int .u32 0),(.int .u32 0),(.bool false),(.bool false),(.int .u32 0),(.int .u32 0),(.int .u32 0),(.int .u32 0),(.int .u32 0),(.int .u32 0),(.int .u32 0),(.int .u32 0),(.int .u32 0),(.int .u32 0),(.int .u32 0),(.int .u32 0),(.int .u32 0),(.int .u32 0),(.int .u32 0),(.int .u32 0),(.int .u32 0),(.int .u32 0),(.int .u32 0),(.int .u32 0),(.int .u32 0),(.int .u32 0),(.int .u32 0),(.int .u32 0),(.int .u32 0),(.int .u32 0),(.int .u32 0),(.int .u32 0),(.int .u32 0),(.int .u32 0),(.int .u32 0),(.int .u32 0),(.int .u32 0),(.bool false),(.int .i64 0)]),oS (.stn 73 (.t 1) (.t 2))]) (.seq (.ops [oA 3 (.fa 39 (.t 1)),oA 4 (.iaa 16 1 (.t 3) (.c (.int .i64 15))),oS (.st (.t 4) (.c (.int .u32 98304)))]) (.seq (.ops [oA 5 (.ldn 73 (.t 1)),oS (.stn 73 (.t 0) (.t 5))]) (.ret)))
def c_1a : C :=
 .seq (.ops [oA 0 (.new [(.int .u32 0),(.int .u32 0),(.int .u32 0),(.int .u32 0),(.int .u32 0),(.int .u32 0),(.int .u32 0),(.int .u32 0),(.int .u32 0),(.int .u32 0),(.int .u32 0),(.int .u32 0),(.int .u32 0),(.int .u32 0),(.int .u32 0),(.int .u32 0),(.int .u32 0),(.int .u32 0),(.int .u32 0),(.int .u32 0),(.int .u32 0),(.int .u32 0),(.int .u32 0),(.int .u32 0),(.int .u32 0),(.int .u32 0),(.int .u32 0),(.int .u32 0),(.int .u32 0),(.int .u32 0),(.int .u32 0),(.int .u32 0),(.int .u32 0),(.int .u32 0),(.int .u32 0),(.int .u32 0),(.bool false),(.bool false),(.int .u32 0),(.int .u32 0),(.int .u32 0),(.int .u32 0),(.int .u32 0),(.int .u32 0),(.int .u32 0),(.int .u32 0),(.int .u32 0),(.int .u32 0),(.int .u32 0),(.int .u32 0),(.int .u32 0),(.int .u32 0),(.int .u32 0),(.int .u32 0),(.int .u32 0),(.int .u32 0),(.int .u32 0),(.int .u32 0),(.int .u32 0),(.int .u32 0),(.int .u32 0),(.int .u32 0),(.int .u32 0),(.int .u32 0),(.int .u32 0),(.int .u32 0),(.int .u32 0),(.int .u32 0),(.int .u32 0),(.int .u32 0),(.int .u32 0),(.bool false),(.int .i64 0)])]) (c0_1a)
def f_1a : F := ⟨c_1a, [.ldn 73 0], some []⟩
theorem h_1a : compF Tryz.prog (compAny Tryz.prog) n_1a = some (f_1a.body, f_1a.res) := by kernel_rfl
def c0_0v : C :=
 .seq (.ops [oM 22 7,oM 23 8,oA 24 (.call n_3m []),oM 25 8,oA 26 (.call n_9e [(.c (.int .i64 1)),(.t 25)]),oM 27 8,oA 28 (.call n_9e [(.c (.int .i64 2)),(.t 27)]),oM 29 8,oA 30 (.call n_9v [(.c (.int .i64 3)),(.t 29)]),oM 31 8,oM 32 7,oA 33 (.call n_2r [(.c (.int .i64 4)),(.t 31),(.t 32)]),oM 34 8,oM 35 7,oM 36 2,oA 37 (.call n_2k [(.c (.int .i64 5)),(.t 34),(.t 35),(.t 36)]),oA 38 (.build [(.pointer none),(.pointer none),(.pointer none),(.pointer none),(.pointer none),(.pointer none),(.pointer none),(.pointer none)] [(0,1,(.t 22)),(1,1,(.t 23)),(2,1,(.t 24)),(3,1,(.t 26)),(4,1,(.t 28)),(5,1,(.t 30)),(6,1,(.t 33)),(7,1,(.t 37))]),oA 39 (.box (.t 38)),oM 6 39]) (.ret)
def c1_0v : C :=
 .seq (.ops [oM 12 7,oM 13 1,oM 14 1,oA 15 (.len 1 (.t 14)),oM 16 7,oA 17 (.call n_7u [(.t 16)]),oA 18 (.conv .i64 (.t 17)),oA 19 (.mn (.t 15) (.t 18)),oA 20 (.sl 1 (.t 13) none (some (.t 19)) none),oA 21 (.call n_7t [(.t 12),(.c (.int .u32 0)),(.t 20)])]) (c0_0v)
def c_0v : C :=
 .seq (.ops [oA 6 (.mov (.c (.pointer none)))]) (.seq (.ops [oM 9 0,oA 10 (.call n_7p [(.t 9)]),oA 11 (.call n_061 []),oM 7 10,oM 8 11]) (c1_0v))
def f_0v : F := ⟨c_0v, [.t 6], some []⟩
theorem h_0v : compF Tryz.prog (compAny Tryz.prog) n_0v = some (f_0v.body, f_0v.res) := by kernel_rfl
def c0_3s : C :=
 .seq (.seq (.ops [oM 39 8,oA 40 (.un .not (.t 39))]) (.cond (.t 40) (.seq (.ops [oM 41 6,oA 4 (.mov (.c (.int .i64 2))),oM 5 41]) (.ret)) (.skip))) (.ops [oM 42 6,oM 43 7,oA 44 (.bin .add (.t 42) (.t 43)),oM 6 44])
def c1_3s : C :=
 .seq (.any 0 [.op 3 (oM 29 0),.op 4 (oA 30 (.nilc (.t 29))),.op 5 (oA 31 (.fa 73 (.t 30))),.op 6 (oA 32 (.ld (.t 31))),.op 0 (oM 26 0),.op 1 (oA 27 (.nilc (.t 26))),.op 2 (oA 28 (.fa 0 (.t 27))),.op 7 (oM 33 1),.op 8 (oM 34 6),.op 9 (oA 35 (.bin .sub (.t 33) (.t 34))),.op 10 (oA 36 (.call n_3w [(.t 28),(.t 32),(.t 35)])),.op 11 (oM 25 36),.op 12 (oA 37 (.ext (.t 25) 0)),.op 13 (oA 38 (.ext (.t 25) 1)),.op 14 (oM 7 37),.op 15 (oM 8 38)]) (c0_3s)
def c2_3s : C :=
 .block 1 (.seq (.seq (.any 0 [.op 3 (oM 17 0),.op 4 (oA 18 (.nilc (.t 17))),.op 5 (oA 19 (.fa 73 (.t 18))),.op 6 (oA 20 (.ld (.t 19))),.op 0 (oM 14 0),.op 1 (oA 15 (.nilc (.t 14))),.op 2 (oA 16 (.fa 0 (.t 15))),.op 7 (oA 21 (.call n_1n [(.t 16),(.t 20)])),.op 8 (oA 22 (.bin .neq (.t 21) (.c (.int .i64 (-2)))))]) (.cond (.t 22) (.seq (.ops [oM 23 6,oA 24 (.bin .add (.t 23) (.c (.int .i64 1))),oM 6 24]) (.exit 1)) (.skip))) (c1_3s))
def c3_3s : C :=
 .seq (.seq (.ops [oM 11 6,oM 12 1,oA 13 (.bin .lss (.t 11) (.t 12))]) (.cond (.t 13) (.skip) (.exit 0))) (c2_3s)
def c4_3s : C :=
 .seq (.ops [oM 9 1,oA 10 (.mn (.t 9) (.c (.int .i64 1099511627776))),oM 1 10]) (.seq (.ops [oA 6 (.mov (.c (.int .i64 0)))]) (.seq (.block 0 (.loop c3_3s)) (.seq (.ops [oM 45 6,oA 4 (.mov (.c (.int .i64 1))),oM 5 45]) (.ret))))
def c_3s : C :=
 .seq (.ops [oA 4 (.mov (.c (.int .i64 0))),oA 5 (.mov (.c (.int .i64 0)))]) (c4_3s)
def f_3s : F := ⟨c_3s, [.t 4, .t 5], some []⟩
theorem h_3s : compF Tryz.prog (compAny Tryz.prog) n_3s = some (f_3s.body, f_3s.res) := by kernel_rfl
def c0_2w : C :=
 .seq (.ops [oM 36 6,oM 37 0,oA 38 (.ldn 4 (.t 7)),oM 39 1,oM 40 6,oA 41 (.bin .sub (.t 39) (.t 40)),oA 42 (.call n_33 [(.t 37),(.t 38),(.t 41)]),oA 43 (.bin .add (.t 36) (.t 42)),oM 6 43]) (.exit 1)
def c1_2w : C :=
 .seq (.ops [oM 31 0,oA 32 (.call n_31 [(.t 31)]),oM 30 32,oA 33 (.ext (.t 30) 0),oA 34 (.ext (.t 30) 1),oA 7 (.new [(.int .u32 0),(.slice none 0 0),(.slice none 0 0),(.slice none 0 0)]),oS (.stn 4 (.t 7) (.t 33)),oM 8 34]) (.seq (.ops [oM 35 8]) (.cond (.t 35) (c0_2w) (.skip)))
def c2_2w : C :=
 .seq (.seq (.ops [oM 72 11,oA 73 (.un .not (.t 72))]) (.cond (.t 73) (.seq (.ops [oM 74 6,oA 4 (.mov (.c (.int .i64 2))),oM 5 74]) (.ret)) (.skip))) (.ops [oM 75 6,oM 76 10,oA 77 (.bin .add (.t 75) (.t 76)),oM 6 77])
def c3_2w : C :=
 .seq (.any 0 [.op 3 (oM 62 0),.op 4 (oA 63 (.nilc (.t 62))),.op 5 (oA 64 (.fa 73 (.t 63))),.op 6 (oA 65 (.ld (.t 64))),.op 0 (oM 59 0),.op 1 (oA 60 (.nilc (.t 59))),.op 2 (oA 61 (.fa 0 (.t 60))),.op 7 (oM 66 1),.op 8 (oM 67 6),.op 9 (oA 68 (.bin .sub (.t 66) (.t 67))),.op 10 (oA 69 (.call n_3w [(.t 61),(.t 65),(.t 68)])),.op 11 (oM 58 69),.op 12 (oA 70 (.ext (.t 58) 0)),.op 13 (oA 71 (.ext (.t 58) 1)),.op 14 (oM 10 70),.op 15 (oM 11 71)]) (c2_2w)
def c4_2w : C :=
 .seq (.ops [oM 52 0,oA 53 (.call n_34 [(.t 52)])]) (.seq (.seq (.ops [oM 54 9,oA 55 (.bin .neq (.t 54) (.c (.int .i64 (-2))))]) (.cond (.t 55) (.seq (.ops [oM 56 6,oA 57 (.bin .add (.t 56) (.c (.int .i64 1))),oM 6 57]) (.exit 1)) (.skip))) (c3_2w))
def c5_2w : C :=
 .seq (.any 0 [.op 3 (oM 47 0),.op 4 (oA 48 (.nilc (.t 47))),.op 5 (oA 49 (.fa 73 (.t 48))),.op 6 (oA 50 (.ld (.t 49))),.op 0 (oM 44 0),.op 1 (oA 45 (.nilc (.t 44))),.op 2 (oA 46 (.fa 0 (.t 45))),.op 7 (oA 51 (.call n_1n [(.t 46),(.t 50)])),.op 8 (oM 9 51)]) (c4_2w)
def c6_2w : C :=
 .seq (.seq (.ops [oM 19 0,oA 20 (.nilc (.t 19)),oA 21 (.fa 0 (.t 20)),oA 22 (.fa 36 (.t 21)),oA 23 (.ld (.t 22)),oA 24 (.un .not (.t 23)),oM 25 24,oT 26 25 (.mov (.t 0)),oT 27 25 (.call n_30 [(.t 26)]),oT 28 25 (.un .not (.t 27)),oA 29 (.pick (.t 25) (.t 28) (.c (.bool false)))]) (.cond (.t 29) (c1_2w) (.skip))) (c5_2w)
def c7_2w : C :=
 .seq (.seq (.ops [oM 14 6,oM 15 1,oA 16 (.bin .lss (.t 14) (.t 15))]) (.cond (.t 16) (.skip) (.exit 0))) (.block 1 (.seq (.ops [oM 17 0,oA 18 (.call n_34 [(.t 17)])]) (c6_2w)))
def c8_2w : C :=
 .seq (.ops [oM 12 1,oA 13 (.mn (.t 12) (.c (.int .i64 1099511627776))),oM 1 13]) (.seq (.ops [oA 6 (.mov (.c (.int .i64 0)))]) (.seq (.skip) (.seq (.block 0 (.loop c7_2w)) (.seq (.ops [oM 78 6,oA 4 (.mov (.c (.int .i64 1))),oM 5 78]) (.ret)))))
def c_2w : C :=
 .seq (.ops [oA 4 (.mov (.c (.int .i64 0))),oA 5 (.mov (.c (.int .i64 0)))]) (c8_2w)
def f_2w : F := ⟨c_2w, [.t 4, .t 5], some []⟩
theorem h_2w : compF Tryz.prog (compAny Tryz.prog) n_2w = some (f_2w.body, f_2w.res) := by kernel_rfl
def c0_3u : C :=
 .any 0 [.op 3 (oM 13 0),.op 4 (oA 14 (.nilc (.t 13))),.op 5 (oA 15 (.fa 73 (.t 14))),.op 6 (oA 16 (.ld (.t 15))),.op 7 (oA 17 (.call n_0m [(.t 16)])),.op 0 (oM 10 0),.op 1 (oA 11 (.nilc (.t 10))),.op 2 (oA 12 (.fa 0 (.t 11))),.op 8 (oA 18 (.call n_1c [(.t 12),(.t 17)]))]
def c_3u : C :=
 .seq (.ops [oM 4 0,oA 5 (.nilc (.t 4)),oA 6 (.fa 73 (.t 5)),oA 7 (.ld (.t 6)),oM 8 1,oA 9 (.call n_0p [(.t 7),(.t 8)])]) (c0_3u)
def f_3u : F := ⟨c_3u, [], some []⟩
theorem h_3u : compF Tryz.prog (compAny Tryz.prog) n_3u = some (f_3u.body, f_3u.res) := by kernel_rfl
def c0_2y : C :=
 .any 0 [.op 3 (oM 13 0),.op 4 (oA 14 (.nilc (.t 13))),.op 5 (oA 15 (.fa 73 (.t 14))),.op 6 (oA 16 (.ld (.t 15))),.op 7 (oA 17 (.call n_0m [(.t 16)])),.op 0 (oM 10 0),.op 1 (oA 11 (.nilc (.t 10))),.op 2 (oA 12 (.fa 0 (.t 11))),.op 8 (oA 18 (.call n_1c [(.t 12),(.t 17)]))]
def c_2y : C :=
 .seq (.ops [oM 4 0,oA 5 (.nilc (.t 4)),oA 6 (.fa 73 (.t 5)),oA 7 (.ld (.t 6)),oM 8 1,oA 9 (.call n_0p [(.t 7),(.t 8)])]) (c0_2y)
def f_2y : F := ⟨c_2y, [], some []⟩
theorem h_2y : compF Tryz.prog (compAny Tryz.prog) n_2y = some (f_2y.body, f_2y.res) := by kernel_rfl
def c_0z : C :=
 .seq (.ops [oM 2 0,oA 3 (.nilc (.t 2)),oA 4 (.fa 1 (.t 3)),oS (.st (.t 4) (.c (.slice none 0 0)))]) (.ops [oM 5 0,oA 6 (.nilc (.t 5)),oA 7 (.fa 2 (.t 6)),oA 8 (.ld (.t 7)),oS (.clrm (.t 8))])
def f_0z : F := ⟨c_0z, [], some []⟩
theorem h_0z : compF Tryz.prog (compAny Tryz.prog) n_0z = some (f_0z.body, f_0z.res) := by kernel_rfl
def c0_34 : C :=
 .seq (.ops [oM 15 0,oA 16 (.nilc (.t 15)),oA 17 (.fa 74 (.t 16)),oA 18 (.ld (.t 17)),oM 19 3,oA 20 (.call n_0x [(.t 18),(.t 19)])]) (.ops [oM 21 0,oA 22 (.nilc (.t 21)),oA 23 (.fa 73 (.t 22)),oA 24 (.ld (.t 23)),oA 25 (.call n_0n [(.t 24)]),oM 26 3,oA 27 (.call n_7w [(.t 25),(.t 26)])])
def c1_34 : C :=
 .seq (.ops [oA 12 (.bin .lss (.t 11) (.t 10))]) (.seq (.cond (.t 12) (.skip) (.exit 0)) (.seq (.block 1 (.seq (.ops [oA 13 (.ia 1 (.t 9) (.t 11)),oA 14 (.ld (.t 13)),oM 3 14]) (c0_34))) (.ops [oA 28 (.bin .add (.t 11) (.c (.int .i64 1))),oM 11 28])))
def c_34 : C :=
 .seq (.ops [oM 4 0,oA 5 (.nilc (.t 4)),oA 6 (.fa 73 (.t 5)),oA 7 (.ld (.t 6)),oA 8 (.call n_0n [(.t 7)]),oA 9 (.call n_7x [(.t 8)]),oA 10 (.len 1 (.t 9)),oA 11 (.mov (.c (.int .i64 0)))]) (.block 0 (.loop c1_34))
def f_34 : F := ⟨c_34, [], some []⟩
theorem h_34 : compF Tryz.prog (compAny Tryz.prog) n_34 = some (f_34.body, f_34.res) := by kernel_rfl
def c0_0y : C :=
 .seq (.ops [oM 19 0,oM 20 0,oA 21 (.nilc (.t 20)),oA 22 (.fa 1 (.t 21)),oA 23 (.ld (.t 22)),oA 24 (.call n_8k [(.t 23),(.c (.int .i64 0)),(.c (.int .i64 1))]),oA 25 (.nilc (.t 19)),oA 26 (.fa 1 (.t 25)),oS (.st (.t 26) (.t 24))]) (.seq (.ops [oA 2 (.mov (.c (.bool true)))]) (.ret))
def c1_0y : C :=
 .seq (.any 0 [.op 0 (oM 9 0),.op 1 (oA 10 (.nilc (.t 9))),.op 2 (oA 11 (.fa 2 (.t 10))),.op 3 (oA 12 (.ld (.t 11))),.op 4 (oM 13 0),.op 5 (oA 14 (.nilc (.t 13))),.op 6 (oA 15 (.fa 1 (.t 14))),.op 7 (oA 16 (.ld (.t 15))),.op 8 (oA 17 (.ia 3 (.t 16) (.c (.int .i64 0)))),.op 9 (oA 18 (.ldn 3 (.t 17))),.op 10 (oS (.del (.agg [(0,1,false,(.int .u32)),(1,1,false,(.int .i64)),(2,1,false,(.int .i64))]) (.t 12) (.t 18)))]) (c0_0y)
def c2_0y : C :=
 .seq (.seq (.ops [oM 3 0,oA 4 (.nilc (.t 3)),oA 5 (.fa 1 (.t 4)),oA 6 (.ld (.t 5)),oA 7 (.len 1 (.t 6)),oA 8 (.bin .eql (.t 7) (.c (.int .i64 0)))]) (.cond (.t 8) (.seq (.ops [oA 2 (.mov (.c (.bool false)))]) (.ret)) (.skip))) (c1_0y)
def c_0y : C :=
 .seq (.ops [oA 2 (.mov (.c (.bool false)))]) (c2_0y)
def f_0y : F := ⟨c_0y, [.t 2], some []⟩
theorem h_0y : compF Tryz.prog (compAny Tryz.prog) n_0y = some (f_0y.body, f_0y.res) := by kernel_rfl
def c_0n : C :=
 .seq (.ops [oA 2 (.mov (.c (.pointer none)))]) (.seq (.ops [oM 3 0,oA 4 (.nilc (.t 3)),oA 5 (.fa 0 (.t 4)),oA 6 (.ld (.t 5)),oM 2 6]) (.ret))
def f_0n : F := ⟨c_0n, [.t 2], some []⟩
theorem h_0n : compF Tryz.prog (compAny Tryz.prog) n_0n = some (f_0n.body, f_0n.res) := by kernel_rfl
def c0_7q : C :=
 .seq (.ops [oM 13 0,oA 14 (.nilc (.t 13)),oA 15 (.fa 0 (.t 14)),oA 16 (.ld (.t 15)),oM 17 1,oM 18 1,oA 19 (.conv .i64 (.t 18)),oM 20 2,oA 21 (.bin .add (.t 19) (.t 20)),oA 22 (.sl 1 (.t 16) (some (.t 17)) (some (.t 21)) none),oA 23 (.call n_8e [(.t 22)]),oM 6 23,oA 7 (.mov (.c (.bool true)))]) (.ret)
def c1_7q : C :=
 .seq (.seq (.ops [oM 8 0,oM 9 1,oM 10 2,oA 11 (.call n_80 [(.t 8),(.t 9),(.t 10)]),oA 12 (.un .not (.t 11))]) (.cond (.t 12) (.seq (.ops [oA 6 (.mov (.c (.slice none 0 0))),oA 7 (.mov (.c (.bool false)))]) (.ret)) (.skip))) (c0_7q)
def c_7q : C :=
 .seq (.ops [oA 6 (.mov (.c (.slice none 0 0))),oA 7 (.mov (.c (.bool false)))]) (c1_7q)
def f_7q : F := ⟨c_7q, [.t 6, .t 7], some []⟩
theorem h_7q : compF Tryz.prog (compAny Tryz.prog) n_7q = some (f_7q.body, f_7q.res) := by kernel_rfl
def c_7u : C :=
 .seq (.ops [oA 2 (.mov (.c (.int .u32 0)))]) (.seq (.ops [oM 3 0,oA 4 (.nilc (.t 3)),oA 5 (.fa 0 (.t 4)),oA 6 (.ld (.t 5)),oA 7 (.len 1 (.t 6)),oA 8 (.conv .u32 (.t 7)),oM 2 8]) (.ret))
def f_7u : F := ⟨c_7u, [.t 2], some []⟩
theorem h_7u : compF Tryz.prog (compAny Tryz.prog) n_7u = some (f_7u.body, f_7u.res) := by kernel_rfl
def c0_8m : C :=
 .seq (.any 0 [.op 0 (oM 16 0),.op 1 (oM 17 5),.op 2 (oA 18 (.ia 1 (.t 16) (.t 17))),.op 3 (oA 19 (.ld (.t 18))),.op 4 (oM 20 1),.op 5 (oM 21 5),.op 6 (oA 22 (.ia 1 (.t 20) (.t 21))),.op 7 (oA 23 (.ld (.t 22))),.op 8 (oA 24 (.bin .neq (.t 19) (.t 23)))]) (.cond (.t 24) (.seq (.ops [oA 4 (.mov (.c (.bool false)))]) (.ret)) (.skip))
def c1_8m : C :=
 .seq (.ops [oA 14 (.bin .lss (.t 13) (.t 12))]) (.seq (.cond (.t 14) (.skip) (.exit 0)) (.seq (.block 1 (.seq (.ops [oM 15 13,oM 5 15]) (c0_8m))) (.ops [oA 25 (.bin .add (.t 13) (.c (.int .i64 1))),oM 13 25])))
def c2_8m : C :=
 .seq (.seq (.ops [oM 6 0,oA 7 (.len 1 (.t 6)),oM 8 1,oA 9 (.len 1 (.t 8)),oA 10 (.bin .neq (.t 7) (.t 9))]) (.cond (.t 10) (.seq (.ops [oA 4 (.mov (.c (.bool false)))]) (.ret)) (.skip))) (.seq (.seq (.ops [oM 11 0,oA 12 (.len 1 (.t 11)),oA 13 (.mov (.c (.int .i64 0)))]) (.block 0 (.loop c1_8m))) (.seq (.ops [oA 4 (.mov (.c (.bool true)))]) (.ret)))
def c_8m : C :=
 .seq (.ops [oA 4 (.mov (.c (.bool false)))]) (c2_8m)
def f_8m : F := ⟨c_8m, [.t 4], some []⟩
theorem h_8m : compF Tryz.prog (compAny Tryz.prog) n_8m = some (f_8m.body, f_8m.res) := by kernel_rfl
def c_0g : C :=
 .seq (.ops [oA 2 (.mov (.c (.slice none 0 0)))]) (.seq (.ops [oM 3 0,oA 4 (.nilc (.t 3)),oA 5 (.fa 7 (.t 4)),oA 6 (.ld (.t 5)),oA 7 (.call n_2c [(.t 6)]),oM 2 7]) (.ret))
def f_0g : F := ⟨c_0g, [.t 2], some []⟩
theorem h_0g : compF Tryz.prog (compAny Tryz.prog) n_0g = some (f_0g.body, f_0g.res) := by kernel_rfl
def c0_8l : C :=
 .seq (.any 0 [.op 0 (oM 16 0),.op 1 (oM 17 5),.op 2 (oA 18 (.ia 3 (.t 16) (.t 17))),.op 3 (oA 19 (.ldn 3 (.t 18))),.op 4 (oM 20 1),.op 5 (oM 21 5),.op 6 (oA 22 (.ia 3 (.t 20) (.t 21))),.op 7 (oA 23 (.ldn 3 (.t 22))),.op 8 (oA 24 (.eqt true (.agg [(0,1,false,(.int .i64)),(1,1,false,(.int .i64)),(2,1,false,(.int .i64))]) (.t 19) (.t 23)))]) (.cond (.t 24) (.seq (.ops [oA 4 (.mov (.c (.bool false)))]) (.ret)) (.skip))
def c1_8l : C :=
 .seq (.ops [oA 14 (.bin .lss (.t 13) (.t 12))]) (.seq (.cond (.t 14) (.skip) (.exit 0)) (.seq (.block 1 (.seq (.ops [oM 15 13,oM 5 15]) (c0_8l))) (.ops [oA 25 (.bin .add (.t 13) (.c (.int .i64 1))),oM 13 25])))
def c2_8l : C :=
 .seq (.seq (.ops [oM 6 0,oA 7 (.len 1 (.t 6)),oM 8 1,oA 9 (.len 1 (.t 8)),oA 10 (.bin .neq (.t 7) (.t 9))]) (.cond (.t 10) (.seq (.ops [oA 4 (.mov (.c (.bool false)))]) (.ret)) (.skip))) (.seq (.seq (.ops [oM 11 0,oA 12 (.len 1 (.t 11)),oA 13 (.mov (.c (.int .i64 0)))]) (.block 0 (.loop c1_8l))) (.seq (.ops [oA 4 (.mov (.c (.bool true)))]) (.ret)))
def c_8l : C :=
 .seq (.ops [oA 4 (.mov (.c (.bool false)))]) (c2_8l)
def f_8l : F := ⟨c_8l, [.t 4], some []⟩
theorem h_8l : compF Tryz.prog (compAny Tryz.prog) n_8l = some (f_8l.body, f_8l.res) := by kernel_rfl
def c_0h : C :=
 .seq (.ops [oA 2 (.mov (.c (.slice none 0 0)))]) (.seq (.ops [oM 3 0,oA 4 (.nilc (.t 3)),oA 5 (.fa 1 (.t 4)),oA 6 (.ld (.t 5)),oA 7 (.call n_071 [(.t 6)]),oM 2 7]) (.ret))
def f_0h : F := ⟨c_0h, [.t 2], some []⟩
theorem h_0h : compF Tryz.prog (compAny Tryz.prog) n_0h = some (f_0h.body, f_0h.res) := by kernel_rfl
def c0_6k : C :=
 .ops [oM 76 6,oA 77 (.bin .or (.t 76) (.c (.int .u32 33554432))),oA 78 (.fa 1 (.t 4)),oA 79 (.ld (.t 78)),oA 80 (.bin .sub (.t 79) (.c (.int .i64 64))),oA 81 (.conv .u32 (.t 80)),oA 82 (.bin .or (.t 77) (.t 81)),oM 6 82]
def c1_6k : C :=
 .seq (.ops [oA 84 (.fa 0 (.t 4)),oA 85 (.ld (.t 84)),oA 86 (.bin .eql (.t 85) (.c (.int .i64 16))),oM 83 86]) (.cond (.t 83) (.ops [oM 87 6,oA 88 (.fa 1 (.t 4)),oA 89 (.ld (.t 88)),oA 90 (.conv .u32 (.t 89)),oA 91 (.bin .shl (.t 90) (.c (.int .u64 21))),oA 92 (.bin .or (.t 87) (.t 91)),oM 6 92]) (.skip))
def c2_6k : C :=
 .seq (.ops [oA 68 (.fa 0 (.t 4)),oA 69 (.ld (.t 68)),oA 70 (.bin .eql (.t 69) (.c (.int .i64 16))),oM 71 70,oT 72 71 (.fa 1 (.t 4)),oT 73 71 (.ld (.t 72)),oT 74 71 (.bin .geq (.t 73) (.c (.int .i64 64))),oA 75 (.pick (.t 71) (.t 74) (.c (.bool false))),oM 67 75]) (.cond (.t 67) (c0_6k) (c1_6k))
def c3_6k : C :=
 .seq (.ops [oA 58 (.fa 0 (.t 4)),oA 59 (.ld (.t 58)),oA 60 (.bin .eql (.t 59) (.c (.int .i64 1))),oM 57 60]) (.cond (.t 57) (.ops [oM 61 6,oA 62 (.fa 1 (.t 4)),oA 63 (.ld (.t 62)),oA 64 (.conv .u32 (.t 63)),oA 65 (.bin .shl (.t 64) (.c (.int .u64 16))),oA 66 (.bin .or (.t 61) (.t 65)),oM 6 66]) (c2_6k))
def c4_6k : C :=
 .seq (.block 0 (.seq (.ops [oA 44 (.fa 0 (.t 4)),oA 45 (.ld (.t 44)),oA 46 (.bin .eql (.t 45) (.c (.int .i64 0))),oM 47 46,oF 48 47 (.fa 0 (.t 4)),oF 49 47 (.ld (.t 48)),oF 50 47 (.bin .eql (.t 49) (.c (.int .i64 28))),oA 51 (.pick (.t 47) (.c (.bool true)) (.t 50)),oM 43 51]) (.cond (.t 43) (.ops [oM 52 6,oA 53 (.fa 1 (.t 4)),oA 54 (.ld (.t 53)),oA 55 (.conv .u32 (.t 54)),oA 56 (.bin .or (.t 52) (.t 55)),oM 6 56]) (c3_6k)))) (.seq (.ops [oM 93 6,oM 2 93,oA 3 (.mov (.c (.bool true)))]) (.ret))
def c5_6k : C :=
 .seq (.ops [oA 16 (.fa 0 (.t 4)),oA 17 (.ld (.t 16)),oA 18 (.conv .u32 (.t 17)),oA 19 (.bin .shl (.t 18) (.c (.int .u64 26))),oA 20 (.fa 1 (.t 1)),oA 21 (.ld (.t 20)),oA 22 (.conv .u32 (.t 21)),oA 23 (.bin .shl (.t 22) (.c (.int .u64 21))),oA 24 (.bin .or (.t 19) (.t 23)),oA 25 (.fa 2 (.t 1)),oA 26 (.ld (.t 25)),oA 27 (.conv .u32 (.t 26)),oA 28 (.bin .shl (.t 27) (.c (.int .u64 16))),oA 29 (.bin .or (.t 24) (.t 28)),oA 30 (.fa 3 (.t 1)),oA 31 (.ld (.t 30)),oA 32 (.conv .u32 (.t 31)),oA 33 (.bin .shl (.t 32) (.c (.int .u64 11))),oA 34 (.bin .or (.t 29) (.t 33)),oA 35 (.fa 4 (.t 1)),oA 36 (.ld (.t 35)),oA 37 (.conv .u32 (.t 36)),oA 38 (.bin .shl (.t 37) (.c (.int .u64 6))),oA 39 (.bin .or (.t 34) (.t 38)),oA 40 (.fa 5 (.t 1)),oA 41 (.ld (.t 40)),oA 42 (.bin .or (.t 39) (.t 41)),oM 6 42]) (c4_6k)
def c6_6k : C :=
 .seq (.ops [oA 11 (.fa 0 (.t 1)),oA 12 (.ld (.t 11)),oA 13 (.call n_6l [(.t 12)]),oM 10 13,oA 14 (.ext (.t 10) 0),oA 15 (.ext (.t 10) 1),oA 4 (.new [(.int .i64 0),(.int .i64 0),(.int .i64 0),(.string .empty)]),oS (.stn 4 (.t 4) (.t 14)),oM 5 15]) (c5_6k)
def c_6k : C :=
 .seq (.ops [oA 1 (.box (.t 0)),oA 2 (.mov (.c (.int .u32 0))),oA 3 (.mov (.c (.bool false)))]) (.seq (.seq (.ops [oA 7 (.ldn 6 (.t 1)),oA 8 (.call n_6j [(.t 7)]),oA 9 (.un .not (.t 8))]) (.cond (.t 9) (.seq (.ops [oA 2 (.mov (.c (.int .u32 0))),oA 3 (.mov (.c (.bool false)))]) (.ret)) (.skip))) (c6_6k))
def f_6k : F := ⟨c_6k, [.t 2, .t 3], some []⟩
theorem h_6k : compF Tryz.prog (compAny Tryz.prog) n_6k = some (f_6k.body, f_6k.res) := by kernel_rfl
def c0_4f : C :=
 .seq (.any 0 [.op 0 (oA 5 (.ldn 7 (.t 1))),.op 2 (oA 7 (.fa 0 (.t 1))),.op 3 (oA 8 (.ld (.t 7))),.op 5 (oM 10 3),.op 6 (oA 11 (.len 1 (.t 10))),.op 4 (oA 9 (.call n_4a [(.t 8),(.c (.int .i64 0)),(.c (.int .i64 1048576))])),.re 0 (oA 5 (.ldn 7 (.t 1))),.re 6 (oA 11 (.len 1 (.t 10))),.op 1 (oM 6 3),.op 7 (oA 12 (.bin .rem (.t 9) (.t 11))),.op 8 (oA 13 (.ia 1 (.t 6) (.t 12))),.op 9 (oA 14 (.ld (.t 13))),.op 10 (oA 15 (.call n_4e [(.t 5),(.t 14)])),.op 11 (oS (.stn 6 (.t 2) (.t 15)))]) (.ret)
def c1_4f : C :=
 .seq (.ops [oA 4 (.bsl 37 (List.replicate 37 (.int .i64 0)) [(0,1,(.c (.int .i64 1))),(1,1,(.c (.int .i64 2))),(2,1,(.c (.int .i64 3))),(3,1,(.c (.int .i64 4))),(4,1,(.c (.int .i64 5))),(5,1,(.c (.int .i64 6))),(6,1,(.c (.int .i64 9))),(7,1,(.c (.int .i64 10))),(8,1,(.c (.int .i64 13))),(9,1,(.c (.int .i64 14))),(10,1,(.c (.int .i64 15))),(11,1,(.c (.int .i64 16))),(12,1,(.c (.int .i64 17))),(13,1,(.c (.int .i64 18))),(14,1,(.c (.int .i64 19))),(15,1,(.c (.int .i64 20))),(16,1,(.c (.int .i64 21))),(17,1,(.c (.int .i64 23))),(18,1,(.c (.int .i64 25))),(19,1,(.c (.int .i64 26))),(20,1,(.c (.int .i64 27))),(21,1,(.c (.int .i64 28))),(22,1,(.c (.int .i64 29))),(23,1,(.c (.int .i64 30))),(24,1,(.c (.int .i64 31))),(25,1,(.c (.int .i64 47))),(26,1,(.c (.int .i64 48))),(27,1,(.c (.int .i64 49))),(28,1,(.c (.int .i64 50))),(29,1,(.c (.int .i64 51))),(30,1,(.c (.int .i64 52))),(31,1,(.c (.int .i64 53))),(32,1,(.c (.int .i64 63))),(33,1,(.c (.int .i64 64))),(34,1,(.c (.int .i64 65))),(35,1,(.c (.int .i64 76))),(36,1,(.c (.int .i64 77)))]),oM 3 4]) (c0_4f)
def c_4f : C :=
 .seq (.ops [oA 1 (.box (.t 0)),oA 2 (.new [(.int .i64 0),(.int .i64 0),(.int .i64 0),(.int .i64 0),(.int .i64 0),(.int .u32 0)])]) (c1_4f)
def f_4f : F := ⟨c_4f, [.ldn 6 2], some []⟩
theorem h_4f : compF Tryz.prog (compAny Tryz.prog) n_4f = some (f_4f.body, f_4f.res) := by kernel_rfl
end Go.Proofs.YtoiiphcbkejliaaGreat.Cd

set_option maxRecDepth 100000
set_option linter.defProp false
namespace Go.Proofs.YtoiiphcbkejliaaGreat.Cd
open Go Go.Dx
def c0_4b : C :=
 .seq (.any 0 [.op 0 (oA 3 (.ldn 7 (.t 1))),.op 1 (oA 4 (.fa 0 (.t 1))),.op 2 (oA 5 (.ld (.t 4))),.op 3 (oA 6 (.call n_4a [(.t 5),(.c (.int .i64 0)),(.c (.int .i64 1048576))])),.re 0 (oA 3 (.ldn 7 (.t 1))),.op 4 (oA 7 (.bin .rem (.t 6) (.c (.int .i64 77)))),.op 5 (oA 8 (.bin .add (.c (.int .i64 1)) (.t 7))),.op 6 (oA 9 (.call n_4e [(.t 3),(.t 8)])),.op 7 (oS (.stn 6 (.t 2) (.t 9)))]) (.ret)
def c_4b : C :=
 .seq (.ops [oA 1 (.box (.t 0)),oA 2 (.new [(.int .i64 0),(.int .i64 0),(.int .i64 0),(.int .i64 0),(.int .i64 0),(.int .u32 0)])]) (c0_4b)
def f_4b : F := ⟨c_4b, [.ldn 6 2], some []⟩
theorem h_4b : compF Tryz.prog (compAny Tryz.prog) n_4b = some (f_4b.body, f_4b.res) := by kernel_rfl
def c0_4e : C :=
 .seq (.ops [oA 45 (.bin .eql (.t 30) (.c (.int .i64 4))),oM 44 45]) (.cond (.t 44) (.ops [oA 46 (.fa 5 (.t 7)),oA 47 (.ld (.t 46)),oA 48 (.bin .and (.t 47) (.c (.int .u32 65535))),oA 49 (.fa 5 (.t 7)),oS (.st (.t 49) (.t 48))]) (.ops [oA 31 (.fa 5 (.t 7)),oS (.st (.t 31) (.c (.int .u32 0)))]))
def c1_4e : C :=
 .cond (.t 38) (.ops [oA 40 (.fa 3 (.t 7)),oS (.st (.t 40) (.c (.int .i64 0)))]) (.seq (.ops [oA 42 (.bin .eql (.t 30) (.c (.int .i64 3))),oM 41 42]) (.cond (.t 41) (.ops [oA 43 (.fa 4 (.t 7)),oS (.st (.t 43) (.c (.int .i64 0)))]) (c0_4e)))
def c2_4e : C :=
 .seq (.ops [oA 36 (.bin .eql (.t 30) (.c (.int .i64 1))),oM 35 36]) (.cond (.t 35) (.ops [oA 37 (.fa 2 (.t 7)),oS (.st (.t 37) (.c (.int .i64 0)))]) (.seq (.ops [oA 39 (.bin .eql (.t 30) (.c (.int .i64 2))),oM 38 39]) (c1_4e)))
def c3_4e : C :=
 .seq (.ops [oA 50 (.ldn 6 (.t 5)),oM 51 6,oA 52 (.call n_4h [(.t 50),(.t 51)]),oA 53 (.call n_6j [(.t 52)]),oA 54 (.un .not (.t 53))]) (.cond (.t 54) (.ops [oA 55 (.ldn 6 (.t 7)),oS (.stn 6 (.t 5) (.t 55))]) (.skip))
def c4_4e : C :=
 .seq (.block 1 (.seq (.ops [oA 29 (.ldn 6 (.t 5)),oA 7 (.new [(.int .i64 0),(.int .i64 0),(.int .i64 0),(.int .i64 0),(.int .i64 0),(.int .u32 0)]),oS (.stn 6 (.t 7) (.t 29))]) (.seq (.seq (.ops [oM 30 6]) (.block 2 (.seq (.ops [oA 33 (.bin .eql (.t 30) (.c (.int .i64 0))),oM 32 33]) (.cond (.t 32) (.ops [oA 34 (.fa 1 (.t 7)),oS (.st (.t 34) (.c (.int .i64 0)))]) (c2_4e))))) (c3_4e)))) (.ops [oM 27 6,oA 28 (.bin .add (.t 27) (.c (.int .i64 1))),oM 6 28])
def c5_4e : C :=
 .seq (.seq (.ops [oM 25 6,oA 26 (.bin .lss (.t 25) (.c (.int .i64 6)))]) (.cond (.t 26) (.skip) (.exit 0))) (c4_4e)
def c6_4e : C :=
 .seq (.any 1 [.op 1 (oA 9 (.fa 1 (.t 2))),.op 2 (oA 10 (.ld (.t 9))),.op 4 (oA 12 (.fa 2 (.t 2))),.op 5 (oA 13 (.ld (.t 12))),.op 7 (oA 15 (.fa 3 (.t 2))),.op 8 (oA 16 (.ld (.t 15))),.op 10 (oA 18 (.fa 4 (.t 2))),.op 11 (oA 19 (.ld (.t 18))),.op 13 (oA 21 (.fa 5 (.t 2))),.op 14 (oA 22 (.ld (.t 21))),.op 3 (oA 11 (.call n_4g [(.t 10)])),.re 5 (oA 13 (.ld (.t 12))),.re 8 (oA 16 (.ld (.t 15))),.re 11 (oA 19 (.ld (.t 18))),.re 14 (oA 22 (.ld (.t 21))),.op 6 (oA 14 (.call n_4g [(.t 13)])),.re 8 (oA 16 (.ld (.t 15))),.re 11 (oA 19 (.ld (.t 18))),.re 14 (oA 22 (.ld (.t 21))),.op 9 (oA 17 (.call n_4g [(.t 16)])),.re 11 (oA 19 (.ld (.t 18))),.re 14 (oA 22 (.ld (.t 21))),.op 12 (oA 20 (.call n_4a [(.t 19),(.c (.int .i64 0)),(.c (.int .i64 31))])),.re 14 (oA 22 (.ld (.t 21))),.op 0 (oM 8 1),.op 15 (oA 23 (.bin .and (.t 22) (.c (.int .u32 67108863)))),.op 16 (oA 24 (.build [(.int .i64 0),(.int .i64 0),(.int .i64 0),(.int .i64 0),(.int .i64 0),(.int .u32 0)] [(0,1,(.t 8)),(1,1,(.t 11)),(2,1,(.t 14)),(3,1,(.t 17)),(4,1,(.t 20)),(5,1,(.t 23))])),.al 17 0 (oA 5 (.new [(.int .i64 0),(.int .i64 0),(.int .i64 0),(.int .i64 0),(.int .i64 0),(.int .u32 0)])),.op 18 (oS (.stn 6 (.t 5) (.t 24)))]) (.seq (.seq (.ops [oA 6 (.mov (.c (.int .i64 0)))]) (.block 0 (.loop c5_4e))) (.seq (.ops [oA 56 (.ldn 6 (.t 5)),oS (.stn 6 (.t 4) (.t 56))]) (.ret)))
def c_4e : C :=
 .seq (.ops [oA 2 (.box (.t 0)),oA 4 (.new [(.int .i64 0),(.int .i64 0),(.int .i64 0),(.int .i64 0),(.int .i64 0),(.int .u32 0)])]) (c6_4e)
def f_4e : F := ⟨c_4e, [.ldn 6 4], some []⟩
theorem h_4e : compF Tryz.prog (compAny Tryz.prog) n_4e = some (f_4e.body, f_4e.res) := by kernel_rfl
end Go.Proofs.YtoiiphcbkejliaaGreat.Cd

set_option maxRecDepth 100000
set_option linter.defProp false
namespace Go.Proofs.YtoiiphcbkejliaaGreat.Cd
open Go Go.Dx
def c0_6m : C :=
 .seq (.block 1 (.seq (.ops [oM 12 0,oM 13 5,oA 14 (.ixs (.t 12) (.t 13)),oM 15 1,oA 16 (.bin .eql (.t 14) (.t 15))]) (.cond (.t 16) (.seq (.ops [oA 4 (.mov (.c (.bool true)))]) (.ret)) (.skip)))) (.ops [oM 10 5,oA 11 (.bin .add (.t 10) (.c (.int .i64 1))),oM 5 11])
def c1_6m : C :=
 .seq (.seq (.ops [oM 6 5,oM 7 0,oA 8 (.len 0 (.t 7)),oA 9 (.bin .lss (.t 6) (.t 8))]) (.cond (.t 9) (.skip) (.exit 0))) (c0_6m)
def c_6m : C :=
 .seq (.ops [oA 4 (.mov (.c (.bool false)))]) (.seq (.seq (.ops [oA 5 (.mov (.c (.int .i64 0)))]) (.block 0 (.loop c1_6m))) (.seq (.ops [oA 4 (.mov (.c (.bool false)))]) (.ret)))
def f_6m : F := ⟨c_6m, [.t 4], some []⟩
theorem h_6m : compF Tryz.prog (compAny Tryz.prog) n_6m = some (f_6m.body, f_6m.res) := by kernel_rfl
def c0_7p : C :=
 .seq (.any 4 [.op 0 (oM 7 3),.op 1 (oA 8 (.bin .mul (.t 7) (.c (.int .i64 1024)))),.al 2 0 (oA 9 (.mks [(.int .u8 0)] 1 (.t 8) (.t 8))),.op 3 (oM 10 3),.al 4 1 (oA 11 (.mks [(.bool false)] 1 (.t 10) (.t 10))),.op 5 (oM 12 3),.al 6 2 (oA 13 (.mks [(.bool false)] 1 (.t 12) (.t 12))),.op 7 (oA 14 (.build [(.slice none 0 0),(.slice none 0 0),(.slice none 0 0)] [(0,1,(.t 9)),(1,1,(.t 11)),(2,1,(.t 13))])),.al 8 3 (oA 15 (.box (.t 14))),.op 9 (oM 2 15)]) (.ret)
def c_7p : C :=
 .seq (.ops [oA 2 (.mov (.c (.pointer none)))]) (.seq (.ops [oM 4 0,oA 5 (.mn (.t 4) (.c (.int .i64 64))),oA 6 (.mx (.c (.int .i64 1)) (.t 5)),oM 3 6]) (c0_7p))
def f_7p : F := ⟨c_7p, [.t 2], some []⟩
theorem h_7p : compF Tryz.prog (compAny Tryz.prog) n_7p = some (f_7p.body, f_7p.res) := by kernel_rfl
def c_061 : C :=
 .seq (.ops [oA 0 (.mov (.c (.pointer none)))]) (.seq (.ops [oA 1 (.build [(.slice none 0 0),(.int .i64 0)] []),oA 2 (.box (.t 1)),oM 0 2]) (.ret))
def f_061 : F := ⟨c_061, [.t 0], some []⟩
theorem h_061 : compF Tryz.prog (compAny Tryz.prog) n_061 = some (f_061.body, f_061.res) := by kernel_rfl
def c0_7t : C :=
 .seq (.ops [oM 13 0,oA 14 (.nilc (.t 13)),oA 15 (.fa 0 (.t 14)),oA 16 (.ld (.t 15)),oM 17 1,oA 18 (.sl 1 (.t 16) (some (.t 17)) none none),oM 19 2,oA 20 (.cpy 1 (.t 18) (.t 19))]) (.seq (.ops [oM 21 0,oM 22 1,oM 23 2,oA 24 (.len 1 (.t 23)),oA 25 (.call n_81 [(.t 21),(.t 22),(.t 24)])]) (.seq (.ops [oA 6 (.mov (.c (.bool true)))]) (.ret)))
def c1_7t : C :=
 .seq (.seq (.ops [oM 7 0,oM 8 1,oM 9 2,oA 10 (.len 1 (.t 9)),oA 11 (.call n_80 [(.t 7),(.t 8),(.t 10)]),oA 12 (.un .not (.t 11))]) (.cond (.t 12) (.seq (.ops [oA 6 (.mov (.c (.bool false)))]) (.ret)) (.skip))) (c0_7t)
def c_7t : C :=
 .seq (.ops [oA 6 (.mov (.c (.bool false)))]) (c1_7t)
def f_7t : F := ⟨c_7t, [.t 6], some []⟩
theorem h_7t : compF Tryz.prog (compAny Tryz.prog) n_7t = some (f_7t.body, f_7t.res) := by kernel_rfl
def c_3m : C :=
 .seq (.ops [oA 0 (.mov (.c (.pointer none)))]) (.seq (.ops [oA 1 (.build [(.int .u32 0),(.int .u32 0)] []),oA 2 (.box (.t 1)),oM 0 2]) (.ret))
def f_3m : F := ⟨c_3m, [.t 0], some []⟩
theorem h_3m : compF Tryz.prog (compAny Tryz.prog) n_3m = some (f_3m.body, f_3m.res) := by kernel_rfl
def c0_9e : C :=
 .seq (.seq (.ops [oM 5 1,oA 6 (.eqn 0 false (.t 5))]) (.cond (.t 6) (.seq (.ops [oA 4 (.mov (.c (.pointer none)))]) (.ret)) (.skip))) (.seq (.ops [oM 7 0,oM 8 1,oA 9 (.build [(.int .i64 0),(.pointer none),(.int .u32 0),(.int .u32 0),(.int .u32 0)] [(0,1,(.t 7)),(1,1,(.t 8))]),oA 10 (.box (.t 9)),oM 4 10]) (.ret))
def c_9e : C :=
 .seq (.ops [oA 4 (.mov (.c (.pointer none)))]) (c0_9e)
def f_9e : F := ⟨c_9e, [.t 4], some []⟩
theorem h_9e : compF Tryz.prog (compAny Tryz.prog) n_9e = some (f_9e.body, f_9e.res) := by kernel_rfl
def c0_9v : C :=
 .seq (.any 3 [.op 0 (oM 7 0),.op 1 (oM 8 1),.al 2 0 (oA 9 (.mkc 1 (.c (.int .i64 16)))),.al 3 1 (oA 10 (.mkc 1 (.c (.int .i64 16)))),.op 4 (oA 11 (.build [(.int .i64 0),(.pointer none),(.chan none),(.chan none),(.bool false),(.int .u32 0),(.slice none 0 0)] [(0,1,(.t 7)),(1,1,(.t 8)),(2,1,(.t 9)),(3,1,(.t 10))])),.al 5 2 (oA 12 (.box (.t 11))),.op 6 (oM 4 12)]) (.ret)
def c_9v : C :=
 .seq (.ops [oA 4 (.mov (.c (.pointer none)))]) (.seq (.seq (.ops [oM 5 1,oA 6 (.eqn 0 false (.t 5))]) (.cond (.t 6) (.seq (.ops [oA 4 (.mov (.c (.pointer none)))]) (.ret)) (.skip))) (c0_9v))
def f_9v : F := ⟨c_9v, [.t 4], some []⟩
theorem h_9v : compF Tryz.prog (compAny Tryz.prog) n_9v = some (f_9v.body, f_9v.res) := by kernel_rfl
def c0_2r : C :=
 .seq (.ops [oM 13 0,oM 14 1,oM 15 2,oA 16 (.build [(.int .i64 0),(.pointer none),(.pointer none),(.int .u32 0),(.int .u32 0),(.int .u32 0),(.int .u32 0)] [(0,1,(.t 13)),(1,1,(.t 14)),(2,1,(.t 15))]),oA 17 (.box (.t 16)),oM 6 17]) (.ret)
def c1_2r : C :=
 .seq (.seq (.ops [oM 7 1,oA 8 (.eqn 0 false (.t 7)),oM 9 8,oF 10 9 (.mov (.t 2)),oF 11 9 (.eqn 0 false (.t 10)),oA 12 (.pick (.t 9) (.c (.bool true)) (.t 11))]) (.cond (.t 12) (.seq (.ops [oA 6 (.mov (.c (.pointer none)))]) (.ret)) (.skip))) (c0_2r)
def c_2r : C :=
 .seq (.ops [oA 6 (.mov (.c (.pointer none)))]) (c1_2r)
def f_2r : F := ⟨c_2r, [.t 6], some []⟩
theorem h_2r : compF Tryz.prog (compAny Tryz.prog) n_2r = some (f_2r.body, f_2r.res) := by kernel_rfl
def c0_2k : C :=
 .seq (.ops [oM 29 0,oM 30 1,oM 31 2,oM 32 10,oA 33 (.build [(.int .i64 0),(.pointer none),(.pointer none),(.slice none 0 0),(.int .u32 0),(.int .u32 0),(.int .u32 0),(.int .u32 0)] [(0,1,(.t 29)),(1,1,(.t 30)),(2,1,(.t 31)),(3,1,(.t 32))]),oA 34 (.box (.t 33)),oM 8 34]) (.ret)
def c1_2k : C :=
 .seq (.ops [oM 23 9,oA 24 (.bin .mul (.t 23) (.c (.int .i64 64))),oA 25 (.mks [(.int .u8 0)] 1 (.t 24) (.t 24)),oM 10 25]) (.seq (.ops [oM 26 10,oM 27 3,oA 28 (.cpy 1 (.t 26) (.t 27))]) (c0_2k))
def c2_2k : C :=
 .seq (.ops [oM 17 3,oA 18 (.len 1 (.t 17)),oA 19 (.bin .add (.t 18) (.c (.int .i64 64))),oA 20 (.bin .sub (.t 19) (.c (.int .i64 1))),oA 21 (.bin .quo (.t 20) (.c (.int .i64 64))),oA 22 (.mn (.t 21) (.c (.int .i64 64))),oM 9 22]) (c1_2k)
def c3_2k : C :=
 .seq (.seq (.ops [oM 11 1,oA 12 (.eqn 0 false (.t 11)),oM 13 12,oF 14 13 (.mov (.t 2)),oF 15 13 (.eqn 0 false (.t 14)),oA 16 (.pick (.t 13) (.c (.bool true)) (.t 15))]) (.cond (.t 16) (.seq (.ops [oA 8 (.mov (.c (.pointer none)))]) (.ret)) (.skip))) (c2_2k)
def c_2k : C :=
 .seq (.ops [oA 8 (.mov (.c (.pointer none)))]) (c3_2k)
def f_2k : F := ⟨c_2k, [.t 8], some []⟩
theorem h_2k : compF Tryz.prog (compAny Tryz.prog) n_2k = some (f_2k.body, f_2k.res) := by kernel_rfl
def c0_1n : C :=
 .seq (.seq (.ops [oM 48 6,oA 49 (.bin .neq (.t 48) (.c (.int .i64 (-1))))]) (.cond (.t 49) (.seq (.ops [oM 50 0,oM 51 1,oM 52 6,oM 53 7,oA 54 (.call n_1p [(.t 50),(.t 51),(.t 52),(.t 53)]),oM 4 54]) (.ret)) (.skip))) (.seq (.ops [oM 55 0,oM 56 1,oA 57 (.ldn 6 (.t 5)),oA 58 (.call n_1l [(.t 55),(.t 56),(.t 57)]),oM 4 58]) (.ret))
def c1_1n : C :=
 .seq (.ops [oM 42 0,oM 43 1,oA 44 (.call n_1m [(.t 42),(.t 43)]),oM 41 44,oA 45 (.ext (.t 41) 0),oA 46 (.ext (.t 41) 1),oA 47 (.ext (.t 41) 2),oA 5 (.new [(.int .i64 0),(.int .i64 0),(.int .i64 0),(.int .i64 0),(.int .i64 0),(.int .u32 0)]),oS (.stn 6 (.t 5) (.t 45)),oM 6 46,oM 7 47]) (c0_1n)
def c2_1n : C :=
 .seq (.seq (.ops [oM 36 0,oA 37 (.call n_1g [(.t 36)])]) (.cond (.t 37) (.seq (.ops [oM 38 0,oM 39 1,oA 40 (.call n_1p [(.t 38),(.t 39),(.c (.int .i64 0)),(.c (.bool false))]),oM 4 40]) (.ret)) (.skip))) (c1_1n)
def c3_1n : C :=
 .seq (.seq (.ops [oM 24 0,oA 25 (.nilc (.t 24)),oA 26 (.fa 71 (.t 25)),oA 27 (.ld (.t 26)),oM 28 27,oT 29 28 (.mov (.t 0)),oT 30 28 (.call n_1d [(.t 29)]),oT 31 28 (.un .not (.t 30)),oA 32 (.pick (.t 28) (.t 31) (.c (.bool false)))]) (.cond (.t 32) (.seq (.ops [oA 4 (.mov (.c (.int .i64 (-2))))]) (.ret)) (.skip))) (.seq (.ops [oM 33 0,oA 34 (.nilc (.t 33)),oA 35 (.fa 71 (.t 34)),oS (.st (.t 35) (.c (.bool false)))]) (c2_1n))
def c4_1n : C :=
 .seq (.ops [oM 14 1,oM 15 0,oA 16 (.nilc (.t 15)),oA 17 (.fa 72 (.t 16)),oA 18 (.ld (.t 17)),oA 19 (.call n_0i [(.t 14),(.t 18)])]) (.seq (.ops [oM 20 0,oM 21 1,oA 22 (.call n_0m [(.t 21)]),oA 23 (.call n_1c [(.t 20),(.t 22)])]) (c3_1n))
def c5_1n : C :=
 .seq (.seq (.ops [oM 8 0,oA 9 (.eqn 0 false (.t 8)),oM 10 9,oF 11 10 (.mov (.t 1)),oF 12 10 (.eqn 0 false (.t 11)),oA 13 (.pick (.t 10) (.c (.bool true)) (.t 12))]) (.cond (.t 13) (.seq (.ops [oA 4 (.mov (.c (.int .i64 0)))]) (.ret)) (.skip))) (c4_1n)
def c_1n : C :=
 .seq (.ops [oA 4 (.mov (.c (.int .i64 0)))]) (c5_1n)
def f_1n : F := ⟨c_1n, [.t 4], some []⟩
theorem h_1n : compF Tryz.prog (compAny Tryz.prog) n_1n = some (f_1n.body, f_1n.res) := by kernel_rfl
def c0_3w : C :=
 .ops [oM 39 11,oM 40 8,oM 41 0,oA 42 (.nilc (.t 41)),oA 43 (.fa 72 (.t 42)),oA 44 (.ld (.t 43)),oA 45 (.bin .sub (.t 40) (.t 44)),oA 46 (.mx (.c (.int .i64 1)) (.t 45)),oA 47 (.mn (.t 39) (.t 46)),oM 11 47]
def c1_3w : C :=
 .seq (.seq (.ops [oM 61 12,oA 62 (.bin .eql (.t 61) (.c (.int .i64 0)))]) (.cond (.t 62) (.ops [oA 12 (.mov (.c (.int .i64 4294967296)))]) (.skip))) (.ops [oM 63 11,oM 64 12,oA 65 (.mn (.t 63) (.t 64)),oM 11 65])
def c2_3w : C :=
 .seq (.any 0 [.op 0 (oM 49 0),.op 1 (oA 50 (.nilc (.t 49))),.op 2 (oA 51 (.fa 39 (.t 50))),.op 3 (oA 52 (.iaa 16 1 (.t 51) (.c (.int .i64 11)))),.op 4 (oA 53 (.ld (.t 52))),.op 5 (oM 54 0),.op 6 (oA 55 (.nilc (.t 54))),.op 7 (oA 56 (.fa 39 (.t 55))),.op 8 (oA 57 (.iaa 16 1 (.t 56) (.c (.int .i64 9)))),.op 9 (oA 58 (.ld (.t 57))),.op 10 (oA 59 (.bin .sub (.t 53) (.t 58))),.op 11 (oA 60 (.conv .i64 (.t 59))),.op 12 (oM 12 60)]) (c1_3w)
def c3_3w : C :=
 .seq (.seq (.ops [oM 48 10]) (.cond (.t 48) (c2_3w) (.skip))) (.seq (.ops [oM 66 0,oM 67 11,oA 68 (.call n_1b [(.t 66),(.t 67)])]) (.seq (.ops [oM 69 11,oM 6 69,oA 7 (.mov (.c (.bool true)))]) (.ret)))
def c4_3w : C :=
 .seq (.seq (.ops [oM 31 9,oA 32 (.un .not (.t 31)),oM 33 32,oT 34 33 (.mov (.t 10)),oT 35 33 (.un .not (.t 34)),oA 36 (.pick (.t 33) (.t 35) (.c (.bool false)))]) (.cond (.t 36) (.seq (.ops [oA 6 (.mov (.c (.int .i64 0))),oA 7 (.mov (.c (.bool false)))]) (.ret)) (.skip))) (.seq (.ops [oM 37 2,oM 11 37]) (.seq (.seq (.ops [oM 38 9]) (.cond (.t 38) (c0_3w) (.skip))) (c3_3w)))
def c5_3w : C :=
 .seq (.ops [oM 24 0,oA 25 (.nilc (.t 24)),oA 26 (.fa 39 (.t 25)),oA 27 (.iaa 16 1 (.t 26) (.c (.int .i64 12))),oA 28 (.ld (.t 27)),oA 29 (.bin .and (.t 28) (.c (.int .u32 32768))),oA 30 (.bin .neq (.t 29) (.c (.int .u32 0))),oM 10 30]) (c4_3w)
def c6_3w : C :=
 .seq (.seq (.ops [oM 13 0,oA 14 (.eqn 0 false (.t 13)),oM 15 14,oF 16 15 (.mov (.t 1)),oF 17 15 (.eqn 0 false (.t 16)),oA 18 (.pick (.t 15) (.c (.bool true)) (.t 17))]) (.cond (.t 18) (.seq (.ops [oA 6 (.mov (.c (.int .i64 0))),oA 7 (.mov (.c (.bool false)))]) (.ret)) (.skip))) (.seq (.ops [oM 20 1,oA 21 (.call n_0k [(.t 20)]),oM 19 21,oA 22 (.ext (.t 19) 0),oA 23 (.ext (.t 19) 1),oM 8 22,oM 9 23]) (c5_3w))
def c_3w : C :=
 .seq (.ops [oA 6 (.mov (.c (.int .i64 0))),oA 7 (.mov (.c (.bool false)))]) (c6_3w)
def f_3w : F := ⟨c_3w, [.t 6, .t 7], some []⟩
theorem h_3w : compF Tryz.prog (compAny Tryz.prog) n_3w = some (f_3w.body, f_3w.res) := by kernel_rfl
def c0_30 : C :=
 .seq (.ops [oM 22 4,oM 23 22,oT 24 23 (.mov (.t 3)),oT 25 23 (.mov (.t 0)),oT 26 23 (.nilc (.t 25)),oT 27 23 (.fa 0 (.t 26)),oT 28 23 (.fa 72 (.t 27)),oT 29 23 (.ld (.t 28)),oT 30 23 (.bin .leq (.t 24) (.t 29)),oA 31 (.pick (.t 23) (.t 30) (.c (.bool false))),oM 32 31,oF 33 32 (.mov (.t 0)),oF 34 32 (.nilc (.t 33)),oF 35 32 (.fa 0 (.t 34)),oF 36 32 (.fa 71 (.t 35)),oF 37 32 (.ld (.t 36)),oA 38 (.pick (.t 32) (.c (.bool true)) (.t 37)),oM 39 38,oF 40 39 (.mov (.t 0)),oF 41 39 (.nilc (.t 40)),oF 42 39 (.fa 0 (.t 41)),oF 43 39 (.call n_1g [(.t 42)]),oA 44 (.pick (.t 39) (.c (.bool true)) (.t 43)),oM 2 44]) (.ret)
def c1_30 : C :=
 .seq (.any 0 [.op 3 (oM 16 0),.op 4 (oA 17 (.nilc (.t 16))),.op 5 (oA 18 (.fa 73 (.t 17))),.op 6 (oA 19 (.ld (.t 18))),.op 7 (oA 20 (.call n_0m [(.t 19)])),.op 0 (oM 13 0),.op 1 (oA 14 (.nilc (.t 13))),.op 2 (oA 15 (.fa 0 (.t 14))),.op 8 (oA 21 (.call n_1c [(.t 15),(.t 20)]))]) (c0_30)
def c2_30 : C :=
 .seq (.ops [oM 6 0,oA 7 (.nilc (.t 6)),oA 8 (.fa 73 (.t 7)),oA 9 (.ld (.t 8)),oA 10 (.call n_0k [(.t 9)]),oM 5 10,oA 11 (.ext (.t 5) 0),oA 12 (.ext (.t 5) 1),oM 3 11,oM 4 12]) (c1_30)
def c_30 : C :=
 .seq (.ops [oA 2 (.mov (.c (.bool false)))]) (c2_30)
def f_30 : F := ⟨c_30, [.t 2], some []⟩
theorem h_30 : compF Tryz.prog (compAny Tryz.prog) n_30 = some (f_30.body, f_30.res) := by kernel_rfl
def c0_31 : C :=
 .seq (.any 0 [.op 0 (oM 66 0),.op 1 (oA 67 (.nilc (.t 66))),.op 2 (oA 68 (.fa 74 (.t 67))),.op 3 (oA 69 (.ld (.t 68))),.op 4 (oA 70 (.ldn 4 (.t 8))),.op 5 (oA 71 (.call n_09 [(.t 70)])),.re 3 (oA 69 (.ld (.t 68))),.op 6 (oA 72 (.call n_0x [(.t 69),(.t 71)]))]) (.ops [oA 9 (.mov (.c (.bool false)))])
def c1_31 : C :=
 .seq (.any 0 [.op 0 (oM 89 0),.op 1 (oA 90 (.nilc (.t 89))),.op 2 (oA 91 (.fa 74 (.t 90))),.op 3 (oA 92 (.ld (.t 91))),.op 4 (oA 93 (.ldn 3 (.t 7))),.op 5 (oA 94 (.ldn 4 (.t 8))),.op 6 (oA 95 (.call n_11 [(.t 92),(.t 93),(.t 94)]))]) (.ops [oM 96 0,oA 97 (.nilc (.t 96)),oA 98 (.fa 76 (.t 97)),oA 99 (.ld (.t 98)),oA 100 (.bin .add (.t 99) (.c (.int .i64 1))),oA 101 (.nilc (.t 96)),oA 102 (.fa 76 (.t 101)),oS (.st (.t 102) (.t 100))])
def c2_31 : C :=
 .seq (.any 0 [.op 0 (oM 76 0),.op 1 (oA 77 (.nilc (.t 76))),.op 2 (oA 78 (.fa 73 (.t 77))),.op 3 (oA 79 (.ld (.t 78))),.op 6 (oM 82 0),.op 7 (oA 83 (.nilc (.t 82))),.op 8 (oA 84 (.fa 75 (.t 83))),.op 9 (oA 85 (.ld (.t 84))),.op 4 (oA 80 (.call n_0n [(.t 79)])),.re 9 (oA 85 (.ld (.t 84))),.op 5 (oM 81 4),.op 10 (oA 86 (.call n_0b [(.t 80),(.t 81),(.t 85)])),.op 11 (oM 75 86),.op 12 (oA 87 (.ext (.t 75) 0)),.op 14 (oS (.stn 4 (.t 8) (.t 87))),.op 13 (oA 88 (.ext (.t 75) 1))]) (c1_31)
def c3_31 : C :=
 .seq (.ops [oM 111 0,oA 112 (.nilc (.t 111)),oA 113 (.fa 77 (.t 112)),oA 114 (.ld (.t 113)),oA 115 (.bin .add (.t 114) (.c (.int .i64 1))),oA 116 (.nilc (.t 111)),oA 117 (.fa 77 (.t 116)),oS (.st (.t 117) (.t 115))]) (.seq (.ops [oA 118 (.ldn 4 (.t 8)),oS (.stn 4 (.t 2) (.t 118)),oA 3 (.mov (.c (.bool true)))]) (.ret))
def c4_31 : C :=
 .seq (.any 0 [.op 0 (oM 103 0),.op 1 (oA 104 (.nilc (.t 103))),.op 2 (oA 105 (.fa 73 (.t 104))),.op 3 (oA 106 (.ld (.t 105))),.op 5 (oA 108 (.ldn 4 (.t 8))),.op 4 (oA 107 (.call n_0n [(.t 106)])),.re 5 (oA 108 (.ldn 4 (.t 8))),.op 6 (oA 109 (.call n_09 [(.t 108)])),.op 7 (oA 110 (.call n_7s [(.t 107),(.t 109)]))]) (c3_31)
def c5_31 : C :=
 .seq (.seq (.any 0 [.op 0 (oM 55 9),.op 1 (oM 56 55),.op 2 (oT 57 56 (.ldn 4 (.t 8))),.op 3 (oT 58 56 (.mov (.t 0))),.op 4 (oT 59 56 (.nilc (.t 58))),.op 5 (oT 60 56 (.fa 73 (.t 59))),.op 6 (oT 61 56 (.ld (.t 60))),.op 7 (oT 62 56 (.call n_0n [(.t 61)])),.re 2 (oT 57 56 (.ldn 4 (.t 8))),.op 8 (oT 63 56 (.call n_0c [(.t 57),(.t 62)])),.op 9 (oT 64 56 (.un .not (.t 63))),.op 10 (oA 65 (.pick (.t 56) (.t 64) (.c (.bool false))))]) (.cond (.t 65) (c0_31) (.skip))) (.seq (.seq (.ops [oM 73 9,oA 74 (.un .not (.t 73))]) (.cond (.t 74) (c2_31) (.skip))) (c4_31))
def c6_31 : C :=
 .seq (.any 1 [.op 0 (oM 47 0),.op 1 (oA 48 (.nilc (.t 47))),.op 2 (oA 49 (.fa 74 (.t 48))),.op 3 (oA 50 (.ld (.t 49))),.op 4 (oA 51 (.ldn 3 (.t 7))),.op 5 (oA 52 (.call n_10 [(.t 50),(.t 51)])),.op 6 (oM 46 52),.op 7 (oA 53 (.ext (.t 46) 0)),.al 9 0 (oA 8 (.new [(.int .u32 0),(.slice none 0 0),(.slice none 0 0),(.slice none 0 0)])),.op 10 (oS (.stn 4 (.t 8) (.t 53))),.op 8 (oA 54 (.ext (.t 46) 1)),.op 11 (oM 9 54)]) (c5_31)
def c7_31 : C :=
 .seq (.any 1 [.op 5 (oM 41 0),.op 6 (oA 42 (.nilc (.t 41))),.op 7 (oA 43 (.fa 75 (.t 42))),.op 8 (oA 44 (.ld (.t 43))),.op 1 (oM 37 0),.op 2 (oA 38 (.nilc (.t 37))),.op 3 (oA 39 (.fa 0 (.t 38))),.op 4 (oA 40 (.call n_83 [(.t 39)])),.re 8 (oA 44 (.ld (.t 43))),.op 0 (oM 36 4),.op 9 (oA 45 (.build [(.int .u32 0),(.int .i64 0),(.int .i64 0)] [(0,1,(.t 36)),(1,1,(.t 40)),(2,1,(.t 44))])),.al 10 0 (oA 7 (.new [(.int .u32 0),(.int .i64 0),(.int .i64 0)])),.op 11 (oS (.stn 3 (.t 7) (.t 45)))]) (c6_31)
def c8_31 : C :=
 .seq (.seq (.ops [oM 23 5,oA 24 (.bin .neq (.t 23) (.c (.int .i64 (-1)))),oM 25 24,oF 26 25 (.mov (.t 4)),oF 27 25 (.mov (.t 0)),oF 28 25 (.nilc (.t 27)),oF 29 25 (.fa 73 (.t 28)),oF 30 25 (.ld (.t 29)),oF 31 25 (.call n_0n [(.t 30)]),oF 32 25 (.call n_7u [(.t 31)]),oF 33 25 (.bin .geq (.t 26) (.t 32)),oA 34 (.pick (.t 25) (.c (.bool true)) (.t 33))]) (.cond (.t 34) (.seq (.ops [oA 35 (.build [(.int .u32 0),(.slice none 0 0),(.slice none 0 0),(.slice none 0 0)] []),oS (.stn 4 (.t 2) (.t 35)),oA 3 (.mov (.c (.bool false)))]) (.ret)) (.skip))) (c7_31)
def c9_31 : C :=
 .seq (.any 0 [.op 3 (oM 14 0),.op 4 (oA 15 (.nilc (.t 14))),.op 5 (oA 16 (.fa 0 (.t 15))),.op 6 (oA 17 (.fa 34 (.t 16))),.op 7 (oA 18 (.ld (.t 17))),.op 0 (oM 11 0),.op 1 (oA 12 (.nilc (.t 11))),.op 2 (oA 13 (.fa 0 (.t 12))),.op 8 (oA 19 (.call n_82 [(.t 13),(.t 18),(.c (.int .i64 4)),(.c (.bool false))])),.op 9 (oM 10 19),.op 10 (oA 20 (.ext (.t 10) 0)),.op 11 (oA 21 (.ext (.t 10) 1)),.op 12 (oA 22 (.ext (.t 10) 2)),.op 13 (oM 4 20),.op 14 (oM 5 21),.op 15 (oM 6 22)]) (c8_31)
def c_31 : C :=
 .seq (.ops [oA 2 (.new [(.int .u32 0),(.slice none 0 0),(.slice none 0 0),(.slice none 0 0)]),oA 3 (.mov (.c (.bool false)))]) (c9_31)
def f_31 : F := ⟨c_31, [.ldn 4 2, .t 3], some []⟩
theorem h_31 : compF Tryz.prog (compAny Tryz.prog) n_31 = some (f_31.body, f_31.res) := by kernel_rfl
def c0_33 : C :=
 .seq (.ops [oM 64 13,oA 65 (.un .not (.t 64)),oM 66 65,oF 67 66 (.mov (.t 12)),oF 68 66 (.fa 1 (.t 4)),oF 69 66 (.ld (.t 68)),oF 70 66 (.mov (.t 9)),oF 71 66 (.ia 1 (.t 69) (.t 70)),oF 72 66 (.ld (.t 71)),oF 73 66 (.bin .neq (.t 67) (.t 72)),oA 74 (.pick (.t 66) (.c (.bool true)) (.t 73))]) (.cond (.t 74) (.exit 0) (.skip))
def c1_33 : C :=
 .seq (.any 0 [.op 1 (oA 76 (.ldn 6 (.t 10))),.op 2 (oA 77 (.fa 3 (.t 4))),.op 3 (oA 78 (.ld (.t 77))),.op 4 (oM 79 9),.op 5 (oA 80 (.ia 1 (.t 78) (.t 79))),.op 6 (oA 81 (.ld (.t 80))),.op 0 (oM 75 0),.op 7 (oA 82 (.call n_2z [(.t 75),(.t 76),(.t 81)])),.op 8 (oM 14 82)]) (.seq (.ops [oM 83 8,oA 84 (.bin .add (.t 83) (.c (.int .i64 1))),oM 8 84]) (.seq (.ops [oM 85 14,oA 86 (.un .not (.t 85))]) (.cond (.t 86) (.exit 0) (.skip))))
def c2_33 : C :=
 .seq (.seq (.any 0 [.op 0 (oM 52 0),.op 1 (oA 53 (.nilc (.t 52))),.op 2 (oA 54 (.fa 73 (.t 53))),.op 3 (oA 55 (.ld (.t 54))),.op 5 (oA 57 (.fa 0 (.t 4))),.op 6 (oA 58 (.ld (.t 57))),.op 4 (oA 56 (.call n_0n [(.t 55)])),.re 6 (oA 58 (.ld (.t 57))),.op 7 (oM 59 11),.op 8 (oA 60 (.bin .add (.t 58) (.t 59))),.op 9 (oA 61 (.call n_7r [(.t 56),(.t 60),(.c (.int .i64 4))])),.op 10 (oM 51 61),.op 11 (oA 62 (.ext (.t 51) 0)),.op 12 (oA 63 (.ext (.t 51) 1)),.op 13 (oM 12 62),.op 14 (oM 13 63)]) (c0_33)) (c1_33)
def c3_33 : C :=
 .seq (.seq (.ops [oM 45 9,oA 46 (.bin .gtr (.t 45) (.c (.int .i64 0))),oM 47 46,oT 48 47 (.mov (.t 0)),oT 49 47 (.call n_30 [(.t 48)]),oA 50 (.pick (.t 47) (.t 49) (.c (.bool false)))]) (.cond (.t 50) (.exit 0) (.skip))) (c2_33)
def c4_33 : C :=
 .seq (.seq (.ops [oM 31 8,oM 32 2,oA 33 (.bin .geq (.t 31) (.t 32)),oM 34 33,oF 35 34 (.mov (.t 0)),oF 36 34 (.nilc (.t 35)),oF 37 34 (.fa 0 (.t 36)),oF 38 34 (.fa 34 (.t 37)),oF 39 34 (.ld (.t 38)),oF 40 34 (.mov (.t 7)),oF 41 34 (.mov (.t 11)),oF 42 34 (.bin .add (.t 40) (.t 41)),oF 43 34 (.bin .neq (.t 39) (.t 42)),oA 44 (.pick (.t 34) (.c (.bool true)) (.t 43))]) (.cond (.t 44) (.exit 0) (.skip))) (c3_33)
def c5_33 : C :=
 .seq (.block 1 (.seq (.ops [oM 25 23,oA 26 (.ia 6 (.t 21) (.t 23)),oA 27 (.ldn 6 (.t 26)),oA 10 (.new [(.int .i64 0),(.int .i64 0),(.int .i64 0),(.int .i64 0),(.int .i64 0),(.int .u32 0)]),oM 9 25,oS (.stn 6 (.t 10) (.t 27))]) (.seq (.ops [oM 28 9,oA 29 (.bin .mul (.c (.int .i64 4)) (.t 28)),oA 30 (.conv .u32 (.t 29)),oM 11 30]) (c4_33)))) (.ops [oA 87 (.bin .add (.t 23) (.c (.int .i64 1))),oM 23 87])
def c6_33 : C :=
 .seq (.ops [oA 24 (.bin .lss (.t 23) (.t 22))]) (.seq (.cond (.t 24) (.skip) (.exit 0)) (c5_33))
def c7_33 : C :=
 .seq (.ops [oA 8 (.mov (.c (.int .i64 0)))]) (.seq (.skip) (.seq (.seq (.ops [oA 20 (.fa 2 (.t 4)),oA 21 (.ld (.t 20)),oA 22 (.len 1 (.t 21)),oA 23 (.mov (.c (.int .i64 0)))]) (.block 0 (.loop c6_33))) (.seq (.ops [oM 88 8,oM 6 88]) (.ret))))
def c_33 : C :=
 .seq (.ops [oA 4 (.box (.t 1)),oA 6 (.mov (.c (.int .i64 0)))]) (.seq (.ops [oM 15 0,oA 16 (.nilc (.t 15)),oA 17 (.fa 0 (.t 16)),oA 18 (.fa 34 (.t 17)),oA 19 (.ld (.t 18)),oM 7 19]) (c7_33))
def f_33 : F := ⟨c_33, [.t 6], some []⟩
theorem h_33 : compF Tryz.prog (compAny Tryz.prog) n_33 = some (f_33.body, f_33.res) := by kernel_rfl
def c_0p : C :=
 .seq (.ops [oM 4 0,oA 5 (.nilc (.t 4)),oA 6 (.fa 5 (.t 5)),oA 7 (.ld (.t 6)),oM 8 1,oA 9 (.call n_001 [(.t 7),(.t 8)])]) (.ops [oM 10 0,oA 11 (.call n_0r [(.t 10)])])
def f_0p : F := ⟨c_0p, [], some []⟩
theorem h_0p : compF Tryz.prog (compAny Tryz.prog) n_0p = some (f_0p.body, f_0p.res) := by kernel_rfl
def c0_1c : C :=
 .any 0 [.op 0 (oM 16 0),.op 1 (oA 17 (.nilc (.t 16))),.op 2 (oA 18 (.fa 39 (.t 17))),.op 3 (oA 19 (.iaa 16 1 (.t 18) (.c (.int .i64 13)))),.op 4 (oA 20 (.ld (.t 19))),.op 5 (oA 21 (.bin .or (.t 20) (.c (.int .u32 1024)))),.op 6 (oA 22 (.nilc (.t 16))),.op 7 (oA 23 (.fa 39 (.t 22))),.op 8 (oA 24 (.iaa 16 1 (.t 23) (.c (.int .i64 13)))),.op 9 (oS (.st (.t 24) (.t 21)))]
def c1_1c : C :=
 .seq (.any 0 [.op 0 (oM 6 0),.op 1 (oA 7 (.nilc (.t 6))),.op 2 (oA 8 (.fa 39 (.t 7))),.op 3 (oA 9 (.iaa 16 1 (.t 8) (.c (.int .i64 13)))),.op 4 (oA 10 (.ld (.t 9))),.op 5 (oA 11 (.bin .andNot (.t 10) (.c (.int .u32 1024)))),.op 6 (oA 12 (.nilc (.t 6))),.op 7 (oA 13 (.fa 39 (.t 12))),.op 8 (oA 14 (.iaa 16 1 (.t 13) (.c (.int .i64 13)))),.op 9 (oS (.st (.t 14) (.t 11)))]) (.seq (.ops [oM 15 1]) (.cond (.t 15) (c0_1c) (.skip)))
def c_1c : C :=
 .seq (.seq (.ops [oM 4 0,oA 5 (.eqn 0 false (.t 4))]) (.cond (.t 5) (.ret) (.skip))) (c1_1c)
def f_1c : F := ⟨c_1c, [], some []⟩
theorem h_1c : compF Tryz.prog (compAny Tryz.prog) n_1c = some (f_1c.body, f_1c.res) := by kernel_rfl
def c_0m : C :=
 .seq (.ops [oA 2 (.mov (.c (.bool false)))]) (.seq (.ops [oM 3 0,oA 4 (.nilc (.t 3)),oA 5 (.fa 2 (.t 4)),oA 6 (.ld (.t 5)),oA 7 (.call n_3i [(.t 6)]),oM 2 7]) (.ret))
def f_0m : F := ⟨c_0m, [.t 2], some []⟩
theorem h_0m : compF Tryz.prog (compAny Tryz.prog) n_0m = some (f_0m.body, f_0m.res) := by kernel_rfl
def c0_7x : C :=
 .seq (.ops [oM 17 3,oM 18 4,oA 19 (.bsl 1 [(.int .i64 0)] [(0,1,(.t 18))]),oA 20 (.app 1 8 (.t 17) (.t 19)),oM 3 20]) (.ops [oM 21 0,oA 22 (.nilc (.t 21)),oA 23 (.fa 2 (.t 22)),oA 24 (.ld (.t 23)),oM 25 4,oA 26 (.ia 1 (.t 24) (.t 25)),oS (.st (.t 26) (.c (.bool false)))])
def c1_7x : C :=
 .seq (.block 1 (.seq (.ops [oM 13 11,oA 14 (.ia 1 (.t 9) (.t 11)),oA 15 (.ld (.t 14)),oM 4 13,oM 5 15]) (.seq (.ops [oM 16 5]) (.cond (.t 16) (c0_7x) (.skip))))) (.ops [oA 27 (.bin .add (.t 11) (.c (.int .i64 1))),oM 11 27])
def c2_7x : C :=
 .seq (.ops [oA 12 (.bin .lss (.t 11) (.t 10))]) (.seq (.cond (.t 12) (.skip) (.exit 0)) (c1_7x))
def c3_7x : C :=
 .seq (.seq (.ops [oM 6 0,oA 7 (.nilc (.t 6)),oA 8 (.fa 2 (.t 7)),oA 9 (.ld (.t 8)),oA 10 (.len 1 (.t 9)),oA 11 (.mov (.c (.int .i64 0)))]) (.block 0 (.loop c2_7x))) (.seq (.ops [oM 28 3,oM 2 28]) (.ret))
def c_7x : C :=
 .seq (.ops [oA 2 (.mov (.c (.slice none 0 0)))]) (.seq (.ops [oA 3 (.mov (.c (.slice none 0 0)))]) (c3_7x))
def f_7x : F := ⟨c_7x, [.t 2], some []⟩
theorem h_7x : compF Tryz.prog (compAny Tryz.prog) n_7x = some (f_7x.body, f_7x.res) := by kernel_rfl
def c0_0x : C :=
 .seq (.any 0 [.op 0 (oM 30 0),.op 1 (oA 31 (.nilc (.t 30))),.op 2 (oA 32 (.fa 2 (.t 31))),.op 3 (oA 33 (.ld (.t 32))),.op 4 (oA 34 (.ldn 3 (.t 7))),.op 5 (oS (.del (.agg [(0,1,false,(.int .u32)),(1,1,false,(.int .i64)),(2,1,false,(.int .i64))]) (.t 33) (.t 34)))]) (.ops [oM 35 5,oA 36 (.bin .add (.t 35) (.c (.int .i64 1))),oM 5 36])
def c1_0x : C :=
 .seq (.any 0 [.op 0 (oM 18 0),.op 1 (oA 19 (.nilc (.t 18))),.op 2 (oA 20 (.fa 2 (.t 19))),.op 3 (oA 21 (.ld (.t 20))),.op 4 (oA 22 (.ldn 3 (.t 7))),.op 5 (oA 23 (.look (.agg [(0,1,false,(.int .u32)),(1,1,false,(.int .i64)),(2,1,false,(.int .i64))]) (.agg #[(.int .u32 0),(.slice none 0 0),(.slice none 0 0),(.slice none 0 0)]) false (.t 21) (.t 22))),.op 6 (oA 24 (.call n_09 [(.t 23)])),.op 7 (oM 25 1),.op 8 (oA 26 (.bin .eql (.t 24) (.t 25)))]) (.cond (.t 26) (.seq (.ops [oM 27 0,oA 28 (.ldn 3 (.t 7)),oA 29 (.call n_12 [(.t 27),(.t 28)])]) (c0_0x)) (.skip))
def c2_0x : C :=
 .seq (.block 1 (.seq (.ops [oA 16 (.ia 3 (.t 12) (.t 14)),oA 17 (.ldn 3 (.t 16)),oA 7 (.new [(.int .u32 0),(.int .i64 0),(.int .i64 0)]),oS (.stn 3 (.t 7) (.t 17))]) (c1_0x))) (.ops [oA 37 (.bin .add (.t 14) (.c (.int .i64 1))),oM 14 37])
def c3_0x : C :=
 .seq (.ops [oA 15 (.bin .lss (.t 14) (.t 13))]) (.seq (.cond (.t 15) (.skip) (.exit 0)) (c2_0x))
def c4_0x : C :=
 .seq (.seq (.ops [oM 8 0,oA 9 (.nilc (.t 8)),oA 10 (.fa 1 (.t 9)),oA 11 (.ld (.t 10)),oA 12 (.call n_8f [(.t 11)]),oA 13 (.len 1 (.t 12)),oA 14 (.mov (.c (.int .i64 0)))]) (.block 0 (.loop c3_0x))) (.seq (.ops [oM 38 5,oM 4 38]) (.ret))
def c_0x : C :=
 .seq (.ops [oA 4 (.mov (.c (.int .i64 0)))]) (.seq (.ops [oA 5 (.mov (.c (.int .i64 0)))]) (c4_0x))
def f_0x : F := ⟨c_0x, [.t 4], some []⟩
theorem h_0x : compF Tryz.prog (compAny Tryz.prog) n_0x = some (f_0x.body, f_0x.res) := by kernel_rfl
def c0_7w : C :=
 .any 0 [.op 0 (oM 7 0),.op 1 (oA 8 (.nilc (.t 7))),.op 2 (oA 9 (.fa 1 (.t 8))),.op 3 (oA 10 (.ld (.t 9))),.op 5 (oM 12 0),.op 6 (oA 13 (.nilc (.t 12))),.op 7 (oA 14 (.fa 2 (.t 13))),.op 8 (oA 15 (.ld (.t 14))),.op 4 (oM 11 1),.op 10 (oA 17 (.ia 1 (.t 10) (.t 11))),.op 11 (oS (.st (.t 17) (.c (.bool false)))),.op 9 (oM 16 1),.op 12 (oA 18 (.ia 1 (.t 15) (.t 16))),.op 13 (oS (.st (.t 18) (.c (.bool false))))]
def c_7w : C :=
 .seq (.ops [oM 4 0,oM 5 1,oA 6 (.call n_7z [(.t 4),(.t 5)])]) (.cond (.t 6) (c0_7w) (.skip))
def f_7w : F := ⟨c_7w, [], some []⟩
theorem h_7w : compF Tryz.prog (compAny Tryz.prog) n_7w = some (f_7w.body, f_7w.res) := by kernel_rfl
def c0_8k : C :=
 .seq (.ops [oM 27 0,oM 28 0,oA 29 (.len 1 (.t 28)),oM 30 7,oA 31 (.sl 3 (.t 27) (some (.t 29)) (some (.t 30)) none),oS (.clr [(.int .u32 0),(.int .i64 0),(.int .i64 0)] (.t 31))]) (.seq (.ops [oM 32 0,oM 6 32]) (.ret))
def c1_8k : C :=
 .seq (.any 0 [.op 0 (oM 20 0),.op 1 (oM 21 1),.op 2 (oA 22 (.sl 3 (.t 20) none (some (.t 21)) none)),.op 3 (oM 23 0),.op 4 (oM 24 2),.op 5 (oA 25 (.sl 3 (.t 23) (some (.t 24)) none none)),.op 6 (oA 26 (.app 3 24 (.t 22) (.t 25))),.op 7 (oM 0 26)]) (c0_8k)
def c2_8k : C :=
 .seq (.seq (.ops [oM 14 1,oM 15 2,oA 16 (.bin .eql (.t 14) (.t 15))]) (.cond (.t 16) (.seq (.ops [oM 17 0,oM 6 17]) (.ret)) (.skip))) (.seq (.ops [oM 18 0,oA 19 (.len 1 (.t 18)),oM 7 19]) (c1_8k))
def c_8k : C :=
 .seq (.ops [oA 6 (.mov (.c (.slice none 0 0)))]) (.seq (.ops [oM 8 0,oM 9 1,oM 10 2,oM 11 0,oA 12 (.len 1 (.t 11)),oA 13 (.sl 3 (.t 8) (some (.t 9)) (some (.t 10)) (some (.t 12)))]) (c2_8k))
def f_8k : F := ⟨c_8k, [.t 6], some []⟩
theorem h_8k : compF Tryz.prog (compAny Tryz.prog) n_8k = some (f_8k.body, f_8k.res) := by kernel_rfl
def c0_80 : C :=
 .seq (.ops [oM 7 2,oA 8 (.bin .geq (.t 7) (.c (.int .i64 0))),oM 9 8,oT 10 9 (.mov (.t 1)),oT 11 9 (.conv .i64 (.t 10)),oT 12 9 (.mov (.t 0)),oT 13 9 (.nilc (.t 12)),oT 14 9 (.fa 0 (.t 13)),oT 15 9 (.ld (.t 14)),oT 16 9 (.len 1 (.t 15)),oT 17 9 (.bin .leq (.t 11) (.t 16)),oA 18 (.pick (.t 9) (.t 17) (.c (.bool false))),oM 19 18,oT 20 19 (.mov (.t 2)),oT 21 19 (.mov (.t 0)),oT 22 19 (.nilc (.t 21)),oT 23 19 (.fa 0 (.t 22)),oT 24 19 (.ld (.t 23)),oT 25 19 (.len 1 (.t 24)),oT 26 19 (.mov (.t 1)),oT 27 19 (.conv .i64 (.t 26)),oT 28 19 (.bin .sub (.t 25) (.t 27)),oT 29 19 (.bin .leq (.t 20) (.t 28)),oA 30 (.pick (.t 19) (.t 29) (.c (.bool false))),oM 6 30]) (.ret)
def c_80 : C :=
 .seq (.ops [oA 6 (.mov (.c (.bool false)))]) (c0_80)
def f_80 : F := ⟨c_80, [.t 6], some []⟩
theorem h_80 : compF Tryz.prog (compAny Tryz.prog) n_80 = some (f_80.body, f_80.res) := by kernel_rfl
def c_2c : C :=
 .seq (.ops [oA 2 (.mov (.c (.slice none 0 0)))]) (.seq (.ops [oM 3 0,oA 4 (.nilc (.t 3)),oA 5 (.fa 3 (.t 4)),oA 6 (.ld (.t 5)),oA 7 (.call n_8e [(.t 6)]),oM 2 7]) (.ret))
def f_2c : F := ⟨c_2c, [.t 2], some []⟩
theorem h_2c : compF Tryz.prog (compAny Tryz.prog) n_2c = some (f_2c.body, f_2c.res) := by kernel_rfl
def c_071 : C :=
 .seq (.ops [oA 2 (.mov (.c (.slice none 0 0)))]) (.seq (.ops [oM 3 0,oA 4 (.nilc (.t 3)),oA 5 (.fa 0 (.t 4)),oA 6 (.ld (.t 5)),oA 7 (.call n_8d [(.t 6)]),oM 2 7]) (.ret))
def f_071 : F := ⟨c_071, [.t 2], some []⟩
theorem h_071 : compF Tryz.prog (compAny Tryz.prog) n_071 = some (f_071.body, f_071.res) := by kernel_rfl
def c0_6j : C :=
 .seq (.any 0 [.op 0 (oA 21 (.fa 1 (.t 1))),.op 1 (oA 22 (.ld (.t 21))),.op 2 (oM 23 5),.op 3 (oA 24 (.call n_6m [(.t 23),(.c (.int .u8 115))])),.re 1 (oA 22 (.ld (.t 21))),.op 4 (oA 25 (.call n_6q [(.t 22),(.t 24)])),.op 5 (oM 26 25),.op 6 (oT 27 26 (.fa 2 (.t 1))),.op 7 (oT 28 26 (.ld (.t 27))),.op 8 (oT 29 26 (.mov (.t 5))),.op 9 (oT 30 26 (.call n_6m [(.t 29),(.c (.int .u8 116))])),.re 7 (oT 28 26 (.ld (.t 27))),.op 10 (oT 31 26 (.call n_6q [(.t 28),(.t 30)])),.op 11 (oA 32 (.pick (.t 26) (.t 31) (.c (.bool false)))),.op 12 (oM 33 32),.op 13 (oT 34 33 (.fa 3 (.t 1))),.op 14 (oT 35 33 (.ld (.t 34))),.op 15 (oT 36 33 (.mov (.t 5))),.op 16 (oT 37 33 (.call n_6m [(.t 36),(.c (.int .u8 100))])),.re 14 (oT 35 33 (.ld (.t 34))),.op 17 (oT 38 33 (.call n_6q [(.t 35),(.t 37)])),.op 18 (oA 39 (.pick (.t 33) (.t 38) (.c (.bool false)))),.op 19 (oM 40 39),.op 20 (oT 41 40 (.fa 4 (.t 1))),.op 21 (oT 42 40 (.ld (.t 41))),.op 22 (oT 43 40 (.mov (.t 5))),.op 23 (oT 44 40 (.call n_6m [(.t 43),(.c (.int .u8 104))])),.re 21 (oT 42 40 (.ld (.t 41))),.op 24 (oT 45 40 (.call n_6q [(.t 42),(.t 44)])),.op 25 (oA 46 (.pick (.t 40) (.t 45) (.c (.bool false)))),.op 26 (oM 47 46),.op 27 (oT 48 47 (.fa 5 (.t 1))),.op 28 (oT 49 47 (.ld (.t 48))),.op 29 (oT 50 47 (.mov (.t 6))),.op 30 (oT 51 47 (.bin .leq (.t 49) (.t 50))),.op 31 (oA 52 (.pick (.t 47) (.t 51) (.c (.bool false)))),.op 32 (oM 2 52)]) (.ret)
def c1_6j : C :=
 .seq (.seq (.ops [oM 17 5,oA 18 (.call n_6m [(.t 17),(.c (.int .u8 105))])]) (.cond (.t 18) (.ops [oA 6 (.mov (.c (.int .u32 65535)))]) (.seq (.ops [oM 19 5,oA 20 (.call n_6m [(.t 19),(.c (.int .u8 106))])]) (.cond (.t 20) (.ops [oA 6 (.mov (.c (.int .u32 67108863)))]) (.skip))))) (c0_6j)
def c2_6j : C :=
 .seq (.seq (.ops [oM 13 4,oA 14 (.un .not (.t 13))]) (.cond (.t 14) (.seq (.ops [oA 2 (.mov (.c (.bool false)))]) (.ret)) (.skip))) (.seq (.ops [oA 15 (.fa 3 (.t 3)),oA 16 (.ld (.t 15)),oM 5 16]) (.seq (.ops [oA 6 (.mov (.c (.int .u32 0)))]) (c1_6j)))
def c3_6j : C :=
 .seq (.ops [oA 8 (.fa 0 (.t 1)),oA 9 (.ld (.t 8)),oA 10 (.call n_6l [(.t 9)]),oM 7 10,oA 11 (.ext (.t 7) 0),oA 12 (.ext (.t 7) 1),oA 3 (.new [(.int .i64 0),(.int .i64 0),(.int .i64 0),(.string .empty)]),oS (.stn 4 (.t 3) (.t 11)),oM 4 12]) (c2_6j)
def c_6j : C :=
 .seq (.ops [oA 1 (.box (.t 0)),oA 2 (.mov (.c (.bool false)))]) (c3_6j)
def f_6j : F := ⟨c_6j, [.t 2], some []⟩
theorem h_6j : compF Tryz.prog (compAny Tryz.prog) n_6j = some (f_6j.body, f_6j.res) := by kernel_rfl
def c0_6l : C :=
 .seq (.block 3 (.seq (.ops [oM 24 5,oM 25 6,oA 26 (.ia 4 (.t 24) (.t 25)),oA 27 (.fa 2 (.t 26)),oA 28 (.ld (.t 27)),oM 29 0,oA 30 (.bin .eql (.t 28) (.t 29))]) (.cond (.t 30) (.seq (.ops [oM 31 5,oM 32 6,oA 33 (.ia 4 (.t 31) (.t 32)),oA 34 (.ldn 4 (.t 33)),oS (.stn 4 (.t 2) (.t 34)),oA 3 (.mov (.c (.bool true)))]) (.ret)) (.skip)))) (.ops [oM 22 6,oA 23 (.bin .add (.t 22) (.c (.int .i64 1))),oM 6 23])
def c1_6l : C :=
 .seq (.seq (.ops [oM 18 6,oM 19 5,oA 20 (.len 1 (.t 19)),oA 21 (.bin .lss (.t 18) (.t 20))]) (.cond (.t 21) (.skip) (.exit 2))) (c0_6l)
def c2_6l : C :=
 .seq (.seq (.ops [oM 12 4,oA 13 (.bin .eql (.t 12) (.c (.int .i64 1)))]) (.cond (.t 13) (.ops [oA 14 (.call n_6o []),oM 5 14]) (.seq (.ops [oM 15 4,oA 16 (.bin .eql (.t 15) (.c (.int .i64 2)))]) (.cond (.t 16) (.ops [oA 17 (.call n_6n []),oM 5 17]) (.skip))))) (.seq (.ops [oA 6 (.mov (.c (.int .i64 0)))]) (.block 2 (.loop c1_6l)))
def c3_6l : C :=
 .seq (.seq (.ops [oM 7 4,oA 8 (.bin .lss (.t 7) (.c (.int .i64 3)))]) (.cond (.t 8) (.skip) (.exit 0))) (.seq (.block 1 (.seq (.ops [oA 11 (.call n_6r []),oM 5 11]) (c2_6l))) (.ops [oM 9 4,oA 10 (.bin .add (.t 9) (.c (.int .i64 1))),oM 4 10]))
def c_6l : C :=
 .seq (.ops [oA 2 (.new [(.int .i64 0),(.int .i64 0),(.int .i64 0),(.string .empty)]),oA 3 (.mov (.c (.bool false)))]) (.seq (.seq (.ops [oA 4 (.mov (.c (.int .i64 0)))]) (.block 0 (.loop c3_6l))) (.seq (.ops [oA 35 (.build [(.int .i64 0),(.int .i64 0),(.int .i64 0),(.string .empty)] []),oS (.stn 4 (.t 2) (.t 35)),oA 3 (.mov (.c (.bool false)))]) (.ret)))
def f_6l : F := ⟨c_6l, [.ldn 4 2, .t 3], some []⟩
theorem h_6l : compF Tryz.prog (compAny Tryz.prog) n_6l = some (f_6l.body, f_6l.res) := by kernel_rfl
end Go.Proofs.YtoiiphcbkejliaaGreat.Cd

set_option maxRecDepth 100000
set_option linter.defProp false
namespace Go.Proofs.YtoiiphcbkejliaaGreat.Cd
open Go Go.Dx
def c0_4g : C :=
 .seq (.seq (.ops [oM 6 3,oA 7 (.bin .rem (.t 6) (.c (.int .i64 8))),oA 8 (.bin .eql (.t 7) (.c (.int .i64 7)))]) (.cond (.t 8) (.seq (.ops [oM 9 3,oA 10 (.bin .quo (.t 9) (.c (.int .i64 8))),oA 11 (.bin .rem (.t 10) (.c (.int .i64 32))),oM 2 11]) (.ret)) (.skip))) (.seq (.ops [oM 12 3,oA 13 (.bin .quo (.t 12) (.c (.int .i64 8))),oA 14 (.bin .rem (.t 13) (.c (.int .i64 8))),oM 2 14]) (.ret))
def c_4g : C :=
 .seq (.ops [oA 2 (.mov (.c (.int .i64 0)))]) (.seq (.ops [oM 4 0,oA 5 (.call n_4a [(.t 4),(.c (.int .i64 0)),(.c (.int .i64 1048576))]),oM 3 5]) (c0_4g))
def f_4g : F := ⟨c_4g, [.t 2], some []⟩
theorem h_4g : compF Tryz.prog (compAny Tryz.prog) n_4g = some (f_4g.body, f_4g.res) := by kernel_rfl
def c0_4h : C :=
 .seq (.ops [oA 24 (.bin .eql (.t 9) (.c (.int .i64 4))),oM 23 24]) (.cond (.t 23) (.ops [oA 25 (.fa 5 (.t 2)),oA 26 (.ld (.t 25)),oA 27 (.fa 5 (.t 5)),oS (.st (.t 27) (.t 26))]) (.ops [oA 10 (.fa 5 (.t 5)),oS (.st (.t 10) (.c (.int .u32 1)))]))
def c1_4h : C :=
 .cond (.t 17) (.ops [oA 19 (.fa 3 (.t 5)),oS (.st (.t 19) (.c (.int .i64 1)))]) (.seq (.ops [oA 21 (.bin .eql (.t 9) (.c (.int .i64 3))),oM 20 21]) (.cond (.t 20) (.ops [oA 22 (.fa 4 (.t 5)),oS (.st (.t 22) (.c (.int .i64 1)))]) (c0_4h)))
def c2_4h : C :=
 .seq (.ops [oA 15 (.bin .eql (.t 9) (.c (.int .i64 1))),oM 14 15]) (.cond (.t 14) (.ops [oA 16 (.fa 2 (.t 5)),oS (.st (.t 16) (.c (.int .i64 1)))]) (.seq (.ops [oA 18 (.bin .eql (.t 9) (.c (.int .i64 2))),oM 17 18]) (c1_4h)))
def c3_4h : C :=
 .seq (.seq (.ops [oM 9 1]) (.block 0 (.seq (.ops [oA 12 (.bin .eql (.t 9) (.c (.int .i64 0))),oM 11 12]) (.cond (.t 11) (.ops [oA 13 (.fa 1 (.t 5)),oS (.st (.t 13) (.c (.int .i64 1)))]) (c2_4h))))) (.seq (.ops [oA 28 (.ldn 6 (.t 5)),oS (.stn 6 (.t 4) (.t 28))]) (.ret))
def c4_4h : C :=
 .seq (.ops [oA 6 (.fa 0 (.t 2)),oA 7 (.ld (.t 6)),oA 8 (.build [(.int .i64 0),(.int .i64 0),(.int .i64 0),(.int .i64 0),(.int .i64 0),(.int .u32 0)] [(0,1,(.t 7))]),oA 5 (.new [(.int .i64 0),(.int .i64 0),(.int .i64 0),(.int .i64 0),(.int .i64 0),(.int .u32 0)]),oS (.stn 6 (.t 5) (.t 8))]) (c3_4h)
def c_4h : C :=
 .seq (.ops [oA 2 (.box (.t 0)),oA 4 (.new [(.int .i64 0),(.int .i64 0),(.int .i64 0),(.int .i64 0),(.int .i64 0),(.int .u32 0)])]) (c4_4h)
def f_4h : F := ⟨c_4h, [.ldn 6 4], some []⟩
theorem h_4h : compF Tryz.prog (compAny Tryz.prog) n_4h = some (f_4h.body, f_4h.res) := by kernel_rfl
end Go.Proofs.YtoiiphcbkejliaaGreat.Cd
