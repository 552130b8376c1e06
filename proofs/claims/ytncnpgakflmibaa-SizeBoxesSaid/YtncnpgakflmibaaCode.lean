/- Written by a program of ours (wip/tools/aigen.py): the operations of Go functions in the form of the abstract interpreter. -/
import Derived.Test.YtncnpgakflmibaaAi1
namespace Go.Proofs.Ytncnpgakflmibaa.Ai
namespace K
abbrev quoinlaw13_SizeBoxes : Nat := 3
abbrev quoinlaw13_SizeNested : Nat := 4
abbrev quoinlaw9_Tame : Nat := 5
abbrev quoinref4_Initial : Nat := 6
abbrev size_Outer : Nat := 7
abbrev size_Least : Nat := 8
abbrev size_Most : Nat := 9
abbrev quoinlaw13_awake : Nat := 10
abbrev quoinlaw10_Runs : Nat := 11
abbrev size_content : Nat := 12
abbrev size_Clamp : Nat := 13
abbrev size_Min : Nat := 14
abbrev size_Max : Nat := 15
abbrev size_fixed : Nat := 16
abbrev whit_Glyphs : Nat := 17
abbrev brk_Least : Nat := 18
abbrev brk_Most : Nat := 19
abbrev size_of : Nat := 20
abbrev whit_all : Nat := 21
abbrev whit_blank : Nat := 22
abbrev brk_rows : Nat := 23
abbrev brk_Least_1 : Nat := 24
abbrev brk_Most_1 : Nat := 25
abbrev unit_Pct : Nat := 26
abbrev whit_glyph : Nat := 27
abbrev unit_Hold : Nat := 28
abbrev unit_nearest : Nat := 29
abbrev unit_within : Nat := 30
abbrev strings_IndexByte : Nat := 31
abbrev gaug_Of : Nat := 32
abbrev unit_floor : Nat := 33
abbrev stringslite_IndexByte : Nat := 34
end K
namespace C
def quoinlaw13_SizeBoxes.l1 : ACode :=
  .seq (.seq (.ops [.one (some 37) (.mov (.r 14)),
    .one (some 38) (.mov (.r 0)),
    .one (some 39) (.len false (.r 38)),
    .one (some 40) (.bin .lss (.r 37) (.r 39)),
    .one (some 41) (.mov (.r 40)),
    .sc 41 true [.one (some 42) (.mov (.r 14)), .one (some 43) (.bin .lss (.r 42) (.c (.int .i64 10)))] (.r 43) 44] false [0, 6, 11, 12, 13, 14, 44]) <|
  .cond (.r 44) (.skip)
      (.exit 0)) <|
  .seq (.block 1 [0, 6, 11, 12, 13, 14] <|
    .seq (.ops [.one (some 47) (.callC K.quoinref4_Initial []),
      .one (some 48) (.build ([.int .i64 0, .str [], .int .i64 0, .int .i64 0]) [(1, 1, (.c (.str [97, 98, 32, 99])))]),
      .one (some 49) (.lit 1 ([.int .i64 0, .str [], .int .i64 0, .int .i64 0]) [(0, 4, (.r 48))]),
      .one (some 50) (.build (List.replicate 45 (.int .i64 0) ++ [.nils, .nils]) [(0, 1, (.c (.int .i64 2))), (2, 43, (.r 47)), (46, 1, (.r 49))]),
      .one (some 15) (.alloc (List.replicate 45 (.int .i64 0) ++ [.nils, .nils])),
      .one none (.store 47 (.r 15) (.r 50))] false [0, 6, 11, 12, 13, 14, 15]) <|
    .seq (.ops [.one (some 51) (.mov (.r 0)),
      .one (some 52) (.mov (.r 14)),
      .one (some 53) (.iaddr 1 (.r 51) (.r 52)),
      .one (some 54) (.loadI 1 false (.r 53)),
      .one (some 55) (.bin .and (.r 54) (.c (.int .i64 4095))),
      .one (some 56) (.build ([.int .i64 0, .int .i64 0]) [(0, 1, (.c (.int .i64 1))), (1, 1, (.r 55))]),
      .one (some 57) (.faddr 2 (.r 15)),
      .one (some 58) (.faddr 9 (.r 57)),
      .one none (.store 2 (.r 58) (.r 56))] false [0, 6, 11, 12, 13, 14, 15]) <|
    .seq (.ops [.one (some 59) (.mov (.r 0)),
      .one (some 60) (.mov (.r 14)),
      .one (some 61) (.iaddr 1 (.r 59) (.r 60)),
      .one (some 62) (.loadI 1 false (.r 61)),
      .one (some 63) (.bin .shr (.r 62) (.c (.int .u64 12))),
      .one (some 64) (.bin .and (.r 63) (.c (.int .i64 4095))),
      .one (some 65) (.build ([.int .i64 0, .int .i64 0]) [(0, 1, (.c (.int .i64 1))), (1, 1, (.r 64))]),
      .one (some 66) (.mov (.r 0)),
      .one (some 67) (.mov (.r 14)),
      .one (some 68) (.iaddr 1 (.r 66) (.r 67)),
      .one (some 69) (.loadI 1 false (.r 68)),
      .one (some 70) (.bin .shr (.r 69) (.c (.int .u64 24))),
      .one (some 71) (.bin .and (.r 70) (.c (.int .i64 4095))),
      .one (some 72) (.build ([.int .i64 0, .int .i64 0]) [(0, 1, (.c (.int .i64 1))), (1, 1, (.r 71))]),
      .one (some 73) (.faddr 2 (.r 15)),
      .one (some 74) (.faddr 13 (.r 73)),
      .one none (.store 2 (.r 74) (.r 65)),
      .one (some 75) (.faddr 2 (.r 15)),
      .one (some 76) (.faddr 17 (.r 75)),
      .one none (.store 2 (.r 76) (.r 72))] true [0, 6, 11, 12, 13, 14, 15]) <|
    .seq (.ops [.one (some 77) (.mov (.r 0)),
      .one (some 78) (.mov (.r 14)),
      .one (some 79) (.iaddr 1 (.r 77) (.r 78)),
      .one (some 80) (.loadI 1 false (.r 79)),
      .one (some 81) (.bin .shr (.r 80) (.c (.int .u64 36))),
      .one (some 82) (.bin .and (.r 81) (.c (.int .i64 15))),
      .one (some 83) (.mov (.r 0)),
      .one (some 84) (.mov (.r 14)),
      .one (some 85) (.iaddr 1 (.r 83) (.r 84)),
      .one (some 86) (.loadI 1 false (.r 85)),
      .one (some 87) (.bin .shr (.r 86) (.c (.int .u64 40))),
      .one (some 88) (.bin .and (.r 87) (.c (.int .i64 15))),
      .one (some 89) (.mov (.r 0)),
      .one (some 90) (.mov (.r 14)),
      .one (some 91) (.iaddr 1 (.r 89) (.r 90)),
      .one (some 92) (.loadI 1 false (.r 91)),
      .one (some 93) (.bin .shr (.r 92) (.c (.int .u64 44))),
      .one (some 94) (.bin .and (.r 93) (.c (.int .i64 15))),
      .one (some 95) (.faddr 2 (.r 15)),
      .one (some 96) (.faddr 31 (.r 95)),
      .one (some 97) (.iaddrA 4 1 (.r 96) (.c (.int .i64 1))),
      .one none (.store 1 (.r 97) (.r 82)),
      .one (some 98) (.faddr 2 (.r 15)),
      .one (some 99) (.faddr 35 (.r 98)),
      .one (some 100) (.iaddrA 4 1 (.r 99) (.c (.int .i64 3))),
      .one none (.store 1 (.r 100) (.r 88)),
      .one (some 101) (.faddr 2 (.r 15)),
      .one (some 102) (.faddr 23 (.r 101)),
      .one (some 103) (.iaddrA 4 2 (.r 102) (.c (.int .i64 1))),
      .one (some 104) (.faddr 1 (.r 103)),
      .one none (.store 1 (.r 104) (.r 94))] true [0, 6, 11, 12, 13, 14, 15]) <|
    .seq (.ops [.one (some 105) (.mov (.r 0)),
      .one (some 106) (.mov (.r 14)),
      .one (some 107) (.iaddr 1 (.r 105) (.r 106)),
      .one (some 108) (.loadI 1 false (.r 107)),
      .one (some 109) (.bin .and (.r 108) (.c (.int .i64 4095))),
      .one (some 110) (.mov (.r 0)),
      .one (some 111) (.mov (.r 14)),
      .one (some 112) (.iaddr 1 (.r 110) (.r 111)),
      .one (some 113) (.loadI 1 false (.r 112)),
      .one (some 114) (.bin .shr (.r 113) (.c (.int .u64 24))),
      .one (some 115) (.bin .and (.r 114) (.c (.int .i64 4095))),
      .one (some 116) (.mn [(.r 109), (.r 115)]),
      .one (some 117) (.mov (.r 0)),
      .one (some 118) (.mov (.r 14)),
      .one (some 119) (.iaddr 1 (.r 117) (.r 118)),
      .one (some 120) (.loadI 1 false (.r 119)),
      .one (some 121) (.bin .shr (.r 120) (.c (.int .u64 12))),
      .one (some 122) (.bin .and (.r 121) (.c (.int .i64 4095))),
      .one (some 123) (.mx [(.r 116), (.r 122)]),
      .one (some 124) (.mov (.r 0)),
      .one (some 125) (.mov (.r 14)),
      .one (some 126) (.iaddr 1 (.r 124) (.r 125)),
      .one (some 127) (.loadI 1 false (.r 126)),
      .one (some 128) (.bin .shr (.r 127) (.c (.int .u64 36))),
      .one (some 129) (.bin .and (.r 128) (.c (.int .i64 15))),
      .one (some 130) (.bin .add (.r 123) (.r 129)),
      .one (some 131) (.mov (.r 0)),
      .one (some 132) (.mov (.r 14)),
      .one (some 133) (.iaddr 1 (.r 131) (.r 132)),
      .one (some 134) (.loadI 1 false (.r 133)),
      .one (some 135) (.bin .shr (.r 134) (.c (.int .u64 40))),
      .one (some 136) (.bin .and (.r 135) (.c (.int .i64 15))),
      .one (some 137) (.bin .add (.r 130) (.r 136)),
      .one (some 138) (.mov (.r 0)),
      .one (some 139) (.mov (.r 14)),
      .one (some 140) (.iaddr 1 (.r 138) (.r 139)),
      .one (some 141) (.loadI 1 false (.r 140)),
      .one (some 142) (.bin .shr (.r 141) (.c (.int .u64 44))),
      .one (some 143) (.bin .and (.r 142) (.c (.int .i64 15))),
      .one (some 144) (.bin .add (.r 137) (.r 143)),
      .one (some 16) (.mov (.r 144))] true [0, 6, 11, 12, 13, 14, 15, 16]) <|
    .seq (.seq (.ops [.one (some 145) (.load 256 true (.r 6)),
      .one (some 146) (.load 47 true (.r 15)),
      .one (some 147) (.callC K.size_Outer [(.r 145), (.r 146), (.c (.bool true))]),
      .one (some 148) (.mov (.r 16)),
      .one (some 149) (.bin .neq (.r 147) (.r 148)),
      .one (some 150) (.mov (.r 149)),
      .sc 150 false [.one (some 151) (.load 256 true (.r 6)), .one (some 152) (.load 47 true (.r 15)), .one (some 153) (.callC K.size_Outer [(.r 151), (.r 152), (.c (.bool false))]), .one (some 154) (.mov (.r 16)), .one (some 155) (.bin .neq (.r 153) (.r 154))] (.r 155) 156] false [0, 6, 11, 12, 13, 14, 15, 16, 156]) <|
    .cond (.r 156) (.seq (.ops [.one (some 10) (.mov (.c (.bool false)))] false [10]) <|
          .ret)
        (.skip)) <|
    .seq (.ops [.one (some 157) (.mov (.r 12)),
      .one (some 158) (.mov (.r 16)),
      .one (some 159) (.bin .add (.r 157) (.r 158)),
      .one (some 160) (.mov (.r 13)),
      .one (some 161) (.mov (.r 16)),
      .one (some 162) (.mx [(.r 160), (.r 161)]),
      .one (some 12) (.mov (.r 159)),
      .one (some 13) (.mov (.r 162))] false [0, 6, 11, 12, 13, 14, 15]) <|
    .ops [.one (some 163) (.faddr 45 (.r 11)),
      .one (some 164) (.load 1 false (.r 163)),
      .one (some 165) (.load 47 true (.r 15)),
      .one (some 166) (.lit 1 (List.replicate 45 (.int .i64 0) ++ [.nils, .nils]) [(0, 47, (.r 165))]),
      .one (some 167) (.append 47 408 (.r 164) (.r 166)),
      .one (some 168) (.faddr 45 (.r 11)),
      .one none (.store 1 (.r 168) (.r 167))] false [0, 6, 11, 12, 13, 14]) <|
  .ops [.one (some 45) (.mov (.r 14)),
    .one (some 46) (.bin .add (.r 45) (.c (.int .i64 1))),
    .one (some 14) (.mov (.r 46))] false [0, 6, 11, 12, 13, 14]
/-- quoin/quoinlaw13.SizeBoxes -/
def quoinlaw13_SizeBoxes.body : ACode :=
  .seq (.ops [.one (some 6) (.box (.r 1)),
    .one (some 10) (.mov (.c (.bool false)))] false [0, 2, 3, 4, 6]) <|
  .seq (.ops [.one (some 19) (.load 256 true (.r 6)),
    .one (some 20) (.callC K.quoinlaw9_Tame [(.r 19), (.c (.bool true))]),
    .one none (.store 256 (.r 6) (.r 20))] false [0, 2, 3, 4, 6]) <|
  .seq (.ops [.one (some 21) (.lit 2 ([.int .i64 0]) [(0, 1, (.c (.int .i64 1))), (1, 1, (.c (.int .i64 3)))]),
    .one (some 22) (.mov (.r 2)),
    .one (some 23) (.bin .and (.r 22) (.c (.int .i64 1))),
    .one (some 24) (.iaddr 1 (.r 21) (.r 23)),
    .one (some 25) (.loadI 1 false (.r 24)),
    .one (some 26) (.callC K.quoinref4_Initial []),
    .one (some 27) (.build (List.replicate 45 (.int .i64 0) ++ [.nils, .nils]) [(0, 1, (.r 25)), (2, 43, (.r 26))]),
    .one (some 11) (.alloc (List.replicate 45 (.int .i64 0) ++ [.nils, .nils])),
    .one none (.store 47 (.r 11) (.r 27))] true [0, 3, 4, 6, 11]) <|
  .seq (.ops [.one (some 28) (.mov (.r 3)),
    .one (some 29) (.bin .and (.r 28) (.c (.int .i64 3))),
    .one (some 30) (.mov (.r 4)),
    .one (some 31) (.bin .and (.r 30) (.c (.int .i64 255))),
    .one (some 32) (.bin .rem (.r 31) (.c (.int .i64 3))),
    .one (some 33) (.faddr 2 (.r 11)),
    .one (some 34) (.faddr 1 (.r 33)),
    .one none (.store 1 (.r 34) (.r 29)),
    .one (some 35) (.faddr 2 (.r 11)),
    .one (some 36) (.faddr 2 (.r 35)),
    .one none (.store 1 (.r 36) (.r 32))] false [0, 6, 11]) <|
  .seq (.ops [.one (some 12) (.mov (.c (.int .i64 0))),
    .one (some 13) (.mov (.c (.int .i64 0)))] false [0, 6, 11, 12, 13]) <|
  .seq (.seq (.ops [.one (some 14) (.mov (.c (.int .i64 0)))] false [0, 6, 11, 12, 13, 14]) <|
  .block 0 [6, 11, 12, 13] <|
    .loop [0, 6, 11, 12, 13, 14] quoinlaw13_SizeBoxes.l1) <|
  .seq (.ops [.one (some 169) (.mov (.r 13)),
    .one (some 170) (.mov (.r 13)),
    .one (some 17) (.mov (.r 169)),
    .one (some 18) (.mov (.r 170))] false [6, 11, 12, 17, 18]) <|
  .seq (.seq (.ops [.one (some 171) (.faddr 0 (.r 11)),
    .one (some 172) (.load 1 false (.r 171)),
    .one (some 173) (.bin .eql (.r 172) (.c (.int .i64 3))),
    .one (some 174) (.mov (.r 173)),
    .sc 174 true [.one (some 175) (.faddr 2 (.r 11)), .one (some 176) (.faddr 1 (.r 175)), .one (some 177) (.load 1 false (.r 176)), .one (some 178) (.bin .lss (.r 177) (.c (.int .i64 2)))] (.r 178) 179] false [6, 11, 12, 17, 18, 179]) <|
  .cond (.r 179) (.seq (.ops [.one (some 180) (.mov (.r 12)),
          .one (some 18) (.mov (.r 180))] false [6, 11, 12, 17, 18]) <|
        .seq (.ops [.one (some 181) (.faddr 2 (.r 11)),
          .one (some 182) (.faddr 2 (.r 181)),
          .one (some 183) (.load 1 false (.r 182)),
          .one (some 184) (.bin .eql (.r 183) (.c (.int .i64 0)))] false [6, 11, 12, 17, 18, 184]) <|
        .cond (.r 184) (.ops [.one (some 185) (.mov (.r 12)),
                .one (some 17) (.mov (.r 185))] false [6, 11, 17, 18])
            (.skip))
      (.skip)) <|
  .seq (.ops [.one (some 186) (.load 256 true (.r 6)),
    .one (some 187) (.load 47 true (.r 11)),
    .one (some 188) (.callC K.size_Least [(.r 186), (.r 187)]),
    .one (some 189) (.mov (.r 17)),
    .one (some 190) (.bin .eql (.r 188) (.r 189)),
    .one (some 191) (.mov (.r 190)),
    .sc 191 true [.one (some 192) (.load 256 true (.r 6)), .one (some 193) (.load 47 true (.r 11)), .one (some 194) (.callC K.size_Most [(.r 192), (.r 193)]), .one (some 195) (.mov (.r 18)), .one (some 196) (.bin .eql (.r 194) (.r 195))] (.r 196) 197,
    .one (some 198) (.mov (.r 197)),
    .sc 198 true [.one (some 199) (.callC K.quoinlaw13_awake [])] (.r 199) 200,
    .one (some 10) (.mov (.r 200))] false [10]) <|
  .ret
def quoinlaw13_SizeBoxes : AFun := ⟨quoinlaw13_SizeBoxes.body, [.tmp 10]⟩
def quoinlaw13_SizeNested.l1 : ACode :=
  .seq (.seq (.ops [.one (some 24) (.mov (.r 10)),
    .one (some 25) (.mov (.r 2)),
    .one (some 26) (.len false (.r 25)),
    .one (some 27) (.bin .lss (.r 24) (.r 26)),
    .one (some 28) (.mov (.r 27)),
    .sc 28 true [.one (some 29) (.mov (.r 10)), .one (some 30) (.bin .lss (.r 29) (.c (.int .i64 8)))] (.r 30) 31] false [2, 3, 7, 8, 9, 10, 31]) <|
  .cond (.r 31) (.skip)
      (.exit 0)) <|
  .seq (.block 1 [2, 3, 7, 8, 9, 10] <|
    .seq (.ops [.one (some 34) (.mov (.r 2)),
      .one (some 35) (.mov (.r 10)),
      .one (some 36) (.iaddr 1 (.r 34) (.r 35)),
      .one (some 37) (.loadI 1 false (.r 36)),
      .one (some 38) (.bin .and (.r 37) (.c (.int .i64 255))),
      .one (some 11) (.mov (.r 38))] false [2, 3, 7, 8, 9, 10, 11]) <|
    .seq (.ops [.one (some 39) (.mov (.r 11)),
      .one (some 40) (.mov (.r 11)),
      .one (some 41) (.bin .quo (.r 40) (.c (.int .i64 2))),
      .one (some 42) (.build ([.int .i64 0, .int .i64 0]) [(0, 1, (.c (.int .i64 1))), (1, 1, (.r 41))]),
      .one (some 43) (.faddr 2 (.r 7)),
      .one (some 44) (.faddr 31 (.r 43)),
      .one (some 45) (.iaddrA 4 1 (.r 44) (.c (.int .i64 1))),
      .one none (.store 1 (.r 45) (.r 39)),
      .one (some 46) (.faddr 2 (.r 7)),
      .one (some 47) (.faddr 23 (.r 46)),
      .one (some 48) (.iaddrA 4 2 (.r 47) (.c (.int .i64 3))),
      .one none (.store 2 (.r 48) (.r 42))] false [2, 3, 7, 8, 9, 10, 11]) <|
    .seq (.ops [.one (some 49) (.mov (.r 8)),
      .one (some 50) (.mov (.r 11)),
      .one (some 51) (.bin .add (.r 49) (.r 50)),
      .one (some 52) (.mov (.r 11)),
      .one (some 53) (.bin .quo (.r 52) (.c (.int .i64 2))),
      .one (some 54) (.bin .add (.r 51) (.r 53)),
      .one (some 55) (.mov (.r 9)),
      .one (some 56) (.mov (.r 11)),
      .one (some 57) (.bin .add (.r 55) (.r 56)),
      .one (some 58) (.mov (.r 11)),
      .one (some 59) (.bin .quo (.r 58) (.c (.int .i64 2))),
      .one (some 60) (.bin .add (.r 57) (.r 59)),
      .one (some 8) (.mov (.r 54)),
      .one (some 9) (.mov (.r 60))] false [2, 3, 7, 8, 9, 10]) <|
    .seq (.seq (.ops [.one (some 61) (.load 256 true (.r 3)),
      .one (some 62) (.load 47 true (.r 7)),
      .one (some 63) (.callC K.size_Outer [(.r 61), (.r 62), (.c (.bool true))]),
      .one (some 64) (.mov (.r 8)),
      .one (some 65) (.bin .neq (.r 63) (.r 64)),
      .one (some 66) (.mov (.r 65)),
      .sc 66 false [.one (some 67) (.load 256 true (.r 3)), .one (some 68) (.load 47 true (.r 7)), .one (some 69) (.callC K.size_Outer [(.r 67), (.r 68), (.c (.bool false))]), .one (some 70) (.mov (.r 9)), .one (some 71) (.bin .neq (.r 69) (.r 70))] (.r 71) 72] false [2, 3, 7, 8, 9, 10, 72]) <|
    .cond (.r 72) (.seq (.ops [.one (some 6) (.mov (.c (.bool false)))] false [6]) <|
          .ret)
        (.skip)) <|
    .seq (.ops [.one (some 73) (.callC K.quoinref4_Initial []),
      .one (some 74) (.load 47 true (.r 7)),
      .one (some 75) (.lit 1 (List.replicate 45 (.int .i64 0) ++ [.nils, .nils]) [(0, 47, (.r 74))]),
      .one (some 76) (.build (List.replicate 45 (.int .i64 0) ++ [.nils, .nils]) [(0, 1, (.c (.int .i64 1))), (2, 43, (.r 73)), (45, 1, (.r 75))]),
      .one none (.store 47 (.r 7) (.r 76))] true [2, 3, 7, 8, 9, 10]) <|
    .seq (.ops [.one (some 77) (.load 256 true (.r 3)),
      .one (some 78) (.load 47 true (.r 7)),
      .one (some 79) (.callC K.size_Least [(.r 77), (.r 78)]),
      .one (some 80) (.mov (.r 8)),
      .one (some 81) (.bin .neq (.r 79) (.r 80)),
      .one (some 82) (.mov (.r 81)),
      .sc 82 false [.one (some 83) (.load 256 true (.r 3)), .one (some 84) (.load 47 true (.r 7)), .one (some 85) (.callC K.size_Most [(.r 83), (.r 84)]), .one (some 86) (.mov (.r 9)), .one (some 87) (.bin .neq (.r 85) (.r 86))] (.r 87) 88] false [2, 3, 7, 8, 9, 10, 88]) <|
    .cond (.r 88) (.seq (.ops [.one (some 6) (.mov (.c (.bool false)))] false [6]) <|
          .ret)
        (.skip)) <|
  .ops [.one (some 32) (.mov (.r 10)),
    .one (some 33) (.bin .add (.r 32) (.c (.int .i64 1))),
    .one (some 10) (.mov (.r 33))] false [2, 3, 7, 8, 9, 10]
/-- quoin/quoinlaw13.SizeNested -/
def quoinlaw13_SizeNested.body : ACode :=
  .seq (.ops [.one (some 3) (.box (.r 0)),
    .one (some 6) (.mov (.c (.bool false)))] false [1, 2, 3]) <|
  .seq (.ops [.one (some 12) (.load 256 true (.r 3)),
    .one (some 13) (.callC K.quoinlaw9_Tame [(.r 12), (.c (.bool true))]),
    .one none (.store 256 (.r 3) (.r 13))] false [1, 2, 3]) <|
  .seq (.ops [.one (some 14) (.callC K.quoinref4_Initial []),
    .one (some 15) (.mov (.r 1)),
    .one (some 16) (.callC K.quoinlaw10_Runs [(.r 15)]),
    .one (some 17) (.build (List.replicate 45 (.int .i64 0) ++ [.nils, .nils]) [(0, 1, (.c (.int .i64 2))), (2, 43, (.r 14)), (46, 1, (.r 16))]),
    .one (some 7) (.alloc (List.replicate 45 (.int .i64 0) ++ [.nils, .nils])),
    .one none (.store 47 (.r 7) (.r 17))] false [2, 3, 7]) <|
  .seq (.ops [.one (some 18) (.load 256 true (.r 3)),
    .one (some 19) (.load 47 true (.r 7)),
    .one (some 20) (.callC K.size_Least [(.r 18), (.r 19)]),
    .one (some 21) (.load 256 true (.r 3)),
    .one (some 22) (.load 47 true (.r 7)),
    .one (some 23) (.callC K.size_Most [(.r 21), (.r 22)]),
    .one (some 8) (.mov (.r 20)),
    .one (some 9) (.mov (.r 23))] true [2, 3, 7, 8, 9]) <|
  .seq (.seq (.ops [.one (some 10) (.mov (.c (.int .i64 0)))] false [2, 3, 7, 8, 9, 10]) <|
  .block 0 [8, 9] <|
    .loop [2, 3, 7, 8, 9, 10] quoinlaw13_SizeNested.l1) <|
  .seq (.ops [.one (some 89) (.mov (.r 8)),
    .one (some 90) (.mov (.r 9)),
    .one (some 91) (.bin .leq (.r 89) (.r 90)),
    .one (some 92) (.mov (.r 91)),
    .sc 92 true [.one (some 93) (.callC K.quoinlaw13_awake [])] (.r 93) 94,
    .one (some 6) (.mov (.r 94))] false [6]) <|
  .ret
def quoinlaw13_SizeNested : AFun := ⟨quoinlaw13_SizeNested.body, [.tmp 6]⟩
def quoinlaw9_Tame.l1 : ACode :=
  .seq (.seq (.ops [.one (some 6) (.mov (.r 5)),
    .one (some 7) (.bin .lss (.r 6) (.c (.int .i64 256)))] false [1, 2, 4, 5, 7]) <|
  .cond (.r 7) (.skip)
      (.exit 0)) <|
  .seq (.block 1 [1, 2, 4, 5] <|
    .seq (.ops [.one (some 10) (.mov (.r 5)),
      .one (some 11) (.mov (.r 5)),
      .one (some 12) (.faddr 0 (.r 2)),
      .one (some 13) (.iaddrA 256 1 (.r 12) (.r 11)),
      .one (some 14) (.load 1 false (.r 13)),
      .one (some 15) (.conv .u64 (.r 14)),
      .one (some 16) (.bin .rem (.r 15) (.c (.int .u64 65537))),
      .one (some 17) (.conv .i64 (.r 16)),
      .one (some 18) (.faddr 0 (.r 2)),
      .one (some 19) (.iaddrA 256 1 (.r 18) (.r 10)),
      .one none (.store 1 (.r 19) (.r 17))] false [1, 2, 4, 5]) <|
    .seq (.ops [.one (some 20) (.mov (.r 1))] false [1, 2, 4, 5, 20]) <|
    .cond (.r 20) (.ops [.one (some 21) (.mov (.r 5)),
            .one (some 22) (.mov (.r 5)),
            .one (some 23) (.faddr 0 (.r 2)),
            .one (some 24) (.iaddrA 256 1 (.r 23) (.r 22)),
            .one (some 25) (.load 1 false (.r 24)),
            .one (some 26) (.bin .and (.r 25) (.c (.int .i64 15))),
            .one (some 27) (.faddr 0 (.r 2)),
            .one (some 28) (.iaddrA 256 1 (.r 27) (.r 21)),
            .one none (.store 1 (.r 28) (.r 26))] false [1, 2, 4, 5])
        (.skip)) <|
  .ops [.one (some 8) (.mov (.r 5)),
    .one (some 9) (.bin .add (.r 8) (.c (.int .i64 1))),
    .one (some 5) (.mov (.r 9))] false [1, 2, 4, 5]
/-- quoin/quoinlaw9.Tame -/
def quoinlaw9_Tame.body : ACode :=
  .seq (.ops [.one (some 2) (.box (.r 0)),
    .one (some 4) (.alloc (List.replicate 256 (.int .i64 0)))] false [1, 2, 4]) <|
  .seq (.seq (.ops [.one (some 5) (.mov (.c (.int .i64 0)))] false [1, 2, 4, 5]) <|
  .block 0 [1, 2, 4] <|
    .loop [1, 2, 4, 5] quoinlaw9_Tame.l1) <|
  .seq (.seq (.ops [.one (some 29) (.mov (.r 1))] false [2, 4, 29]) <|
  .cond (.r 29) (.ops [.one (some 30) (.faddr 0 (.r 2)),
          .one (some 31) (.iaddrA 256 1 (.r 30) (.c (.int .i64 97))),
          .one (some 32) (.load 1 false (.r 31)),
          .one (some 33) (.bin .add (.r 32) (.c (.int .i64 64))),
          .one (some 34) (.faddr 0 (.r 2)),
          .one (some 35) (.iaddrA 256 1 (.r 34) (.c (.int .i64 98))),
          .one (some 36) (.load 1 false (.r 35)),
          .one (some 37) (.bin .add (.r 36) (.c (.int .i64 100))),
          .one (some 38) (.faddr 0 (.r 2)),
          .one (some 39) (.iaddrA 256 1 (.r 38) (.c (.int .i64 99))),
          .one (some 40) (.load 1 false (.r 39)),
          .one (some 41) (.bin .add (.r 40) (.c (.int .i64 640))),
          .one (some 42) (.faddr 0 (.r 2)),
          .one (some 43) (.iaddrA 256 1 (.r 42) (.c (.int .i64 32))),
          .one (some 44) (.load 1 false (.r 43)),
          .one (some 45) (.bin .add (.r 44) (.c (.int .i64 32))),
          .one (some 46) (.faddr 0 (.r 2)),
          .one (some 47) (.iaddrA 256 1 (.r 46) (.c (.int .i64 97))),
          .one none (.store 1 (.r 47) (.r 33)),
          .one (some 48) (.faddr 0 (.r 2)),
          .one (some 49) (.iaddrA 256 1 (.r 48) (.c (.int .i64 98))),
          .one none (.store 1 (.r 49) (.r 37)),
          .one (some 50) (.faddr 0 (.r 2)),
          .one (some 51) (.iaddrA 256 1 (.r 50) (.c (.int .i64 99))),
          .one none (.store 1 (.r 51) (.r 41)),
          .one (some 52) (.faddr 0 (.r 2)),
          .one (some 53) (.iaddrA 256 1 (.r 52) (.c (.int .i64 32))),
          .one none (.store 1 (.r 53) (.r 45))] false [2, 4])
      (.skip)) <|
  .seq (.ops [.one (some 54) (.load 256 true (.r 2)),
    .one none (.store 256 (.r 4) (.r 54))] false [4]) <|
  .ret
def quoinlaw9_Tame : AFun := ⟨quoinlaw9_Tame.body, [.cell 4 256 true]⟩
/-- quoin/quoinref4.Initial -/
def quoinref4_Initial.body : ACode :=
  .seq (.ops [.one (some 0) (.alloc (List.replicate 43 (.int .i64 0)))] false [0]) <|
  .seq (.ops [.one (some 2) (.build ([.int .i64 0, .int .i64 0]) [(0, 1, (.c (.int .i64 1)))]),
    .one (some 1) (.alloc ([.int .i64 0, .int .i64 0])),
    .one none (.store 2 (.r 1) (.r 2))] false [0, 1]) <|
  .seq (.ops [.one (some 3) (.load 2 true (.r 1)),
    .one (some 4) (.load 2 true (.r 1)),
    .one (some 5) (.load 2 true (.r 1)),
    .one (some 6) (.load 2 true (.r 1)),
    .one (some 7) (.load 2 true (.r 1)),
    .one (some 8) (.load 2 true (.r 1)),
    .one (some 9) (.build ([.int .i64 0, .int .i64 0, .int .i64 0, .int .i64 0, .int .i64 0, .int .i64 0, .int .i64 0, .int .i64 0]) [(0, 2, (.r 5)), (2, 2, (.r 6)), (4, 2, (.r 7)), (6, 2, (.r 8))]),
    .one (some 10) (.build (List.replicate 43 (.int .i64 0)) [(0, 1, (.c (.int .i64 1))), (13, 2, (.r 3)), (15, 2, (.r 4)), (23, 8, (.r 9)), (40, 1, (.c (.int .i64 1))), (4, 1, (.c (.int .i64 3))), (42, 1, (.c (.int .i64 1280)))]),
    .one none (.store 43 (.r 0) (.r 10))] false [0]) <|
  .ret
def quoinref4_Initial : AFun := ⟨quoinref4_Initial.body, [.cell 0 43 true]⟩
/-- quoin/size.Outer -/
def size_Outer.body : ACode :=
  .seq (.ops [.one (some 3) (.box (.r 0)),
    .one (some 4) (.box (.r 1)),
    .one (some 6) (.mov (.c (.int .i64 0)))] false [2, 3, 4]) <|
  .seq (.ops [.one (some 9) (.faddr 2 (.r 4)),
    .one (some 10) (.load 43 true (.r 9)),
    .one (some 7) (.alloc (List.replicate 43 (.int .i64 0))),
    .one none (.store 43 (.r 7) (.r 10))] false [2, 3, 4, 7]) <|
  .seq (.ops [.one (some 11) (.faddr 9 (.r 7)),
    .one (some 12) (.faddr 1 (.r 11)),
    .one (some 13) (.load 1 false (.r 12)),
    .one (some 8) (.mov (.r 13))] false [2, 3, 4, 7, 8]) <|
  .seq (.seq (.ops [.one (some 14) (.faddr 9 (.r 7)),
    .one (some 15) (.faddr 0 (.r 14)),
    .one (some 16) (.load 1 false (.r 15)),
    .one (some 17) (.bin .neq (.r 16) (.c (.int .i64 1)))] false [2, 3, 4, 7, 8, 17]) <|
  .cond (.r 17) (.ops [.one (some 18) (.load 256 true (.r 3)),
          .one (some 19) (.load 47 true (.r 4)),
          .one (some 20) (.mov (.r 2)),
          .one (some 21) (.callC K.size_content [(.r 18), (.r 19), (.r 20)]),
          .one (some 8) (.mov (.r 21))] false [7, 8])
      (.skip)) <|
  .seq (.ops [.one (some 22) (.mov (.r 8)),
    .one (some 23) (.load 43 true (.r 7)),
    .one (some 24) (.callC K.size_Min [(.r 23), (.c (.bool false)), (.c (.int .i64 (-1)))]),
    .one (some 25) (.load 43 true (.r 7)),
    .one (some 26) (.callC K.size_Max [(.r 25), (.c (.bool false)), (.c (.int .i64 (-1)))]),
    .one (some 27) (.callC K.size_Clamp [(.r 22), (.r 24), (.r 26)]),
    .one (some 8) (.mov (.r 27))] true [7, 8]) <|
  .seq (.ops [.one (some 28) (.mov (.r 8)),
    .one (some 29) (.faddr 31 (.r 7)),
    .one (some 30) (.iaddrA 4 1 (.r 29) (.c (.int .i64 3))),
    .one (some 31) (.load 1 false (.r 30)),
    .one (some 32) (.bin .add (.r 28) (.r 31)),
    .one (some 33) (.faddr 31 (.r 7)),
    .one (some 34) (.iaddrA 4 1 (.r 33) (.c (.int .i64 1))),
    .one (some 35) (.load 1 false (.r 34)),
    .one (some 36) (.bin .add (.r 32) (.r 35)),
    .one (some 37) (.faddr 35 (.r 7)),
    .one (some 38) (.iaddrA 4 1 (.r 37) (.c (.int .i64 3))),
    .one (some 39) (.load 1 false (.r 38)),
    .one (some 40) (.bin .add (.r 36) (.r 39)),
    .one (some 41) (.faddr 35 (.r 7)),
    .one (some 42) (.iaddrA 4 1 (.r 41) (.c (.int .i64 1))),
    .one (some 43) (.load 1 false (.r 42)),
    .one (some 44) (.bin .add (.r 40) (.r 43)),
    .one (some 45) (.faddr 23 (.r 7)),
    .one (some 46) (.iaddrA 4 2 (.r 45) (.c (.int .i64 3))),
    .one (some 47) (.load 2 true (.r 46)),
    .one (some 48) (.callC K.size_fixed [(.r 47)]),
    .one (some 49) (.bin .add (.r 44) (.r 48)),
    .one (some 50) (.faddr 23 (.r 7)),
    .one (some 51) (.iaddrA 4 2 (.r 50) (.c (.int .i64 1))),
    .one (some 52) (.load 2 true (.r 51)),
    .one (some 53) (.callC K.size_fixed [(.r 52)]),
    .one (some 54) (.bin .add (.r 49) (.r 53)),
    .one (some 6) (.mov (.r 54))] true [6]) <|
  .ret
def size_Outer : AFun := ⟨size_Outer.body, [.tmp 6]⟩
/-- quoin/size.Least -/
def size_Least.body : ACode :=
  .seq (.ops [.one (some 2) (.box (.r 0)),
    .one (some 3) (.box (.r 1)),
    .one (some 4) (.mov (.c (.int .i64 0)))] false [2, 3]) <|
  .seq (.ops [.one (some 5) (.load 256 true (.r 2)),
    .one (some 6) (.load 47 true (.r 3)),
    .one (some 7) (.callC K.size_content [(.r 5), (.r 6), (.c (.bool true))]),
    .one (some 4) (.mov (.r 7))] false [4]) <|
  .ret
def size_Least : AFun := ⟨size_Least.body, [.tmp 4]⟩
/-- quoin/size.Most -/
def size_Most.body : ACode :=
  .seq (.ops [.one (some 2) (.box (.r 0)),
    .one (some 3) (.box (.r 1)),
    .one (some 4) (.mov (.c (.int .i64 0)))] false [2, 3]) <|
  .seq (.ops [.one (some 5) (.load 256 true (.r 2)),
    .one (some 6) (.load 47 true (.r 3)),
    .one (some 7) (.callC K.size_content [(.r 5), (.r 6), (.c (.bool false))]),
    .one (some 4) (.mov (.r 7))] false [4]) <|
  .ret
def size_Most : AFun := ⟨size_Most.body, [.tmp 4]⟩
/-- quoin/quoinlaw13.awake -/
def quoinlaw13_awake.body : ACode :=
  .seq (.ops [.one (some 0) (.mov (.c (.bool false)))] false []) <|
  .seq (.ops [.one (some 5) (.build (List.replicate 256 (.int .i64 0)) []),
    .one (some 1) (.alloc (List.replicate 256 (.int .i64 0))),
    .one none (.store 256 (.r 1) (.r 5))] false [1]) <|
  .seq (.ops [.one (some 6) (.faddr 0 (.r 1)),
    .one (some 7) (.iaddrA 256 1 (.r 6) (.c (.int .i64 97))),
    .one none (.store 1 (.r 7) (.c (.int .i64 10))),
    .one (some 8) (.faddr 0 (.r 1)),
    .one (some 9) (.iaddrA 256 1 (.r 8) (.c (.int .i64 32))),
    .one none (.store 1 (.r 9) (.c (.int .i64 4)))] false [1]) <|
  .seq (.ops [.one (some 10) (.build ([.int .i64 0, .str [], .int .i64 0, .int .i64 0]) [(1, 1, (.c (.str [97, 32, 97, 97])))]),
    .one (some 11) (.lit 1 ([.int .i64 0, .str [], .int .i64 0, .int .i64 0]) [(0, 4, (.r 10))]),
    .one (some 12) (.build (List.replicate 45 (.int .i64 0) ++ [.nils, .nils]) [(0, 1, (.c (.int .i64 2))), (46, 1, (.r 11))]),
    .one (some 2) (.alloc (List.replicate 45 (.int .i64 0) ++ [.nils, .nils])),
    .one none (.store 47 (.r 2) (.r 12))] false [1, 2]) <|
  .seq (.ops [.one (some 13) (.build ([.int .i64 0, .int .i64 0]) [(0, 1, (.c (.int .i64 2))), (1, 1, (.c (.int .i64 5000)))]),
    .one (some 14) (.build ([.int .i64 0, .int .i64 0]) [(0, 1, (.c (.int .i64 1))), (1, 1, (.c (.int .i64 7)))]),
    .one (some 15) (.build (List.replicate 43 (.int .i64 0)) [(13, 2, (.r 13)), (17, 2, (.r 14))]),
    .one (some 3) (.alloc (List.replicate 43 (.int .i64 0))),
    .one none (.store 43 (.r 3) (.r 15))] false [1, 2, 3]) <|
  .seq (.ops [.one (some 16) (.load 47 true (.r 2)),
    .one (some 17) (.load 47 true (.r 2)),
    .one (some 18) (.lit 2 (List.replicate 45 (.int .i64 0) ++ [.nils, .nils]) [(0, 47, (.r 16)), (47, 47, (.r 17))]),
    .one (some 19) (.build (List.replicate 45 (.int .i64 0) ++ [.nils, .nils]) [(0, 1, (.c (.int .i64 3))), (45, 1, (.r 18))]),
    .one (some 4) (.alloc (List.replicate 45 (.int .i64 0) ++ [.nils, .nils])),
    .one none (.store 47 (.r 4) (.r 19))] false [1, 2, 3, 4]) <|
  .seq (.ops [.one (some 20) (.load 256 true (.r 1)),
    .one (some 21) (.load 47 true (.r 2)),
    .one (some 22) (.callC K.size_Least [(.r 20), (.r 21)]),
    .one (some 23) (.bin .eql (.r 22) (.c (.int .i64 20))),
    .one (some 24) (.mov (.r 23)),
    .sc 24 true [.one (some 25) (.load 256 true (.r 1)), .one (some 26) (.load 47 true (.r 2)), .one (some 27) (.callC K.size_Most [(.r 25), (.r 26)]), .one (some 28) (.bin .eql (.r 27) (.c (.int .i64 34)))] (.r 28) 29,
    .one (some 30) (.mov (.r 29)),
    .sc 30 true [.one (some 31) (.callC K.size_Clamp [(.c (.int .i64 5)), (.c (.int .i64 9)), (.c (.int .i64 3))]), .one (some 32) (.bin .eql (.r 31) (.c (.int .i64 9)))] (.r 32) 33,
    .one (some 34) (.mov (.r 33)),
    .sc 34 true [.one (some 35) (.callC K.size_Clamp [(.c (.int .i64 5)), (.c (.int .i64 0)), (.c (.int .i64 (-1)))]), .one (some 36) (.bin .eql (.r 35) (.c (.int .i64 5)))] (.r 36) 37,
    .one (some 38) (.mov (.r 37)),
    .sc 38 true [.one (some 39) (.load 43 true (.r 3)), .one (some 40) (.callC K.size_Min [(.r 39), (.c (.bool false)), (.c (.int .i64 100))]), .one (some 41) (.bin .eql (.r 40) (.c (.int .i64 50)))] (.r 41) 42,
    .one (some 43) (.mov (.r 42)),
    .sc 43 true [.one (some 44) (.load 43 true (.r 3)), .one (some 45) (.callC K.size_Min [(.r 44), (.c (.bool false)), (.c (.int .i64 (-1)))]), .one (some 46) (.bin .eql (.r 45) (.c (.int .i64 0)))] (.r 46) 47,
    .one (some 48) (.mov (.r 47)),
    .sc 48 true [.one (some 49) (.load 43 true (.r 3)), .one (some 50) (.callC K.size_Max [(.r 49), (.c (.bool false)), (.c (.int .i64 0))]), .one (some 51) (.bin .eql (.r 50) (.c (.int .i64 7)))] (.r 51) 52,
    .one (some 53) (.mov (.r 52)),
    .sc 53 true [.one (some 54) (.load 43 true (.r 3)), .one (some 55) (.callC K.size_Max [(.r 54), (.c (.bool true)), (.c (.int .i64 0))]), .one (some 56) (.bin .eql (.r 55) (.c (.int .i64 (-1))))] (.r 56) 57,
    .one (some 58) (.mov (.r 57)),
    .sc 58 true [.one (some 59) (.load 256 true (.r 1)), .one (some 60) (.load 47 true (.r 4)), .one (some 61) (.callC K.size_Most [(.r 59), (.r 60)]), .one (some 62) (.bin .eql (.r 61) (.c (.int .i64 68)))] (.r 62) 63,
    .one (some 64) (.mov (.r 63)),
    .sc 64 true [.one (some 65) (.load 256 true (.r 1)), .one (some 66) (.load 47 true (.r 2)), .one (some 67) (.callC K.size_Outer [(.r 65), (.r 66), (.c (.bool true))]), .one (some 68) (.bin .eql (.r 67) (.c (.int .i64 20)))] (.r 68) 69,
    .one (some 0) (.mov (.r 69))] false [0]) <|
  .ret
def quoinlaw13_awake : AFun := ⟨quoinlaw13_awake.body, [.tmp 0]⟩
def quoinlaw10_Runs.l2 : ACode :=
  .seq (.seq (.ops [.one (some 34) (.mov (.r 7)),
    .one (some 35) (.bin .lss (.r 34) (.c (.int .i64 12)))] false [0, 3, 4, 5, 6, 7, 35]) <|
  .cond (.r 35) (.skip)
      (.exit 2)) <|
  .seq (.block 3 [0, 3, 4, 5, 6, 7] <|
    .ops [.one (some 38) (.faddr 1 (.r 6)),
      .one (some 39) (.load 1 false (.r 38)),
      .one (some 40) (.lit 12 ([.str []]) [(0, 1, (.c (.str [97]))), (1, 1, (.c (.str [98]))), (2, 1, (.c (.str [32]))), (3, 1, (.c (.str [32, 32]))), (4, 1, (.c (.str [10]))), (5, 1, (.c (.str [99]))), (6, 1, (.c (.str [97, 98]))), (7, 1, (.c (.str []))), (8, 1, (.c (.str []))), (9, 1, (.c (.str [97]))), (10, 1, (.c (.str [9]))), (11, 1, (.c (.str [97, 97, 32])))]),
      .one (some 41) (.mov (.r 5)),
      .one (some 42) (.mov (.r 7)),
      .one (some 43) (.bin .mul (.c (.int .i64 4)) (.r 42)),
      .one (some 44) (.bin .add (.c (.int .i64 16)) (.r 43)),
      .one (some 45) (.conv .u64 (.r 44)),
      .one (some 46) (.bin .shr (.r 41) (.r 45)),
      .one (some 47) (.bin .and (.r 46) (.c (.int .i64 15))),
      .one (some 48) (.bin .rem (.r 47) (.c (.int .i64 12))),
      .one (some 49) (.iaddr 1 (.r 40) (.r 48)),
      .one (some 50) (.loadI 1 false (.r 49)),
      .one (some 51) (.bin .add (.r 39) (.r 50)),
      .one (some 52) (.faddr 1 (.r 6)),
      .one none (.store 1 (.r 52) (.r 51))] true [0, 3, 4, 5, 6, 7]) <|
  .ops [.one (some 36) (.mov (.r 7)),
    .one (some 37) (.bin .add (.r 36) (.c (.int .i64 1))),
    .one (some 7) (.mov (.r 37))] false [0, 3, 4, 5, 6, 7]
def quoinlaw10_Runs.l1 : ACode :=
  .seq (.seq (.ops [.one (some 8) (.mov (.r 4)),
    .one (some 9) (.mov (.r 0)),
    .one (some 10) (.len false (.r 9)),
    .one (some 11) (.bin .lss (.r 8) (.r 10)),
    .one (some 12) (.mov (.r 11)),
    .sc 12 true [.one (some 13) (.mov (.r 4)), .one (some 14) (.bin .lss (.r 13) (.c (.int .i64 12)))] (.r 14) 15] false [0, 3, 4, 15]) <|
  .cond (.r 15) (.skip)
      (.exit 0)) <|
  .seq (.block 1 [0, 3, 4] <|
    .seq (.ops [.one (some 18) (.mov (.r 0)),
      .one (some 19) (.mov (.r 4)),
      .one (some 20) (.iaddr 1 (.r 18) (.r 19)),
      .one (some 21) (.loadI 1 false (.r 20)),
      .one (some 5) (.mov (.r 21))] false [0, 3, 4, 5]) <|
    .seq (.ops [.one (some 22) (.mov (.r 4)),
      .one (some 23) (.mov (.r 5)),
      .one (some 24) (.bin .and (.r 23) (.c (.int .i64 255))),
      .one (some 25) (.bin .rem (.r 24) (.c (.int .i64 3))),
      .one (some 26) (.lit 6 ([.int .i64 0]) [(0, 1, (.c (.int .i64 1280))), (1, 1, (.c (.int .i64 1280))), (2, 1, (.c (.int .i64 640))), (3, 1, (.c (.int .i64 1281))), (4, 1, (.c (.int .i64 0))), (5, 1, (.c (.int .i64 2000)))]),
      .one (some 27) (.mov (.r 5)),
      .one (some 28) (.bin .shr (.r 27) (.c (.int .u64 8))),
      .one (some 29) (.bin .and (.r 28) (.c (.int .i64 255))),
      .one (some 30) (.bin .rem (.r 29) (.c (.int .i64 6))),
      .one (some 31) (.iaddr 1 (.r 26) (.r 30)),
      .one (some 32) (.loadI 1 false (.r 31)),
      .one (some 33) (.build ([.int .i64 0, .str [], .int .i64 0, .int .i64 0]) [(0, 1, (.r 22)), (2, 1, (.r 25)), (3, 1, (.r 32))]),
      .one (some 6) (.alloc ([.int .i64 0, .str [], .int .i64 0, .int .i64 0])),
      .one none (.store 4 (.r 6) (.r 33))] false [0, 3, 4, 5, 6]) <|
    .seq (.seq (.ops [.one (some 7) (.mov (.c (.int .i64 0)))] false [0, 3, 4, 5, 6, 7]) <|
    .block 2 [0, 3, 4, 6] <|
      .loop [0, 3, 4, 5, 6, 7] quoinlaw10_Runs.l2) <|
    .ops [.one (some 53) (.mov (.r 3)),
      .one (some 54) (.load 4 true (.r 6)),
      .one (some 55) (.lit 1 ([.int .i64 0, .str [], .int .i64 0, .int .i64 0]) [(0, 4, (.r 54))]),
      .one (some 56) (.append 4 40 (.r 53) (.r 55)),
      .one (some 3) (.mov (.r 56))] false [0, 3, 4]) <|
  .ops [.one (some 16) (.mov (.r 4)),
    .one (some 17) (.bin .add (.r 16) (.c (.int .i64 1))),
    .one (some 4) (.mov (.r 17))] false [0, 3, 4]
/-- quoin/quoinlaw10.Runs -/
def quoinlaw10_Runs.body : ACode :=
  .seq (.ops [.one (some 2) (.mov (.c (.nils)))] false [0]) <|
  .seq (.ops [.one (some 3) (.newtok 4)] false [0, 3]) <|
  .seq (.seq (.ops [.one (some 4) (.mov (.c (.int .i64 0)))] false [0, 3, 4]) <|
  .block 0 [3] <|
    .loop [0, 3, 4] quoinlaw10_Runs.l1) <|
  .seq (.ops [.one (some 57) (.mov (.r 3)),
    .one (some 2) (.mov (.r 57))] false [2]) <|
  .ret
def quoinlaw10_Runs : AFun := ⟨quoinlaw10_Runs.body, [.tmp 2]⟩
def size_content.l1 : ACode :=
  .seq (.ops [.one (some 37) (.bin .lss (.r 36) (.r 35))] false [2, 3, 4, 8, 9, 34, 35, 36, 37]) <|
  .seq (.cond (.r 37) (.skip)
      (.exit 0)) <|
  .seq (.block 1 [2, 3, 4, 8, 9, 34, 35, 36] <|
    .seq (.ops [.one (some 38) (.iaddr 47 (.r 34) (.r 36)),
      .one (some 39) (.loadI 47 true (.r 38)),
      .one (some 11) (.alloc (List.replicate 45 (.int .i64 0) ++ [.nils, .nils])),
      .one none (.store 47 (.r 11) (.r 39))] false [2, 3, 4, 8, 9, 11, 34, 35, 36]) <|
    .seq (.ops [.one (some 40) (.load 256 true (.r 3)),
      .one (some 41) (.load 47 true (.r 11)),
      .one (some 42) (.mov (.r 2)),
      .one (some 43) (.callC K.size_Outer [(.r 40), (.r 41), (.r 42)]),
      .one (some 12) (.mov (.r 43))] false [2, 3, 4, 8, 9, 12, 34, 35, 36]) <|
    .ops [.one (some 44) (.mov (.r 8)),
      .one (some 45) (.mov (.r 12)),
      .one (some 46) (.bin .add (.r 44) (.r 45)),
      .one (some 47) (.mov (.r 9)),
      .one (some 48) (.mov (.r 12)),
      .one (some 49) (.mx [(.r 47), (.r 48)]),
      .one (some 8) (.mov (.r 46)),
      .one (some 9) (.mov (.r 49))] false [2, 3, 4, 8, 9, 34, 35, 36]) <|
  .ops [.one (some 50) (.bin .add (.r 36) (.c (.int .i64 1))),
    .one (some 36) (.mov (.r 50))] false [2, 3, 4, 8, 9, 34, 35, 36]
/-- quoin/size.content -/
def size_content.body : ACode :=
  .seq (.ops [.one (some 3) (.box (.r 0)),
    .one (some 4) (.box (.r 1)),
    .one (some 6) (.mov (.c (.int .i64 0)))] false [2, 3, 4]) <|
  .seq (.seq (.ops [.one (some 13) (.faddr 0 (.r 4)),
    .one (some 14) (.load 1 false (.r 13)),
    .one (some 15) (.bin .eql (.r 14) (.c (.int .i64 2)))] false [2, 3, 4, 15]) <|
  .cond (.r 15) (.seq (.ops [.one (some 16) (.load 256 true (.r 3)),
          .one (some 17) (.faddr 46 (.r 4)),
          .one (some 18) (.load 1 false (.r 17)),
          .one (some 19) (.callC K.whit_Glyphs [(.r 16), (.r 18)]),
          .one (some 7) (.mov (.r 19))] false [2, 7]) <|
        .seq (.seq (.ops [.one (some 20) (.mov (.r 2))] false [7, 20]) <|
        .cond (.r 20) (.seq (.ops [.one (some 21) (.mov (.r 7)),
                .one (some 22) (.callC K.brk_Least [(.r 21)]),
                .one (some 6) (.mov (.r 22))] false [6]) <|
              .ret)
            (.skip)) <|
        .seq (.ops [.one (some 23) (.mov (.r 7)),
          .one (some 24) (.callC K.brk_Most [(.r 23)]),
          .one (some 6) (.mov (.r 24))] false [6]) <|
        .ret)
      (.skip)) <|
  .seq (.seq (.ops [.one (some 25) (.faddr 0 (.r 4)),
    .one (some 26) (.load 1 false (.r 25)),
    .one (some 27) (.bin .neq (.r 26) (.c (.int .i64 1))),
    .one (some 28) (.mov (.r 27)),
    .sc 28 true [.one (some 29) (.faddr 0 (.r 4)), .one (some 30) (.load 1 false (.r 29)), .one (some 31) (.bin .neq (.r 30) (.c (.int .i64 3)))] (.r 31) 32] false [2, 3, 4, 32]) <|
  .cond (.r 32) (.seq (.ops [.one (some 6) (.mov (.c (.int .i64 0)))] false [6]) <|
        .ret)
      (.skip)) <|
  .seq (.ops [.one (some 8) (.mov (.c (.int .i64 0))),
    .one (some 9) (.mov (.c (.int .i64 0)))] false [2, 3, 4, 8, 9]) <|
  .seq (.seq (.ops [.one (some 33) (.faddr 45 (.r 4)),
    .one (some 34) (.load 1 false (.r 33)),
    .one (some 35) (.len false (.r 34)),
    .one (some 36) (.mov (.c (.int .i64 0)))] false [2, 3, 4, 8, 9, 34, 35, 36]) <|
  .block 0 [2, 4, 8, 9] <|
    .loop [2, 3, 4, 8, 9, 34, 35, 36] size_content.l1) <|
  .seq (.seq (.ops [.one (some 51) (.faddr 0 (.r 4)),
    .one (some 52) (.load 1 false (.r 51)),
    .one (some 53) (.bin .eql (.r 52) (.c (.int .i64 1))),
    .one (some 54) (.mov (.r 53)),
    .sc 54 false [.one (some 55) (.faddr 2 (.r 4)), .one (some 56) (.faddr 1 (.r 55)), .one (some 57) (.load 1 false (.r 56)), .one (some 58) (.bin .geq (.r 57) (.c (.int .i64 2)))] (.r 58) 59,
    .one (some 60) (.mov (.r 59)),
    .sc 60 false [.one (some 61) (.mov (.r 2)), .one (some 62) (.mov (.r 61)), .sc 62 true [.one (some 63) (.faddr 2 (.r 4)), .one (some 64) (.faddr 2 (.r 63)), .one (some 65) (.load 1 false (.r 64)), .one (some 66) (.bin .neq (.r 65) (.c (.int .i64 0)))] (.r 66) 67] (.r 67) 68] false [8, 9, 68]) <|
  .cond (.r 68) (.seq (.ops [.one (some 69) (.mov (.r 9)),
          .one (some 6) (.mov (.r 69))] false [6]) <|
        .ret)
      (.skip)) <|
  .seq (.ops [.one (some 70) (.mov (.r 8)),
    .one (some 6) (.mov (.r 70))] false [6]) <|
  .ret
def size_content : AFun := ⟨size_content.body, [.tmp 6]⟩
/-- quoin/size.Clamp -/
def size_Clamp.body : ACode :=
  .seq (.ops [.one (some 6) (.mov (.c (.int .i64 0)))] false [0, 1, 2]) <|
  .seq (.seq (.ops [.one (some 7) (.mov (.r 2)),
    .one (some 8) (.bin .geq (.r 7) (.c (.int .i64 0)))] false [0, 1, 2, 8]) <|
  .cond (.r 8) (.ops [.one (some 9) (.mov (.r 0)),
          .one (some 10) (.mov (.r 2)),
          .one (some 11) (.mn [(.r 9), (.r 10)]),
          .one (some 0) (.mov (.r 11))] false [0, 1])
      (.skip)) <|
  .seq (.ops [.one (some 12) (.mov (.r 0)),
    .one (some 13) (.mov (.r 1)),
    .one (some 14) (.mx [(.r 12), (.r 13), (.c (.int .i64 0))]),
    .one (some 6) (.mov (.r 14))] false [6]) <|
  .ret
def size_Clamp : AFun := ⟨size_Clamp.body, [.tmp 6]⟩
/-- quoin/size.Min -/
def size_Min.body : ACode :=
  .seq (.ops [.one (some 3) (.box (.r 0)),
    .one (some 6) (.mov (.c (.int .i64 0)))] false [1, 2, 3]) <|
  .seq (.ops [.one (some 10) (.faddr 13 (.r 3)),
    .one (some 11) (.load 2 true (.r 10)),
    .one (some 7) (.alloc ([.int .i64 0, .int .i64 0])),
    .one none (.store 2 (.r 7) (.r 11))] false [1, 2, 3, 7]) <|
  .seq (.seq (.ops [.one (some 12) (.mov (.r 1))] false [2, 3, 7, 12]) <|
  .cond (.r 12) (.ops [.one (some 13) (.faddr 15 (.r 3)),
          .one (some 14) (.load 2 true (.r 13)),
          .one none (.store 2 (.r 7) (.r 14))] false [2, 7])
      (.skip)) <|
  .seq (.ops [.one (some 16) (.load 2 true (.r 7)),
    .one (some 17) (.mov (.r 2)),
    .one (some 18) (.callC K.size_of [(.r 16), (.r 17)]),
    .one (some 15) (.mov (.r 18)),
    .one (some 19) (.extr (.r 15) 0),
    .one (some 20) (.extr (.r 15) 1),
    .one (some 8) (.mov (.r 19)),
    .one (some 9) (.mov (.r 20))] false [8]) <|
  .seq (.ops [.one (some 21) (.mov (.r 8)),
    .one (some 6) (.mov (.r 21))] false [6]) <|
  .ret
def size_Min : AFun := ⟨size_Min.body, [.tmp 6]⟩
/-- quoin/size.Max -/
def size_Max.body : ACode :=
  .seq (.ops [.one (some 3) (.box (.r 0)),
    .one (some 6) (.mov (.c (.int .i64 0)))] false [1, 2, 3]) <|
  .seq (.ops [.one (some 10) (.faddr 17 (.r 3)),
    .one (some 11) (.load 2 true (.r 10)),
    .one (some 7) (.alloc ([.int .i64 0, .int .i64 0])),
    .one none (.store 2 (.r 7) (.r 11))] false [1, 2, 3, 7]) <|
  .seq (.seq (.ops [.one (some 12) (.mov (.r 1))] false [2, 3, 7, 12]) <|
  .cond (.r 12) (.ops [.one (some 13) (.faddr 19 (.r 3)),
          .one (some 14) (.load 2 true (.r 13)),
          .one none (.store 2 (.r 7) (.r 14))] false [2, 7])
      (.skip)) <|
  .seq (.ops [.one (some 16) (.load 2 true (.r 7)),
    .one (some 17) (.mov (.r 2)),
    .one (some 18) (.callC K.size_of [(.r 16), (.r 17)]),
    .one (some 15) (.mov (.r 18)),
    .one (some 19) (.extr (.r 15) 0),
    .one (some 20) (.extr (.r 15) 1),
    .one (some 8) (.mov (.r 19)),
    .one (some 9) (.mov (.r 20))] false [8, 9]) <|
  .seq (.seq (.ops [.one (some 21) (.mov (.r 9)),
    .one (some 22) (.un .not (.r 21))] false [8, 22]) <|
  .cond (.r 22) (.seq (.ops [.one (some 6) (.mov (.c (.int .i64 (-1))))] false [6]) <|
        .ret)
      (.skip)) <|
  .seq (.ops [.one (some 23) (.mov (.r 8)),
    .one (some 6) (.mov (.r 23))] false [6]) <|
  .ret
def size_Max : AFun := ⟨size_Max.body, [.tmp 6]⟩
/-- quoin/size.fixed -/
def size_fixed.body : ACode :=
  .seq (.ops [.one (some 1) (.box (.r 0)),
    .one (some 2) (.mov (.c (.int .i64 0)))] false [1]) <|
  .seq (.seq (.ops [.one (some 3) (.faddr 0 (.r 1)),
    .one (some 4) (.load 1 false (.r 3)),
    .one (some 5) (.bin .eql (.r 4) (.c (.int .i64 1)))] false [1, 5]) <|
  .cond (.r 5) (.seq (.ops [.one (some 6) (.faddr 1 (.r 1)),
          .one (some 7) (.load 1 false (.r 6)),
          .one (some 2) (.mov (.r 7))] false [2]) <|
        .ret)
      (.skip)) <|
  .seq (.ops [.one (some 2) (.mov (.c (.int .i64 0)))] false [2]) <|
  .ret
def size_fixed : AFun := ⟨size_fixed.body, [.tmp 2]⟩
def whit_Glyphs.l1 : ACode :=
  .seq (.ops [.one (some 16) (.bin .lss (.r 15) (.r 14))] false [5, 6, 13, 14, 15, 16]) <|
  .seq (.cond (.r 16) (.skip)
      (.exit 0)) <|
  .seq (.block 1 [5, 6, 13, 14, 15] <|
    .seq (.ops [.one (some 17) (.mov (.r 15)),
      .one (some 18) (.iaddr 4 (.r 13) (.r 15)),
      .one (some 19) (.loadI 4 true (.r 18)),
      .one (some 8) (.alloc ([.int .i64 0, .int .i64 0, .int .i64 0, .int .i64 0])),
      .one (some 7) (.mov (.r 17)),
      .one none (.store 4 (.r 8) (.r 19))] false [5, 6, 7, 8, 13, 14, 15]) <|
    .seq (.ops [.one (some 20) (.mov (.r 7)),
      .one (some 21) (.bin .eql (.r 20) (.c (.int .i64 0))),
      .one (some 22) (.mov (.r 21)),
      .sc 22 false [.one (some 23) (.mov (.r 5)), .one (some 24) (.mov (.r 7)), .one (some 25) (.bin .sub (.r 24) (.c (.int .i64 1))), .one (some 26) (.iaddr 4 (.r 23) (.r 25)), .one (some 27) (.faddr 0 (.r 26)), .one (some 28) (.loadI 1 false (.r 27)), .one (some 29) (.bin .eql (.r 28) (.c (.int .i64 4)))] (.r 29) 30,
      .one (some 9) (.mov (.r 30))] false [5, 6, 7, 8, 9, 13, 14, 15]) <|
    .seq (.ops [.one (some 31) (.mov (.r 7)),
      .one (some 32) (.mov (.r 5)),
      .one (some 33) (.len false (.r 32)),
      .one (some 34) (.bin .sub (.r 33) (.c (.int .i64 1))),
      .one (some 35) (.bin .eql (.r 31) (.r 34)),
      .one (some 36) (.mov (.r 35)),
      .sc 36 false [.one (some 37) (.mov (.r 5)), .one (some 38) (.mov (.r 7)), .one (some 39) (.bin .add (.r 38) (.c (.int .i64 1))), .one (some 40) (.iaddr 4 (.r 37) (.r 39)), .one (some 41) (.faddr 0 (.r 40)), .one (some 42) (.loadI 1 false (.r 41)), .one (some 43) (.bin .eql (.r 42) (.c (.int .i64 4)))] (.r 43) 44,
      .one (some 10) (.mov (.r 44))] false [5, 6, 8, 9, 10, 13, 14, 15]) <|
    .seq (.seq (.ops [.one (some 45) (.load 4 true (.r 8)),
      .one (some 46) (.callC K.whit_blank [(.r 45)]),
      .one (some 47) (.mov (.r 46)),
      .sc 47 true [.one (some 48) (.mov (.r 9)), .one (some 49) (.mov (.r 48)), .sc 49 false [.one (some 50) (.mov (.r 10))] (.r 50) 51] (.r 51) 52] false [5, 6, 8, 13, 14, 15, 52]) <|
    .cond (.r 52) (.exit 1)
        (.skip)) <|
    .ops [.one (some 53) (.mov (.r 6)),
      .one (some 54) (.load 4 true (.r 8)),
      .one (some 55) (.lit 1 ([.int .i64 0, .int .i64 0, .int .i64 0, .int .i64 0]) [(0, 4, (.r 54))]),
      .one (some 56) (.append 4 32 (.r 53) (.r 55)),
      .one (some 6) (.mov (.r 56))] false [5, 6, 13, 14, 15]) <|
  .ops [.one (some 57) (.bin .add (.r 15) (.c (.int .i64 1))),
    .one (some 15) (.mov (.r 57))] false [5, 6, 13, 14, 15]
/-- quoin/whit.Glyphs -/
def whit_Glyphs.body : ACode :=
  .seq (.ops [.one (some 2) (.box (.r 0)),
    .one (some 4) (.mov (.c (.nils)))] false [1, 2]) <|
  .seq (.ops [.one (some 11) (.mov (.r 1)),
    .one (some 12) (.callR K.whit_all [(.r 2), (.r 11)]),
    .one (some 5) (.mov (.r 12))] false [5]) <|
  .seq (.ops [.one (some 6) (.newtok 4)] false [5, 6]) <|
  .seq (.seq (.ops [.one (some 13) (.mov (.r 5)),
    .one (some 14) (.len false (.r 13)),
    .one (some 15) (.mov (.c (.int .i64 0)))] false [5, 6, 13, 14, 15]) <|
  .block 0 [6] <|
    .loop [5, 6, 13, 14, 15] whit_Glyphs.l1) <|
  .seq (.ops [.one (some 58) (.mov (.r 6)),
    .one (some 4) (.mov (.r 58))] false [4]) <|
  .ret
def whit_Glyphs : AFun := ⟨whit_Glyphs.body, [.tmp 4]⟩
/-- quoin/brk.Least -/
def brk_Least.body : ACode :=
  .seq (.ops [.one (some 2) (.mov (.c (.int .i64 0)))] false [0]) <|
  .seq (.ops [.one (some 3) (.mov (.r 0)),
    .one (some 4) (.callC K.brk_rows [(.r 3), (.c (.fn K.brk_Least_1 []))]),
    .one (some 2) (.mov (.r 4))] false [2]) <|
  .ret
def brk_Least : AFun := ⟨brk_Least.body, [.tmp 2]⟩
/-- quoin/brk.Most -/
def brk_Most.body : ACode :=
  .seq (.ops [.one (some 2) (.mov (.c (.int .i64 0)))] false [0]) <|
  .seq (.ops [.one (some 3) (.mov (.r 0)),
    .one (some 4) (.callC K.brk_rows [(.r 3), (.c (.fn K.brk_Most_1 []))]),
    .one (some 2) (.mov (.r 4))] false [2]) <|
  .ret
def brk_Most : AFun := ⟨brk_Most.body, [.tmp 2]⟩
/-- quoin/size.of -/
def size_of.body : ACode :=
  .seq (.ops [.one (some 2) (.box (.r 0)),
    .one (some 4) (.mov (.c (.int .i64 0))),
    .one (some 5) (.mov (.c (.bool false)))] false [1, 2]) <|
  .seq (.block 0 [] <|
    .seq (.ops [.one (some 7) (.faddr 0 (.r 2)),
      .one (some 8) (.load 1 false (.r 7)),
      .one (some 9) (.bin .eql (.r 8) (.c (.int .i64 1))),
      .one (some 6) (.mov (.r 9))] false [1, 2, 6]) <|
    .cond (.r 6) (.seq (.ops [.one (some 10) (.faddr 1 (.r 2)),
            .one (some 11) (.load 1 false (.r 10)),
            .one (some 12) (.mx [(.r 11), (.c (.int .i64 0))]),
            .one (some 4) (.mov (.r 12)),
            .one (some 5) (.mov (.c (.bool true)))] false [4, 5]) <|
          .ret)
        (.seq (.ops [.one (some 14) (.faddr 0 (.r 2)),
            .one (some 15) (.load 1 false (.r 14)),
            .one (some 16) (.bin .eql (.r 15) (.c (.int .i64 2))),
            .one (some 17) (.mov (.r 16)),
            .sc 17 true [.one (some 18) (.mov (.r 1)), .one (some 19) (.bin .geq (.r 18) (.c (.int .i64 0)))] (.r 19) 20,
            .one (some 13) (.mov (.r 20))] false [1, 2, 13]) <|
          .cond (.r 13) (.seq (.ops [.one (some 21) (.mov (.r 1)),
                  .one (some 22) (.faddr 1 (.r 2)),
                  .one (some 23) (.load 1 false (.r 22)),
                  .one (some 24) (.callC K.unit_Pct [(.r 21), (.r 23)]),
                  .one (some 25) (.mx [(.r 24), (.c (.int .i64 0))]),
                  .one (some 4) (.mov (.r 25)),
                  .one (some 5) (.mov (.c (.bool true)))] false [4, 5]) <|
                .ret)
              (.skip))) <|
  .seq (.ops [.one (some 4) (.mov (.c (.int .i64 0))),
    .one (some 5) (.mov (.c (.bool false)))] false [4, 5]) <|
  .ret
def size_of : AFun := ⟨size_of.body, [.tmp 4, .tmp 5]⟩
def whit_all.l2 : ACode :=
  .seq (.ops [.one (some 21) (.bin .lss (.r 20) (.r 19))] false [0, 5, 6, 7, 10, 11, 12, 19, 20, 21]) <|
  .seq (.cond (.r 21) (.skip)
      (.exit 2)) <|
  .seq (.block 3 [0, 5, 6, 7, 10, 11, 12, 19, 20] <|
    .seq (.ops [.one (some 22) (.mov (.r 20)),
      .one (some 8) (.mov (.r 22))] false [0, 5, 6, 7, 8, 10, 11, 12, 19, 20]) <|
    .seq (.ops [.one (some 23) (.mov (.r 6)),
      .one (some 24) (.mov (.r 8)),
      .one (some 25) (.build ([.int .i64 0, .int .i64 0, .int .i64 0, .int .i64 0]) [(1, 1, (.r 23)), (2, 1, (.r 24))]),
      .one (some 9) (.alloc ([.int .i64 0, .int .i64 0, .int .i64 0, .int .i64 0])),
      .one none (.store 4 (.r 9) (.r 25))] false [0, 5, 6, 7, 8, 9, 10, 11, 12, 19, 20]) <|
    .seq (.ops [.one (some 27) (.mov (.r 0)),
      .one (some 28) (.faddr 2 (.r 7)),
      .one (some 29) (.load 1 false (.r 28)),
      .one (some 30) (.faddr 1 (.r 7)),
      .one (some 31) (.load 1 false (.r 30)),
      .one (some 32) (.mov (.r 8)),
      .one (some 33) (.idxS (.r 31) (.r 32)),
      .one (some 34) (.callR K.whit_glyph [(.r 27), (.r 29), (.r 33)]),
      .one (some 26) (.mov (.r 34)),
      .one (some 35) (.extr (.r 26) 0),
      .one (some 36) (.extr (.r 26) 1),
      .one (some 37) (.faddr 0 (.r 9)),
      .one none (.store 1 (.r 37) (.r 35)),
      .one (some 38) (.faddr 3 (.r 9)),
      .one none (.store 1 (.r 38) (.r 36))] true [0, 5, 6, 7, 9, 10, 11, 12, 19, 20]) <|
    .seq (.seq (.ops [.one (some 39) (.load 4 true (.r 9)),
      .one (some 40) (.callC K.whit_blank [(.r 39)]),
      .one (some 41) (.mov (.r 40)),
      .sc 41 true [.one (some 42) (.mov (.r 5)), .one (some 43) (.len false (.r 42)), .one (some 44) (.bin .gtr (.r 43) (.c (.int .i64 0)))] (.r 44) 45,
      .one (some 46) (.mov (.r 45)),
      .sc 46 true [.one (some 47) (.mov (.r 5)), .one (some 48) (.mov (.r 5)), .one (some 49) (.len false (.r 48)), .one (some 50) (.bin .sub (.r 49) (.c (.int .i64 1))), .one (some 51) (.iaddr 4 (.r 47) (.r 50)), .one (some 52) (.loadI 4 true (.r 51)), .one (some 53) (.callC K.whit_blank [(.r 52)])] (.r 53) 54] false [0, 5, 6, 7, 9, 10, 11, 12, 19, 20, 54]) <|
    .cond (.r 54) (.exit 3)
        (.skip)) <|
    .ops [.one (some 55) (.mov (.r 5)),
      .one (some 56) (.load 4 true (.r 9)),
      .one (some 57) (.lit 1 ([.int .i64 0, .int .i64 0, .int .i64 0, .int .i64 0]) [(0, 4, (.r 56))]),
      .one (some 58) (.append 4 32 (.r 55) (.r 57)),
      .one (some 5) (.mov (.r 58))] false [0, 5, 6, 7, 10, 11, 12, 19, 20]) <|
  .ops [.one (some 59) (.bin .add (.r 20) (.c (.int .i64 1))),
    .one (some 20) (.mov (.r 59))] false [0, 5, 6, 7, 10, 11, 12, 19, 20]
def whit_all.l1 : ACode :=
  .seq (.ops [.one (some 13) (.bin .lss (.r 12) (.r 11))] false [0, 5, 10, 11, 12, 13]) <|
  .seq (.cond (.r 13) (.skip)
      (.exit 0)) <|
  .seq (.block 1 [0, 5, 10, 11, 12] <|
    .seq (.ops [.one (some 14) (.mov (.r 12)),
      .one (some 15) (.iaddr 4 (.r 10) (.r 12)),
      .one (some 16) (.loadI 4 true (.r 15)),
      .one (some 7) (.alloc ([.int .i64 0, .str [], .int .i64 0, .int .i64 0])),
      .one (some 6) (.mov (.r 14)),
      .one none (.store 4 (.r 7) (.r 16))] false [0, 5, 6, 7, 10, 11, 12]) <|
    .seq (.ops [.one (some 17) (.faddr 1 (.r 7)),
      .one (some 18) (.load 1 false (.r 17)),
      .one (some 19) (.len true (.r 18)),
      .one (some 20) (.mov (.c (.int .i64 0)))] false [0, 5, 6, 7, 10, 11, 12, 19, 20]) <|
    .block 2 [0, 5, 10, 11, 12] <|
      .loop [0, 5, 6, 7, 10, 11, 12, 19, 20] whit_all.l2) <|
  .ops [.one (some 60) (.bin .add (.r 12) (.c (.int .i64 1))),
    .one (some 12) (.mov (.r 60))] false [0, 5, 10, 11, 12]
/-- quoin/whit.all -/
def whit_all.body : ACode :=
  .seq (.ops [.one (some 4) (.mov (.c (.nils)))] false [0, 1]) <|
  .seq (.ops [.one (some 5) (.newtok 4)] false [0, 1, 5]) <|
  .seq (.seq (.ops [.one (some 10) (.mov (.r 1)),
    .one (some 11) (.len false (.r 10)),
    .one (some 12) (.mov (.c (.int .i64 0)))] false [0, 5, 10, 11, 12]) <|
  .block 0 [5] <|
    .loop [0, 5, 10, 11, 12] whit_all.l1) <|
  .seq (.ops [.one (some 61) (.mov (.r 5)),
    .one (some 4) (.mov (.r 61))] false [4]) <|
  .ret
def whit_all : AFun := ⟨whit_all.body, [.tmp 4]⟩
/-- quoin/whit.blank -/
def whit_blank.body : ACode :=
  .seq (.ops [.one (some 1) (.box (.r 0)),
    .one (some 2) (.mov (.c (.bool false)))] false [1]) <|
  .seq (.ops [.one (some 3) (.faddr 0 (.r 1)),
    .one (some 4) (.load 1 false (.r 3)),
    .one (some 5) (.bin .eql (.r 4) (.c (.int .i64 2))),
    .one (some 6) (.mov (.r 5)),
    .sc 6 false [.one (some 7) (.faddr 0 (.r 1)), .one (some 8) (.load 1 false (.r 7)), .one (some 9) (.bin .eql (.r 8) (.c (.int .i64 3)))] (.r 9) 10,
    .one (some 2) (.mov (.r 10))] false [2]) <|
  .ret
def whit_blank : AFun := ⟨whit_blank.body, [.tmp 2]⟩
def brk_rows.l1 : ACode :=
  .seq (.ops [.one (some 12) (.bin .lss (.r 11) (.r 10))] false [1, 5, 6, 9, 10, 11, 12]) <|
  .seq (.cond (.r 12) (.skip)
      (.exit 0)) <|
  .seq (.block 1 [1, 5, 6, 9, 10, 11] <|
    .seq (.ops [.one (some 13) (.iaddr 4 (.r 9) (.r 11)),
      .one (some 14) (.loadI 4 true (.r 13)),
      .one (some 8) (.alloc ([.int .i64 0, .int .i64 0, .int .i64 0, .int .i64 0])),
      .one none (.store 4 (.r 8) (.r 14))] false [1, 5, 6, 8, 9, 10, 11]) <|
    .seq (.seq (.ops [.one (some 15) (.mov (.r 1)),
      .one (some 16) (.faddr 0 (.r 8)),
      .one (some 17) (.load 1 false (.r 16)),
      .one (some 18) (.callVC (.r 15) [(.r 17)])] false [1, 5, 6, 8, 9, 10, 11, 18]) <|
    .cond (.r 18) (.seq (.ops [.one (some 6) (.mov (.c (.int .i64 0)))] false [1, 5, 6, 9, 10, 11]) <|
          .exit 1)
        (.skip)) <|
    .seq (.ops [.one (some 19) (.mov (.r 6)),
      .one (some 20) (.faddr 3 (.r 8)),
      .one (some 21) (.load 1 false (.r 20)),
      .one (some 22) (.bin .add (.r 19) (.r 21)),
      .one (some 6) (.mov (.r 22))] false [1, 5, 6, 9, 10, 11]) <|
    .ops [.one (some 23) (.mov (.r 5)),
      .one (some 24) (.mov (.r 6)),
      .one (some 25) (.mx [(.r 23), (.r 24)]),
      .one (some 5) (.mov (.r 25))] false [1, 5, 6, 9, 10, 11]) <|
  .ops [.one (some 26) (.bin .add (.r 11) (.c (.int .i64 1))),
    .one (some 11) (.mov (.r 26))] false [1, 5, 6, 9, 10, 11]
/-- quoin/brk.rows -/
def brk_rows.body : ACode :=
  .seq (.ops [.one (some 4) (.mov (.c (.int .i64 0)))] false [0, 1]) <|
  .seq (.ops [.one (some 5) (.mov (.c (.int .i64 0))),
    .one (some 6) (.mov (.c (.int .i64 0)))] false [0, 1, 5, 6]) <|
  .seq (.seq (.ops [.one (some 9) (.mov (.r 0)),
    .one (some 10) (.len false (.r 9)),
    .one (some 11) (.mov (.c (.int .i64 0)))] false [1, 5, 6, 9, 10, 11]) <|
  .block 0 [5] <|
    .loop [1, 5, 6, 9, 10, 11] brk_rows.l1) <|
  .seq (.ops [.one (some 27) (.mov (.r 5)),
    .one (some 4) (.mov (.r 27))] false [4]) <|
  .ret
def brk_rows : AFun := ⟨brk_rows.body, [.tmp 4]⟩
/-- quoin/brk.Least$1 -/
def brk_Least_1.body : ACode :=
  .seq (.ops [.one (some 2) (.mov (.c (.bool false)))] false [0]) <|
  .seq (.ops [.one (some 3) (.mov (.r 0)),
    .one (some 4) (.bin .eql (.r 3) (.c (.int .i64 2))),
    .one (some 5) (.mov (.r 4)),
    .sc 5 false [.one (some 6) (.mov (.r 0)), .one (some 7) (.bin .eql (.r 6) (.c (.int .i64 4)))] (.r 7) 8,
    .one (some 2) (.mov (.r 8))] false [2]) <|
  .ret
def brk_Least_1 : AFun := ⟨brk_Least_1.body, [.tmp 2]⟩
/-- quoin/brk.Most$1 -/
def brk_Most_1.body : ACode :=
  .seq (.ops [.one (some 2) (.mov (.c (.bool false)))] false [0]) <|
  .seq (.ops [.one (some 3) (.mov (.r 0)),
    .one (some 4) (.bin .eql (.r 3) (.c (.int .i64 4))),
    .one (some 2) (.mov (.r 4))] false [2]) <|
  .ret
def brk_Most_1 : AFun := ⟨brk_Most_1.body, [.tmp 2]⟩
/-- quoin/unit.Pct -/
def unit_Pct.body : ACode :=
  .seq (.ops [.one (some 4) (.mov (.c (.int .i64 0)))] false [0, 1]) <|
  .seq (.ops [.one (some 5) (.mov (.r 0)),
    .one (some 6) (.callC K.unit_Hold [(.r 5)]),
    .one (some 7) (.mov (.r 1)),
    .one (some 8) (.callC K.unit_within [(.r 7), (.c (.int .i64 1000000000))]),
    .one (some 9) (.bin .mul (.r 6) (.r 8)),
    .one (some 10) (.callC K.unit_nearest [(.r 9), (.c (.int .i64 10000))]),
    .one (some 11) (.callC K.unit_Hold [(.r 10)]),
    .one (some 4) (.mov (.r 11))] false [4]) <|
  .ret
def unit_Pct : AFun := ⟨unit_Pct.body, [.tmp 4]⟩
/-- quoin/whit.glyph -/
def whit_glyph.body : ACode :=
  .seq (.ops [.one (some 6) (.mov (.c (.int .i64 0))),
    .one (some 7) (.mov (.c (.int .i64 0)))] false [0, 1, 2]) <|
  .seq (.block 0 [0] <|
    .seq (.ops [.one (some 9) (.mov (.r 1)),
      .one (some 10) (.bin .eql (.r 9) (.c (.int .i64 2))),
      .one (some 11) (.mov (.r 10)),
      .sc 11 true [.one (some 12) (.mov (.r 2)), .one (some 13) (.bin .eql (.r 12) (.c (.int .u8 10)))] (.r 13) 14,
      .one (some 8) (.mov (.r 14))] false [0, 1, 2, 8]) <|
    .cond (.r 8) (.seq (.ops [.one (some 6) (.mov (.c (.int .i64 4))),
            .one (some 7) (.mov (.c (.int .i64 0)))] false [6, 7]) <|
          .ret)
        (.seq (.ops [.one (some 16) (.mov (.r 1)),
            .one (some 17) (.bin .eql (.r 16) (.c (.int .i64 2))),
            .one (some 18) (.mov (.r 17)),
            .sc 18 false [.one (some 19) (.mov (.r 2)), .one (some 20) (.callC K.strings_IndexByte [(.c (.str [32, 9, 10, 13])), (.r 19)]), .one (some 21) (.bin .lss (.r 20) (.c (.int .i64 0)))] (.r 21) 22,
            .one (some 15) (.mov (.r 22))] false [0, 1, 2, 15]) <|
          .cond (.r 15) (.seq (.ops [.one (some 23) (.mov (.r 0)),
                  .one (some 24) (.mov (.r 2)),
                  .one (some 25) (.callR K.gaug_Of [(.r 23), (.r 24)]),
                  .one (some 6) (.mov (.c (.int .i64 1))),
                  .one (some 7) (.mov (.r 25))] false [6, 7]) <|
                .ret)
              (.seq (.ops [.one (some 27) (.mov (.r 1)),
                  .one (some 28) (.bin .eql (.r 27) (.c (.int .i64 1))),
                  .one (some 26) (.mov (.r 28))] false [0, 26]) <|
                .cond (.r 26) (.seq (.ops [.one (some 29) (.mov (.r 0)),
                        .one (some 30) (.callR K.gaug_Of [(.r 29), (.c (.int .u8 32))]),
                        .one (some 6) (.mov (.c (.int .i64 3))),
                        .one (some 7) (.mov (.r 30))] false [6, 7]) <|
                      .ret)
                    (.skip)))) <|
  .seq (.ops [.one (some 31) (.mov (.r 0)),
    .one (some 32) (.callR K.gaug_Of [(.r 31), (.c (.int .u8 32))]),
    .one (some 6) (.mov (.c (.int .i64 2))),
    .one (some 7) (.mov (.r 32))] false [6, 7]) <|
  .ret
def whit_glyph : AFun := ⟨whit_glyph.body, [.tmp 6, .tmp 7]⟩
/-- quoin/unit.Hold -/
def unit_Hold.body : ACode :=
  .seq (.ops [.one (some 2) (.mov (.c (.int .i64 0)))] false [0]) <|
  .seq (.ops [.one (some 3) (.mov (.r 0)),
    .one (some 4) (.callC K.unit_within [(.r 3), (.c (.int .i64 1073741824))]),
    .one (some 2) (.mov (.r 4))] false [2]) <|
  .ret
def unit_Hold : AFun := ⟨unit_Hold.body, [.tmp 2]⟩
/-- quoin/unit.nearest -/
def unit_nearest.body : ACode :=
  .seq (.ops [.one (some 4) (.mov (.c (.int .i64 0)))] false [0, 1]) <|
  .seq (.ops [.one (some 5) (.mov (.r 0)),
    .one (some 6) (.bin .mul (.c (.int .i64 2)) (.r 5)),
    .one (some 7) (.mov (.r 1)),
    .one (some 8) (.bin .add (.r 6) (.r 7)),
    .one (some 9) (.mov (.r 1)),
    .one (some 10) (.bin .mul (.c (.int .i64 2)) (.r 9)),
    .one (some 11) (.callC K.unit_floor [(.r 8), (.r 10)]),
    .one (some 4) (.mov (.r 11))] false [4]) <|
  .ret
def unit_nearest : AFun := ⟨unit_nearest.body, [.tmp 4]⟩
/-- quoin/unit.within -/
def unit_within.body : ACode :=
  .seq (.ops [.one (some 4) (.mov (.c (.int .i64 0)))] false [0, 1]) <|
  .seq (.ops [.one (some 5) (.mov (.r 0)),
    .one (some 6) (.mov (.r 1)),
    .one (some 7) (.un .neg (.r 6)),
    .one (some 8) (.mx [(.r 5), (.r 7)]),
    .one (some 9) (.mov (.r 1)),
    .one (some 10) (.mn [(.r 8), (.r 9)]),
    .one (some 4) (.mov (.r 10))] false [4]) <|
  .ret
def unit_within : AFun := ⟨unit_within.body, [.tmp 4]⟩
/-- strings.IndexByte -/
def strings_IndexByte.body : ACode :=
  .seq (.ops [.one (some 4) (.mov (.c (.int .i64 0)))] false [0, 1]) <|
  .seq (.ops [.one (some 5) (.mov (.r 0)),
    .one (some 6) (.mov (.r 1)),
    .one (some 7) (.callC K.stringslite_IndexByte [(.r 5), (.r 6)]),
    .one (some 4) (.mov (.r 7))] false [4]) <|
  .ret
def strings_IndexByte : AFun := ⟨strings_IndexByte.body, [.tmp 4]⟩
/-- quoin/gaug.Of -/
def gaug_Of.body : ACode :=
  .seq (.ops [.one (some 4) (.mov (.c (.int .i64 0)))] false [0, 1]) <|
  .seq (.ops [.one (some 5) (.mov (.r 0)),
    .one (some 6) (.mov (.r 1)),
    .one (some 7) (.nilck (.r 5)),
    .one (some 8) (.faddr 0 (.r 7)),
    .one (some 9) (.iaddrA 256 1 (.r 8) (.r 6)),
    .one (some 10) (.load 1 false (.r 9)),
    .one (some 11) (.mx [(.r 10), (.c (.int .i64 0))]),
    .one (some 12) (.mn [(.r 11), (.c (.int .i64 65536))]),
    .one (some 4) (.mov (.r 12))] false [4]) <|
  .ret
def gaug_Of : AFun := ⟨gaug_Of.body, [.tmp 4]⟩
/-- quoin/unit.floor -/
def unit_floor.body : ACode :=
  .seq (.ops [.one (some 4) (.mov (.c (.int .i64 0)))] false [0, 1]) <|
  .seq (.ops [.one (some 6) (.mov (.r 0)),
    .one (some 7) (.mov (.r 1)),
    .one (some 8) (.bin .quo (.r 6) (.r 7)),
    .one (some 5) (.mov (.r 8))] false [0, 1, 5]) <|
  .seq (.seq (.ops [.one (some 9) (.mov (.r 0)),
    .one (some 10) (.mov (.r 1)),
    .one (some 11) (.bin .rem (.r 9) (.r 10)),
    .one (some 12) (.bin .lss (.r 11) (.c (.int .i64 0)))] false [5, 12]) <|
  .cond (.r 12) (.ops [.one (some 13) (.mov (.r 5)),
          .one (some 14) (.bin .sub (.r 13) (.c (.int .i64 1))),
          .one (some 5) (.mov (.r 14))] false [5])
      (.skip)) <|
  .seq (.ops [.one (some 15) (.mov (.r 5)),
    .one (some 4) (.mov (.r 15))] false [4]) <|
  .ret
def unit_floor : AFun := ⟨unit_floor.body, [.tmp 4]⟩
/-- internal/stringslite.IndexByte -/
def stringslite_IndexByte.body : ACode :=
  .seq (.ops [.one (some 4) (.mov (.c (.int .i64 0)))] false [0, 1]) <|
  .seq (.ops [.one (some 5) (.mov (.r 0)),
    .one (some 6) (.mov (.r 1)),
    .one (some 7) (.idxB (.r 5) (.r 6)),
    .one (some 4) (.mov (.r 7))] false [4]) <|
  .ret
def stringslite_IndexByte : AFun := ⟨stringslite_IndexByte.body, [.tmp 4]⟩
def table : List (Nat × AFun) := [(K.quoinlaw13_SizeBoxes, quoinlaw13_SizeBoxes), (K.quoinlaw13_SizeNested, quoinlaw13_SizeNested), (K.quoinlaw9_Tame, quoinlaw9_Tame), (K.quoinref4_Initial, quoinref4_Initial), (K.size_Outer, size_Outer), (K.size_Least, size_Least), (K.size_Most, size_Most), (K.quoinlaw13_awake, quoinlaw13_awake), (K.quoinlaw10_Runs, quoinlaw10_Runs), (K.size_content, size_content), (K.size_Clamp, size_Clamp), (K.size_Min, size_Min), (K.size_Max, size_Max), (K.size_fixed, size_fixed), (K.whit_Glyphs, whit_Glyphs), (K.brk_Least, brk_Least), (K.brk_Most, brk_Most), (K.size_of, size_of), (K.whit_all, whit_all), (K.whit_blank, whit_blank), (K.brk_rows, brk_rows), (K.brk_Least_1, brk_Least_1), (K.brk_Most_1, brk_Most_1), (K.unit_Pct, unit_Pct), (K.whit_glyph, whit_glyph), (K.unit_Hold, unit_Hold), (K.unit_nearest, unit_nearest), (K.unit_within, unit_within), (K.strings_IndexByte, strings_IndexByte), (K.gaug_Of, gaug_Of), (K.unit_floor, unit_floor), (K.stringslite_IndexByte, stringslite_IndexByte)]
def env (k : Nat) : Option AFun := table.lookup k
theorem env_quoinlaw13_SizeBoxes : env K.quoinlaw13_SizeBoxes = some quoinlaw13_SizeBoxes := rfl
theorem env_quoinlaw13_SizeNested : env K.quoinlaw13_SizeNested = some quoinlaw13_SizeNested := rfl
theorem env_quoinlaw9_Tame : env K.quoinlaw9_Tame = some quoinlaw9_Tame := rfl
theorem env_quoinref4_Initial : env K.quoinref4_Initial = some quoinref4_Initial := rfl
theorem env_size_Outer : env K.size_Outer = some size_Outer := rfl
theorem env_size_Least : env K.size_Least = some size_Least := rfl
theorem env_size_Most : env K.size_Most = some size_Most := rfl
theorem env_quoinlaw13_awake : env K.quoinlaw13_awake = some quoinlaw13_awake := rfl
theorem env_quoinlaw10_Runs : env K.quoinlaw10_Runs = some quoinlaw10_Runs := rfl
theorem env_size_content : env K.size_content = some size_content := rfl
theorem env_size_Clamp : env K.size_Clamp = some size_Clamp := rfl
theorem env_size_Min : env K.size_Min = some size_Min := rfl
theorem env_size_Max : env K.size_Max = some size_Max := rfl
theorem env_size_fixed : env K.size_fixed = some size_fixed := rfl
theorem env_whit_Glyphs : env K.whit_Glyphs = some whit_Glyphs := rfl
theorem env_brk_Least : env K.brk_Least = some brk_Least := rfl
theorem env_brk_Most : env K.brk_Most = some brk_Most := rfl
theorem env_size_of : env K.size_of = some size_of := rfl
theorem env_whit_all : env K.whit_all = some whit_all := rfl
theorem env_whit_blank : env K.whit_blank = some whit_blank := rfl
theorem env_brk_rows : env K.brk_rows = some brk_rows := rfl
theorem env_brk_Least_1 : env K.brk_Least_1 = some brk_Least_1 := rfl
theorem env_brk_Most_1 : env K.brk_Most_1 = some brk_Most_1 := rfl
theorem env_unit_Pct : env K.unit_Pct = some unit_Pct := rfl
theorem env_whit_glyph : env K.whit_glyph = some whit_glyph := rfl
theorem env_unit_Hold : env K.unit_Hold = some unit_Hold := rfl
theorem env_unit_nearest : env K.unit_nearest = some unit_nearest := rfl
theorem env_unit_within : env K.unit_within = some unit_within := rfl
theorem env_strings_IndexByte : env K.strings_IndexByte = some strings_IndexByte := rfl
theorem env_gaug_Of : env K.gaug_Of = some gaug_Of := rfl
theorem env_unit_floor : env K.unit_floor = some unit_floor := rfl
theorem env_stringslite_IndexByte : env K.stringslite_IndexByte = some stringslite_IndexByte := rfl
end C
end Go.Proofs.Ytncnpgakflmibaa.Ai
