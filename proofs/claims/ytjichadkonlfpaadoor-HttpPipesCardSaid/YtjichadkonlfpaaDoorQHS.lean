/- The texts HShelf H1 H2 H3 of this work, merged by wip/merge.py. No conditions. -/
import Derived.Shelf.Strings.OnBuilder
import Derived.Shelf.Strings.SlTrimAscii
import Derived.Shelf.Strconv.Atoi
import Derived.Shelf.LaysM
import Derived.Shelf.Strconv.Itoa3
import Derived.Test.YtjichadkonlfpaaDoorProg
import Derived.Test.YtjichadkonlfpaaDoorQHB
namespace Go.Proofs
open Go.Shelf
def Tryd.lays159_ren : Go.Shelf.Ren := ⟨fun | 159 => 27 | 165 => 36 | 166 => 37 | 167 => 38 | 169 => 39 | 230 => 40 | 204 => 41 | 240 => 56 | 241 => 57 | 197 => 58 | 118 => 59 | 168 => 60 | 270 => 61 | 262 => 62 | 276 => 76 | 277 => 77 | 260 => 78 | 242 => 79 | 313 => 80 | 278 => 89 | 274 => 90 | 275 => 91 | n => n, fun | 9 => 9 | 4 => 4 | 3 => 3 | 5 => 5 | 72 => 73 | 0 => 0 | 76 => 65 | 75 => 64 | 107 => 78 | 70 => 71 | 20 => 20 | 37 => 24 | 127 => 93 | 21 => 21 | 105 => 94 | 164 => 113 | 162 => 119 | 203 => 117 | 119 => 127 | 46 => 39 | 139 => 130 | 138 => 129 | 51 => 109 | 160 => 131 | 208 => 145 | 206 => 143 | 80 => 76 | n => n, fun | 13 => 1 | 3 => 5 | 4 => 6 | n => n⟩
theorem Tryd.lays159 : Go.Proofs.Lays.n159 Tryd.prog Tryd.lays159_ren := {
  mixed := by kernel_rfl
  f118 := Tryd.func59.trans (congrArg some (by kernel_rfl))
  f159 := Tryd.func27.trans (congrArg some (by kernel_rfl))
  f165 := Tryd.func36.trans (congrArg some (by kernel_rfl))
  f166 := Tryd.func37.trans (congrArg some (by kernel_rfl))
  f167 := Tryd.func38.trans (congrArg some (by kernel_rfl))
  f168 := Tryd.func60.trans (congrArg some (by kernel_rfl))
  f169 := Tryd.func39.trans (congrArg some (by kernel_rfl))
  f197 := Tryd.func58.trans (congrArg some (by kernel_rfl))
  f204 := Tryd.func41.trans (congrArg some (by kernel_rfl))
  f230 := Tryd.func40.trans (congrArg some (by kernel_rfl))
  f240 := Tryd.func56.trans (congrArg some (by kernel_rfl))
  f241 := Tryd.func57.trans (congrArg some (by kernel_rfl))
  f242 := Tryd.func79.trans (congrArg some (by kernel_rfl))
  f260 := Tryd.func78.trans (congrArg some (by kernel_rfl))
  f262 := Tryd.func62.trans (congrArg some (by kernel_rfl))
  f270 := Tryd.func61.trans (congrArg some (by kernel_rfl))
  f274 := Tryd.func90.trans (congrArg some (by kernel_rfl))
  f275 := Tryd.func91.trans (congrArg some (by kernel_rfl))
  f276 := Tryd.func76.trans (congrArg some (by kernel_rfl))
  f277 := Tryd.func77.trans (congrArg some (by kernel_rfl))
  f278 := Tryd.func89.trans (congrArg some (by kernel_rfl))
  f313 := Tryd.func80.trans (congrArg some (by kernel_rfl))
  t0 := Tryd.underlying0
  a0 := Tryd.isAgg0
  z0 := Tryd.sizeOf0
  v0 := Tryd.zeroValue0
  t3 := Tryd.underlying3
  a3 := Tryd.isAgg3
  z3 := Tryd.sizeOf3
  v3 := Tryd.zeroValue3
  t4 := Tryd.underlying4
  a4 := Tryd.isAgg4
  z4 := Tryd.sizeOf4
  v4 := Tryd.zeroValue4
  t5 := Tryd.underlying5
  a5 := Tryd.isAgg5
  z5 := Tryd.sizeOf5
  v5 := Tryd.zeroValue5
  t9 := Tryd.underlying9
  a9 := Tryd.isAgg9
  z9 := Tryd.sizeOf9
  v9 := Tryd.zeroValue9
  t20 := Tryd.underlying20
  a20 := Tryd.isAgg20
  z20 := Tryd.sizeOf20
  v20 := Tryd.zeroValue20
  t21 := Tryd.underlying21
  a21 := Tryd.isAgg21
  z21 := Tryd.sizeOf21
  v21 := Tryd.zeroValue21
  t37 := Tryd.underlying24
  a37 := Tryd.isAgg24
  z37 := Tryd.sizeOf24
  v37 := Tryd.zeroValue24
  t46 := Tryd.underlying39
  a46 := Tryd.isAgg39
  z46 := Tryd.sizeOf39
  v46 := Tryd.zeroValue39
  t51 := Tryd.underlying109
  a51 := Tryd.isAgg109
  z51 := Tryd.sizeOf109
  v51 := Tryd.zeroValue109
  t70 := Tryd.underlying71
  a70 := Tryd.isAgg71
  z70 := Tryd.sizeOf71
  v70 := Tryd.zeroValue71
  t72 := Tryd.underlying73
  a72 := Tryd.isAgg73
  z72 := Tryd.sizeOf73
  v72 := Tryd.zeroValue73
  t75 := Tryd.underlying64
  a75 := Tryd.isAgg64
  z75 := Tryd.sizeOf64
  v75 := Tryd.zeroValue64
  t76 := Tryd.underlying65
  a76 := Tryd.isAgg65
  z76 := Tryd.sizeOf65
  v76 := Tryd.zeroValue65
  t105 := Tryd.underlying94
  a105 := Tryd.isAgg94
  z105 := Tryd.sizeOf94
  v105 := Tryd.zeroValue94
  t107 := Tryd.underlying78
  a107 := Tryd.isAgg78
  z107 := Tryd.sizeOf78
  v107 := Tryd.zeroValue78
  t119 := Tryd.underlying127
  a119 := Tryd.isAgg127
  z119 := Tryd.sizeOf127
  t127 := Tryd.underlying93
  a127 := Tryd.isAgg93
  z127 := Tryd.sizeOf93
  v127 := Tryd.zeroValue93
  t138 := Tryd.underlying129
  a138 := Tryd.isAgg129
  z138 := Tryd.sizeOf129
  v138 := Tryd.zeroValue129
  t139 := Tryd.underlying130
  a139 := Tryd.isAgg130
  z139 := Tryd.sizeOf130
  v139 := Tryd.zeroValue130
  t160 := Tryd.underlying131
  a160 := Tryd.isAgg131
  z160 := Tryd.sizeOf131
  v160 := Tryd.zeroValue131
  t162 := Tryd.underlying119
  a162 := Tryd.isAgg119
  z162 := Tryd.sizeOf119
  v162 := Tryd.zeroValue119
  t164 := Tryd.underlying113
  a164 := Tryd.isAgg113
  z164 := Tryd.sizeOf113
  v164 := Tryd.zeroValue113
  t203 := Tryd.underlying117
  a203 := Tryd.isAgg117
  z203 := Tryd.sizeOf117
  v203 := Tryd.zeroValue117
  t206 := Tryd.underlying143
  a206 := Tryd.isAgg143
  z206 := Tryd.sizeOf143
  v206 := Tryd.zeroValue143
  t208 := Tryd.underlying145
  a208 := Tryd.isAgg145
  z208 := Tryd.sizeOf145
  v208 := Tryd.zeroValue145
  g3 := by kernel_rfl
  g4 := by kernel_rfl
  g13 := by kernel_rfl }
theorem Tryd.Builder_Extra_159 : Builder.Extra Tryd.prog Tryd.lays159_ren := {
  sizeBuilder := by kernel_rfl
  liesBuilder := by kernel_rfl
  t5 := Tryd.underlying5
  a5 := Tryd.isAgg5
  z5 := Tryd.sizeOf5
  v5 := Tryd.zeroValue5
  infoByte := by kernel_rfl
  cellsByte := by kernel_rfl
  sizeByte := by kernel_rfl
  neB5 := by decide }
open Go.RowKit in
theorem Tryd.strings_ToLower_ascii (s : ByteArray) (w : World) (hs : s.size ≤ 140737488355328) (hascii : ∀ (j : Nat) (b : UInt8), s.data.toList[j]? = some b → b.toNat < 128) :
    Calls Tryd.prog 27 #[.string s] w fun e w' => e = .returned (.string ⟨(Lib.toLowerA s.data.toList).toArray⟩) ∧ Below w.heap.size w w' := Any.strings_ToLower_ascii Tryd.lays159 Tryd.Builder_Extra_159 s w hs hascii
def Tryd.lays160_ren : Go.Shelf.Ren := ⟨fun | 160 => 30 | 232 => 43 | 231 => 42 | 227 => 44 | 234 => 46 | 233 => 45 | 236 => 48 | 235 => 47 | 228 => 63 | 271 => 65 | 151 => 64 | 197 => 58 | 120 => 82 | 152 => 81 | 260 => 78 | 137 => 92 | 119 => 93 | 224 => 94 | 225 => 95 | 217 => 96 | 266 => 97 | n => n, fun | 9 => 9 | 4 => 4 | 3 => 3 | 5 => 5 | 117 => 82 | 116 => 81 | 0 => 0 | 124 => 85 | 21 => 21 | 105 => 94 | 46 => 39 | 119 => 127 | 139 => 130 | 138 => 129 | n => n, fun | 3 => 5 | 4 => 6 | n => n⟩
theorem Tryd.lays160 : Go.Proofs.Lays.n160 Tryd.prog Tryd.lays160_ren := {
  mixed := by kernel_rfl
  f119 := Tryd.func93.trans (congrArg some (by kernel_rfl))
  f120 := Tryd.func82.trans (congrArg some (by kernel_rfl))
  f137 := Tryd.func92.trans (congrArg some (by kernel_rfl))
  f151 := Tryd.func64.trans (congrArg some (by kernel_rfl))
  f152 := Tryd.func81.trans (congrArg some (by kernel_rfl))
  f160 := Tryd.func30.trans (congrArg some (by kernel_rfl))
  f197 := Tryd.func58.trans (congrArg some (by kernel_rfl))
  f217 := Tryd.func96.trans (congrArg some (by kernel_rfl))
  f224 := Tryd.func94.trans (congrArg some (by kernel_rfl))
  f225 := Tryd.func95.trans (congrArg some (by kernel_rfl))
  f227 := Tryd.func44.trans (congrArg some (by kernel_rfl))
  f228 := Tryd.func63.trans (congrArg some (by kernel_rfl))
  f231 := Tryd.func42.trans (congrArg some (by kernel_rfl))
  f232 := Tryd.func43.trans (congrArg some (by kernel_rfl))
  f233 := Tryd.func45.trans (congrArg some (by kernel_rfl))
  f234 := Tryd.func46.trans (congrArg some (by kernel_rfl))
  f235 := Tryd.func47.trans (congrArg some (by kernel_rfl))
  f236 := Tryd.func48.trans (congrArg some (by kernel_rfl))
  f260 := Tryd.func78.trans (congrArg some (by kernel_rfl))
  f266 := Tryd.func97.trans (congrArg some (by kernel_rfl))
  f271 := Tryd.func65.trans (congrArg some (by kernel_rfl))
  t0 := Tryd.underlying0
  a0 := Tryd.isAgg0
  z0 := Tryd.sizeOf0
  v0 := Tryd.zeroValue0
  t3 := Tryd.underlying3
  a3 := Tryd.isAgg3
  z3 := Tryd.sizeOf3
  v3 := Tryd.zeroValue3
  t4 := Tryd.underlying4
  a4 := Tryd.isAgg4
  z4 := Tryd.sizeOf4
  v4 := Tryd.zeroValue4
  t5 := Tryd.underlying5
  a5 := Tryd.isAgg5
  z5 := Tryd.sizeOf5
  v5 := Tryd.zeroValue5
  t9 := Tryd.underlying9
  a9 := Tryd.isAgg9
  z9 := Tryd.sizeOf9
  v9 := Tryd.zeroValue9
  t21 := Tryd.underlying21
  a21 := Tryd.isAgg21
  z21 := Tryd.sizeOf21
  v21 := Tryd.zeroValue21
  t46 := Tryd.underlying39
  a46 := Tryd.isAgg39
  z46 := Tryd.sizeOf39
  v46 := Tryd.zeroValue39
  t105 := Tryd.underlying94
  a105 := Tryd.isAgg94
  z105 := Tryd.sizeOf94
  v105 := Tryd.zeroValue94
  t116 := Tryd.underlying81
  a116 := Tryd.isAgg81
  z116 := Tryd.sizeOf81
  t117 := Tryd.underlying82
  a117 := Tryd.isAgg82
  z117 := Tryd.sizeOf82
  v117 := Tryd.zeroValue82
  t119 := Tryd.underlying127
  a119 := Tryd.isAgg127
  z119 := Tryd.sizeOf127
  t124 := Tryd.underlying85
  a124 := Tryd.isAgg85
  z124 := Tryd.sizeOf85
  v124 := Tryd.zeroValue85
  t138 := Tryd.underlying129
  a138 := Tryd.isAgg129
  z138 := Tryd.sizeOf129
  v138 := Tryd.zeroValue129
  t139 := Tryd.underlying130
  a139 := Tryd.isAgg130
  z139 := Tryd.sizeOf130
  v139 := Tryd.zeroValue130
  g3 := by kernel_rfl
  g4 := by kernel_rfl }
def Tryd.lays172_ren : Go.Shelf.Ren := ⟨fun | 172 => 32 | 244 => 49 | 245 => 50 | 247 => 51 | 279 => 66 | 280 => 67 | 281 => 68 | 282 => 69 | 287 => 70 | 316 => 83 | 171 => 18 | 205 => 84 | 321 => 85 | 322 => 86 | 243 => 24 | 246 => 35 | 283 => 52 | 284 => 53 | 285 => 54 | 286 => 55 | 129 => 72 | 317 => 71 | 318 => 73 | 319 => 74 | 320 => 75 | 337 => 87 | 338 => 88 | n => n, fun | 9 => 9 | 3 => 3 | 75 => 64 | 76 => 65 | 4 => 4 | 5 => 5 | 167 => 100 | 37 => 24 | 0 => 0 | 85 => 68 | 2 => 2 | 168 => 101 | 53 => 88 | 175 => 104 | 46 => 39 | 210 => 122 | 127 => 93 | 145 => 139 | 143 => 137 | 21 => 21 | 171 => 87 | 173 => 91 | 212 => 108 | 51 => 109 | 20 => 20 | 213 => 110 | 232 => 140 | 233 => 141 | 80 => 76 | n => n, fun | 15 => 2 | 16 => 3 | 17 => 0 | 18 => 7 | 19 => 8 | n => n⟩
theorem Tryd.lays172 : Go.Proofs.Lays.n172 Tryd.prog Tryd.lays172_ren := {
  mixed := by kernel_rfl
  f129 := Tryd.func72.trans (congrArg some (by kernel_rfl))
  f171 := Tryd.func18.trans (congrArg some (by kernel_rfl))
  f172 := Tryd.func32.trans (congrArg some (by kernel_rfl))
  f205 := Tryd.func84.trans (congrArg some (by kernel_rfl))
  f243 := Tryd.func24.trans (congrArg some (by kernel_rfl))
  f244 := Tryd.func49.trans (congrArg some (by kernel_rfl))
  f245 := Tryd.func50.trans (congrArg some (by kernel_rfl))
  f246 := Tryd.func35.trans (congrArg some (by kernel_rfl))
  f247 := Tryd.func51.trans (congrArg some (by kernel_rfl))
  f279 := Tryd.func66.trans (congrArg some (by kernel_rfl))
  f280 := Tryd.func67.trans (congrArg some (by kernel_rfl))
  f281 := Tryd.func68.trans (congrArg some (by kernel_rfl))
  f282 := Tryd.func69.trans (congrArg some (by kernel_rfl))
  f283 := Tryd.func52.trans (congrArg some (by kernel_rfl))
  f284 := Tryd.func53.trans (congrArg some (by kernel_rfl))
  f285 := Tryd.func54.trans (congrArg some (by kernel_rfl))
  f286 := Tryd.func55.trans (congrArg some (by kernel_rfl))
  f287 := Tryd.func70.trans (congrArg some (by kernel_rfl))
  f316 := Tryd.func83.trans (congrArg some (by kernel_rfl))
  f317 := Tryd.func71.trans (congrArg some (by kernel_rfl))
  f318 := Tryd.func73.trans (congrArg some (by kernel_rfl))
  f319 := Tryd.func74.trans (congrArg some (by kernel_rfl))
  f320 := Tryd.func75.trans (congrArg some (by kernel_rfl))
  f321 := Tryd.func85.trans (congrArg some (by kernel_rfl))
  f322 := Tryd.func86.trans (congrArg some (by kernel_rfl))
  f337 := Tryd.func87.trans (congrArg some (by kernel_rfl))
  f338 := Tryd.func88.trans (congrArg some (by kernel_rfl))
  t0 := Tryd.underlying0
  a0 := Tryd.isAgg0
  z0 := Tryd.sizeOf0
  v0 := Tryd.zeroValue0
  t2 := Tryd.underlying2
  a2 := Tryd.isAgg2
  z2 := Tryd.sizeOf2
  v2 := Tryd.zeroValue2
  t3 := Tryd.underlying3
  a3 := Tryd.isAgg3
  z3 := Tryd.sizeOf3
  v3 := Tryd.zeroValue3
  t4 := Tryd.underlying4
  a4 := Tryd.isAgg4
  z4 := Tryd.sizeOf4
  v4 := Tryd.zeroValue4
  t5 := Tryd.underlying5
  a5 := Tryd.isAgg5
  z5 := Tryd.sizeOf5
  v5 := Tryd.zeroValue5
  t9 := Tryd.underlying9
  a9 := Tryd.isAgg9
  z9 := Tryd.sizeOf9
  v9 := Tryd.zeroValue9
  t20 := Tryd.underlying20
  a20 := Tryd.isAgg20
  z20 := Tryd.sizeOf20
  v20 := Tryd.zeroValue20
  t21 := Tryd.underlying21
  a21 := Tryd.isAgg21
  z21 := Tryd.sizeOf21
  v21 := Tryd.zeroValue21
  t37 := Tryd.underlying24
  a37 := Tryd.isAgg24
  z37 := Tryd.sizeOf24
  v37 := Tryd.zeroValue24
  t46 := Tryd.underlying39
  a46 := Tryd.isAgg39
  z46 := Tryd.sizeOf39
  v46 := Tryd.zeroValue39
  t51 := Tryd.underlying109
  a51 := Tryd.isAgg109
  z51 := Tryd.sizeOf109
  v51 := Tryd.zeroValue109
  t53 := Tryd.underlying88
  a53 := Tryd.isAgg88
  z53 := Tryd.sizeOf88
  v53 := Tryd.zeroValue88
  t75 := Tryd.underlying64
  a75 := Tryd.isAgg64
  z75 := Tryd.sizeOf64
  v75 := Tryd.zeroValue64
  t76 := Tryd.underlying65
  a76 := Tryd.isAgg65
  z76 := Tryd.sizeOf65
  v76 := Tryd.zeroValue65
  t85 := Tryd.underlying68
  a85 := Tryd.isAgg68
  z85 := Tryd.sizeOf68
  v85 := Tryd.zeroValue68
  t127 := Tryd.underlying93
  a127 := Tryd.isAgg93
  z127 := Tryd.sizeOf93
  v127 := Tryd.zeroValue93
  t143 := Tryd.underlying137
  a143 := Tryd.isAgg137
  z143 := Tryd.sizeOf137
  v143 := Tryd.zeroValue137
  t145 := Tryd.underlying139
  a145 := Tryd.isAgg139
  z145 := Tryd.sizeOf139
  v145 := Tryd.zeroValue139
  t167 := Tryd.underlying100
  a167 := Tryd.isAgg100
  z167 := Tryd.sizeOf100
  v167 := Tryd.zeroValue100
  t168 := Tryd.underlying101
  a168 := Tryd.isAgg101
  z168 := Tryd.sizeOf101
  v168 := Tryd.zeroValue101
  t171 := Tryd.underlying87
  a171 := Tryd.isAgg87
  z171 := Tryd.sizeOf87
  v171 := Tryd.zeroValue87
  t173 := Tryd.underlying91
  a173 := Tryd.isAgg91
  z173 := Tryd.sizeOf91
  v173 := Tryd.zeroValue91
  t175 := Tryd.underlying104
  a175 := Tryd.isAgg104
  z175 := Tryd.sizeOf104
  v175 := Tryd.zeroValue104
  t210 := Tryd.underlying122
  a210 := Tryd.isAgg122
  z210 := Tryd.sizeOf122
  v210 := Tryd.zeroValue122
  t212 := Tryd.underlying108
  a212 := Tryd.isAgg108
  z212 := Tryd.sizeOf108
  v212 := Tryd.zeroValue108
  t213 := Tryd.underlying110
  a213 := Tryd.isAgg110
  z213 := Tryd.sizeOf110
  t232 := Tryd.underlying140
  a232 := Tryd.isAgg140
  z232 := Tryd.sizeOf140
  v232 := Tryd.zeroValue140
  t233 := Tryd.underlying141
  a233 := Tryd.isAgg141
  z233 := Tryd.sizeOf141
  v233 := Tryd.zeroValue141
  g15 := by kernel_rfl
  g16 := by kernel_rfl
  g17 := by kernel_rfl
  g18 := by kernel_rfl
  g19 := by kernel_rfl }
open Go.RowKit in
theorem Tryd.strconv_Atoi (s : ByteArray) (n : Int) (hl : s.size ≤ 18) (h : Lib.atoi s.data.toList = some n) (w : World) :
    Calls Tryd.prog 32 #[.string s] w fun e w' => e = .returned (.tuple #[.int .i64 n, .nilIface]) ∧ ∃ t, w' = Lib.bytesWorld w 5 t := Any.strconv_Atoi Tryd.lays172 s n hl h w
def Tryd.laysM171_ren : Go.Shelf.Ren := ⟨fun | 171 => 18 | 243 => 24 | 246 => 35 | 283 => 52 | 284 => 53 | 285 => 54 | 286 => 55 | 129 => 72 | 317 => 71 | 318 => 73 | 319 => 74 | 320 => 75 | 337 => 87 | 338 => 88 | n => n, fun | 3 => 3 | 9 => 9 | 2 => 2 | 4 => 4 | 171 => 87 | 0 => 0 | 53 => 88 | 37 => 24 | 5 => 5 | 173 => 91 | 212 => 108 | 51 => 109 | 20 => 20 | 213 => 110 | 46 => 39 | 232 => 140 | 233 => 141 | n => n, fun | 17 => 0 | 18 => 7 | 19 => 8 | n => n⟩
theorem Tryd.laysM171 : Go.Proofs.LaysM.n171 Tryd.prog Tryd.laysM171_ren := {
  mixed := by kernel_rfl
  f129 := Tryd.func72.trans (congrArg some (by kernel_rfl))
  f171 := Tryd.func18.trans (congrArg some (by kernel_rfl))
  f243 := Tryd.func24.trans (congrArg some (by kernel_rfl))
  f246 := Tryd.func35.trans (congrArg some (by kernel_rfl))
  f283 := Tryd.func52.trans (congrArg some (by kernel_rfl))
  f284 := Tryd.func53.trans (congrArg some (by kernel_rfl))
  f285 := Tryd.func54.trans (congrArg some (by kernel_rfl))
  f286 := Tryd.func55.trans (congrArg some (by kernel_rfl))
  f317 := Tryd.func71.trans (congrArg some (by kernel_rfl))
  f318 := Tryd.func73.trans (congrArg some (by kernel_rfl))
  f319 := Tryd.func74.trans (congrArg some (by kernel_rfl))
  f320 := Tryd.func75.trans (congrArg some (by kernel_rfl))
  f337 := Tryd.func87.trans (congrArg some (by kernel_rfl))
  f338 := Tryd.func88.trans (congrArg some (by kernel_rfl))
  t0 := Tryd.underlying0
  a0 := Tryd.isAgg0
  z0 := Tryd.sizeOf0
  v0 := Tryd.zeroValue0
  t2 := Tryd.underlying2
  a2 := Tryd.isAgg2
  z2 := Tryd.sizeOf2
  v2 := Tryd.zeroValue2
  t3 := Tryd.underlying3
  a3 := Tryd.isAgg3
  z3 := Tryd.sizeOf3
  v3 := Tryd.zeroValue3
  t4 := Tryd.underlying4
  a4 := Tryd.isAgg4
  z4 := Tryd.sizeOf4
  v4 := Tryd.zeroValue4
  t5 := Tryd.underlying5
  a5 := Tryd.isAgg5
  z5 := Tryd.sizeOf5
  v5 := Tryd.zeroValue5
  t9 := Tryd.underlying9
  a9 := Tryd.isAgg9
  z9 := Tryd.sizeOf9
  v9 := Tryd.zeroValue9
  t20 := Tryd.underlying20
  a20 := Tryd.isAgg20
  z20 := Tryd.sizeOf20
  v20 := Tryd.zeroValue20
  t37 := Tryd.underlying24
  a37 := Tryd.isAgg24
  z37 := Tryd.sizeOf24
  v37 := Tryd.zeroValue24
  t46 := Tryd.underlying39
  a46 := Tryd.isAgg39
  z46 := Tryd.sizeOf39
  v46 := Tryd.zeroValue39
  t51 := Tryd.underlying109
  a51 := Tryd.isAgg109
  z51 := Tryd.sizeOf109
  v51 := Tryd.zeroValue109
  t53 := Tryd.underlying88
  a53 := Tryd.isAgg88
  z53 := Tryd.sizeOf88
  v53 := Tryd.zeroValue88
  t171 := Tryd.underlying87
  a171 := Tryd.isAgg87
  z171 := Tryd.sizeOf87
  v171 := Tryd.zeroValue87
  t173 := Tryd.underlying91
  a173 := Tryd.isAgg91
  z173 := Tryd.sizeOf91
  v173 := Tryd.zeroValue91
  t212 := Tryd.underlying108
  a212 := Tryd.isAgg108
  z212 := Tryd.sizeOf108
  v212 := Tryd.zeroValue108
  t213 := Tryd.underlying110
  a213 := Tryd.isAgg110
  z213 := Tryd.sizeOf110
  t232 := Tryd.underlying140
  a232 := Tryd.isAgg140
  z232 := Tryd.sizeOf140
  v232 := Tryd.zeroValue140
  t233 := Tryd.underlying141
  a233 := Tryd.isAgg141
  z233 := Tryd.sizeOf141
  v233 := Tryd.zeroValue141
  g17 := by kernel_rfl
  g18 := by kernel_rfl
  g19 := by kernel_rfl
  i0 := by kernel_rfl
  i2 := by kernel_rfl
  i3 := by kernel_rfl
  i4 := by kernel_rfl
  i5 := by kernel_rfl
  i9 := by kernel_rfl
  i20 := by kernel_rfl
  i37 := by kernel_rfl
  i46 := by kernel_rfl
  i51 := by kernel_rfl
  i53 := by kernel_rfl
  i171 := by kernel_rfl
  i173 := by kernel_rfl
  i212 := by kernel_rfl
  i232 := by kernel_rfl
  i233 := by kernel_rfl
  m17 := by kernel_rfl
  m18 := by kernel_rfl
  m19 := by kernel_rfl }
open Go.RowKit Go.Sort Go.Lib in
theorem Tryd.strconv_Itoa (n : Int) (h0 : -9223372036854775808 ≤ n) (h1 : n ≤ 9223372036854775807) (w : World) (htab : Lib.TabIs Tryd.prog w "internal/strconv.uint64pow10" .u64 Lib.pow10Tab) :
    Calls Tryd.prog 18 #[.int .i64 n] w fun e w' => e = .returned (.string ⟨(Lib.itoa n).toArray⟩) ∧ ∃ k os, w' = grow (w.drewN k) os := Any.strconv_Itoa Tryd.laysM171 n h0 h1 w htab
end Go.Proofs

namespace Go.Proofs.YtjichadkonlfpaaDoor
open Go.RowKit
/-- What a parser holds. -/
structure PS where
  st : Int
  en : Bool
  hd : Int
  wd : List UInt8
  m : List UInt8
  t : List UInt8
  hs : List (List UInt8 × List UInt8)
  bd : List UInt8
  cl : Bool
  old : Bool
  lf : Int
def hsV (hs : List (List UInt8 × List UInt8)) : List Value := hs.flatMap fun p => [.string ⟨p.1.toArray⟩, .string ⟨p.2.toArray⟩]
def PS.cs (s : PS) (W H B : Value) : Array Value := #[.int .i64 s.st, .bool s.en, .int .i64 s.hd, W, .string ⟨s.m.toArray⟩, .string ⟨s.t.toArray⟩, H, B, .bool s.cl, .bool s.old, .int .i64 s.lf]
/-- A parser at block g, its three slices. -/
structure Par (w : World) (g : Nat) (s : PS) (W H B : Value) : Prop where
  row : w.heap[g]? = some (.cells (s.cs W H B) 48 (0, 0))
  wd : Own8 w 0 W s.wd
  hs : w.ownsRow 0 55 2 H s.hs.length (hsV s.hs)
  bd : Own8 w 0 B s.bd
  gw : W.ownBlock ≠ some g
  gh : H.ownBlock ≠ some g
  gb : B.ownBlock ≠ some g
  wh : ∀ k, W.ownBlock = some k → H.ownBlock ≠ some k
  wb : ∀ k, W.ownBlock = some k → B.ownBlock ≠ some k
  hb : ∀ k, H.ownBlock = some k → B.ownBlock ≠ some k
def PL (g : Nat) (W H B : Value) : List Nat := g :: (W.ownBlock.toList ++ (H.ownBlock.toList ++ B.ownBlock.toList))
/-- From one state to another: only the parser's own blocks were written through, and what it owns behind is its own or new. -/
structure PStep (g : Nat) (W H B : Value) (w : World) (W' H' B' : Value) (w' : World) : Prop where
  frm : Frm (PL g W H B) w w'
  new : ∀ k ∈ PL g W' H' B', k ∈ PL g W H B ∨ w.heap.size ≤ k
theorem PStep.refl (g : Nat) (W H B : Value) (w : World) : PStep g W H B w W H B w := ⟨Frm.refl _ _, fun _ h => .inl h⟩
theorem PStep.trans {g : Nat} {W H B W1 H1 B1 W2 H2 B2 : Value} {w w1 w2 : World} (h : PStep g W H B w W1 H1 B1 w1) (k : PStep g W1 H1 B1 w1 W2 H2 B2 w2) : PStep g W H B w W2 H2 B2 w2 := by
  refine ⟨⟨k.frm.os.trans h.frm.os, k.frm.tape.trans h.frm.tape, k.frm.output.trans h.frm.output, Nat.le_trans h.frm.size k.frm.size, fun i hi hn => ?_⟩, fun i hi => ?_⟩
  · refine (k.frm.block i (Nat.lt_of_lt_of_le hi h.frm.size) (fun hi2 => ?_)).trans (h.frm.block i hi hn)
    rcases h.new i hi2 with h3 | h3
    · exact hn h3
    · omega
  · rcases k.new i hi with h3 | h3
    · exact h.new i h3
    · exact .inr (Nat.le_trans h.frm.size h3)
theorem PStep.of_below {g : Nat} {W H B : Value} {w w' : World} (h : Below w.heap.size w w') : PStep g W H B w W H B w' := ⟨Frm.of_below h, fun _ h => .inl h⟩
theorem Par.below {w w' : World} {g : Nat} {s : PS} {W H B : Value} (h : Par w g s W H B) (hb : Below w.heap.size w w') : Par w' g s W H B :=
  ⟨heap_below h.row hb, own8_below h.wd hb, ownR_below h.hs hb, own8_below h.bd hb, h.gw, h.gh, h.gb, h.wh, h.wb, h.hb⟩
theorem Par.at_ {w : World} {g : Nat} {s : PS} {W H B : Value} (h : Par w g s W H B) : w.cell? ⟨g, 0, none⟩ = some (.int .i64 s.st) ∧ w.cell? ⟨g, 1, none⟩ = some (.bool s.en) ∧ w.cell? ⟨g, 2, none⟩ = some (.int .i64 s.hd) ∧ w.cell? ⟨g, 3, none⟩ = some W ∧ w.cell? ⟨g, 4, none⟩ = some (.string ⟨s.m.toArray⟩) ∧ w.cell? ⟨g, 5, none⟩ = some (.string ⟨s.t.toArray⟩) ∧
    w.cell? ⟨g, 6, none⟩ = some H ∧ w.cell? ⟨g, 7, none⟩ = some B ∧ w.cell? ⟨g, 8, none⟩ = some (.bool s.cl) ∧ w.cell? ⟨g, 9, none⟩ = some (.bool s.old) ∧ w.cell? ⟨g, 10, none⟩ = some (.int .i64 s.lf) := by
  refine ⟨?_, ?_, ?_, ?_, ?_, ?_, ?_, ?_, ?_, ?_, ?_⟩ <;> rw [cell_of_row w g _ _ _ _ h.row] <;> rfl
theorem Par.fz {w : World} {g : Nat} {s : PS} {W H B : Value} (h : Par w g s W H B) (i : Nat) : w.frozen? ⟨g, i, none⟩ = false := frozen_row h.row i
/-- A cell that is no slice is written. -/
theorem Par.set {w : World} {g : Nat} {s s' : PS} {W H B : Value} (h : Par w g s W H B) (i : Nat) (v : Value) (hc : (s.cs W H B).setIfInBounds i v = s'.cs W H B) (h1 : s'.wd = s.wd) (h2 : s'.hs = s.hs) (h3 : s'.bd = s.bd) : Par (w.setCell ⟨g, i, none⟩ v) g s' W H B ∧ PStep g W H B w W H B (w.setCell ⟨g, i, none⟩ v) := by
  have hf := Frm.setCell w g i v
  have hr := heap_setCell_same w g i _ _ v h.row
  rw [hc] at hr
  refine ⟨⟨hr, ?_, ?_, ?_, h.gw, h.gh, h.gb, h.wh, h.wb, h.hb⟩, hf.more (by simp [PL]), fun _ h => .inl h⟩
  · rw [h1]; exact ownR_frms h.wd hf (fun q hq => .inr (by rw [List.mem_singleton.1 hq]; exact h.gw))
  · rw [h2]; exact ownR_frms h.hs hf (fun q hq => .inr (by rw [List.mem_singleton.1 hq]; exact h.gh))
  · rw [h3]; exact ownR_frms h.bd hf (fun q hq => .inr (by rw [List.mem_singleton.1 hq]; exact h.gb))
/-- A slice of the parser's after an append, put back: the word (cell 3). -/
theorem Par.appW {w w0 w' : World} {g : Nat} {s : PS} {W H B v' : Value} {l : List UInt8} (h : Par w g s W H B) (h0 : Below w.heap.size w w0) (ho : Own8 w' 0 v' l) (hg : w0.grownBy w' W.ownBlock) (hx : v'.ownBlock = W.ownBlock ∨ v'.ownBlock = some w0.heap.size) :
    w'.cell? ⟨g, 3, none⟩ = some W ∧ w'.frozen? ⟨g, 3, none⟩ = false ∧ Par (w'.setCell ⟨g, 3, none⟩ v') g { s with wd := l } v' H B ∧ PStep g W H B w v' H B (w'.setCell ⟨g, 3, none⟩ v') := by
  have P0 := h.below h0
  have hgl := lt_of_heap P0.row
  have r1 := own_other P0.row hg P0.gw
  have h1 := ownR_other P0.hs hg P0.wh
  have b1 := ownR_other P0.bd hg P0.wb
  have vg : v'.ownBlock ≠ some g := fun e => by
    rcases hx with hx | hx
    · exact P0.gw (by rw [← hx]; exact e)
    · rw [hx] at e; have := Option.some.inj e; omega
  have vn : ∀ {e : TypeId} {sz n : Nat} {u : Value} {xs : List Value}, w0.ownsRow 0 e sz u n xs → (∀ k, W.ownBlock = some k → u.ownBlock ≠ some k) → ∀ k, v'.ownBlock = some k → u.ownBlock ≠ some k := fun hu hw k hk hk2 => by
    rcases hx with hx | hx
    · exact hw k (by rw [← hx]; exact hk) hk2
    · rw [hx] at hk; have h5 := Option.some.inj hk; have h6 := (World.ownsRow.lt hu k hk2).2; omega
  have hf := Frm.setCell w' g 3 v'
  have hr := heap_setCell_same w' g 3 _ _ v' r1
  refine ⟨by rw [cell_of_row w' g _ _ _ _ r1]; rfl, frozen_row r1 3, ⟨hr, ?_, ?_, ?_, vg, h.gh, h.gb, vn P0.hs P0.wh, vn P0.bd P0.wb, h.hb⟩, ⟨?_, fun k hk => ?_⟩⟩
  · exact ownR_frms ho hf (fun q hq => .inr (by rw [List.mem_singleton.1 hq]; exact vg))
  · exact ownR_frms h1 hf (fun q hq => .inr (by rw [List.mem_singleton.1 hq]; exact h.gh))
  · exact ownR_frms b1 hf (fun q hq => .inr (by rw [List.mem_singleton.1 hq]; exact h.gb))
  · exact ((Frm.of_below h0).trans ((Frm.of_grown hg).more (by simp [PL]; intro p hp; simp [hp]))).trans (hf.more (by simp [PL]))
  · simp only [PL, List.mem_cons, List.mem_append, Option.mem_toList] at hk ⊢
    rcases hk with hk | hk | hk | hk
    · exact .inl (.inl hk)
    · rcases hx with hx | hx
      · exact .inl (.inr (.inl (by rw [← hx]; exact hk)))
      · rw [hx] at hk; have h5 := Option.some.inj hk; have := h0.size; exact .inr (by omega)
    · exact .inl (.inr (.inr (.inl hk)))
    · exact .inl (.inr (.inr (.inr hk)))
/-- The same of the headers (cell 6). -/
theorem Par.appH {w w0 w' : World} {g : Nat} {s : PS} {W H B v' : Value} {l : List (List UInt8 × List UInt8)} (h : Par w g s W H B) (h0 : Below w.heap.size w w0) (ho : w'.ownsRow 0 55 2 v' l.length (hsV l)) (hg : w0.grownBy w' H.ownBlock) (hx : v'.ownBlock = H.ownBlock ∨ v'.ownBlock = some w0.heap.size) :
    w'.cell? ⟨g, 6, none⟩ = some H ∧ w'.frozen? ⟨g, 6, none⟩ = false ∧ Par (w'.setCell ⟨g, 6, none⟩ v') g { s with hs := l } W v' B ∧ PStep g W H B w W v' B (w'.setCell ⟨g, 6, none⟩ v') := by
  have P0 := h.below h0
  have hgl := lt_of_heap P0.row
  have r1 := own_other P0.row hg P0.gh
  have hw' : ∀ k, H.ownBlock = some k → W.ownBlock ≠ some k := fun k hk hk2 => P0.wh k hk2 hk
  have w1 := ownR_other P0.wd hg hw'
  have b1 := ownR_other P0.bd hg P0.hb
  have vg : v'.ownBlock ≠ some g := fun e => by
    rcases hx with hx | hx
    · exact P0.gh (by rw [← hx]; exact e)
    · rw [hx] at e; have := Option.some.inj e; omega
  have vn : ∀ {e : TypeId} {sz n : Nat} {u : Value} {xs : List Value}, w0.ownsRow 0 e sz u n xs → (∀ k, H.ownBlock = some k → u.ownBlock ≠ some k) → ∀ k, v'.ownBlock = some k → u.ownBlock ≠ some k := fun hu hw k hk hk2 => by
    rcases hx with hx | hx
    · exact hw k (by rw [← hx]; exact hk) hk2
    · rw [hx] at hk; have h5 := Option.some.inj hk; have h6 := (World.ownsRow.lt hu k hk2).2; omega
  have hf := Frm.setCell w' g 6 v'
  have hr := heap_setCell_same w' g 6 _ _ v' r1
  refine ⟨by rw [cell_of_row w' g _ _ _ _ r1]; rfl, frozen_row r1 6, ⟨hr, ?_, ?_, ?_, h.gw, vg, h.gb, fun k hk hk2 => vn P0.wd hw' k hk2 hk, h.wb, vn P0.bd P0.hb⟩, ⟨?_, fun k hk => ?_⟩⟩
  · exact ownR_frms w1 hf (fun q hq => .inr (by rw [List.mem_singleton.1 hq]; exact h.gw))
  · exact ownR_frms ho hf (fun q hq => .inr (by rw [List.mem_singleton.1 hq]; exact vg))
  · exact ownR_frms b1 hf (fun q hq => .inr (by rw [List.mem_singleton.1 hq]; exact h.gb))
  · exact ((Frm.of_below h0).trans ((Frm.of_grown hg).more (by simp [PL]; intro p hp; simp [hp]))).trans (hf.more (by simp [PL]))
  · simp only [PL, List.mem_cons, List.mem_append, Option.mem_toList] at hk ⊢
    rcases hk with hk | hk | hk | hk
    · exact .inl (.inl hk)
    · exact .inl (.inr (.inl hk))
    · rcases hx with hx | hx
      · exact .inl (.inr (.inr (.inl (by rw [← hx]; exact hk))))
      · rw [hx] at hk; have h5 := Option.some.inj hk; have := h0.size; exact .inr (by omega)
    · exact .inl (.inr (.inr (.inr hk)))
/-- The same of the body (cell 7). -/
theorem Par.appB {w w0 w' : World} {g : Nat} {s : PS} {W H B v' : Value} {l : List UInt8} (h : Par w g s W H B) (h0 : Below w.heap.size w w0) (ho : Own8 w' 0 v' l) (hg : w0.grownBy w' B.ownBlock) (hx : v'.ownBlock = B.ownBlock ∨ v'.ownBlock = some w0.heap.size) :
    w'.cell? ⟨g, 7, none⟩ = some B ∧ w'.frozen? ⟨g, 7, none⟩ = false ∧ Par (w'.setCell ⟨g, 7, none⟩ v') g { s with bd := l } W H v' ∧ PStep g W H B w W H v' (w'.setCell ⟨g, 7, none⟩ v') := by
  have P0 := h.below h0
  have hgl := lt_of_heap P0.row
  have r1 := own_other P0.row hg P0.gb
  have hw' : ∀ k, B.ownBlock = some k → W.ownBlock ≠ some k := fun k hk hk2 => P0.wb k hk2 hk
  have hh' : ∀ k, B.ownBlock = some k → H.ownBlock ≠ some k := fun k hk hk2 => P0.hb k hk2 hk
  have w1 := ownR_other P0.wd hg hw'
  have h1 := ownR_other P0.hs hg hh'
  have vg : v'.ownBlock ≠ some g := fun e => by
    rcases hx with hx | hx
    · exact P0.gb (by rw [← hx]; exact e)
    · rw [hx] at e; have := Option.some.inj e; omega
  have vn : ∀ {e : TypeId} {sz n : Nat} {u : Value} {xs : List Value}, w0.ownsRow 0 e sz u n xs → (∀ k, B.ownBlock = some k → u.ownBlock ≠ some k) → ∀ k, v'.ownBlock = some k → u.ownBlock ≠ some k := fun hu hw k hk hk2 => by
    rcases hx with hx | hx
    · exact hw k (by rw [← hx]; exact hk) hk2
    · rw [hx] at hk; have h5 := Option.some.inj hk; have h6 := (World.ownsRow.lt hu k hk2).2; omega
  have hf := Frm.setCell w' g 7 v'
  have hr := heap_setCell_same w' g 7 _ _ v' r1
  refine ⟨by rw [cell_of_row w' g _ _ _ _ r1]; rfl, frozen_row r1 7, ⟨hr, ?_, ?_, ?_, h.gw, h.gh, vg, h.wh, fun k hk hk2 => vn P0.wd hw' k hk2 hk, fun k hk hk2 => vn P0.hs hh' k hk2 hk⟩, ⟨?_, fun k hk => ?_⟩⟩
  · exact ownR_frms w1 hf (fun q hq => .inr (by rw [List.mem_singleton.1 hq]; exact h.gw))
  · exact ownR_frms h1 hf (fun q hq => .inr (by rw [List.mem_singleton.1 hq]; exact h.gh))
  · exact ownR_frms ho hf (fun q hq => .inr (by rw [List.mem_singleton.1 hq]; exact vg))
  · exact ((Frm.of_below h0).trans ((Frm.of_grown hg).more (by simp [PL]; intro p hp; simp [hp]))).trans (hf.more (by simp [PL]))
  · simp only [PL, List.mem_cons, List.mem_append, Option.mem_toList] at hk ⊢
    rcases hk with hk | hk | hk | hk
    · exact .inl (.inl hk)
    · exact .inl (.inr (.inl hk))
    · exact .inl (.inr (.inr (.inl hk)))
    · rcases hx with hx | hx
      · exact .inl (.inr (.inr (.inr (by rw [← hx]; exact hk))))
      · rw [hx] at hk; have h5 := Option.some.inj hk; have := h0.size; exact .inr (by omega)
/-- The word is dropped. -/
theorem Par.nilW {w : World} {g : Nat} {s : PS} {W H B : Value} (h : Par w g s W H B) : Par (w.setCell ⟨g, 3, none⟩ (.slice none 0 0)) g { s with wd := [] } (.slice none 0 0) H B ∧ PStep g W H B w (.slice none 0 0) H B (w.setCell ⟨g, 3, none⟩ (.slice none 0 0)) := by
  have hf := Frm.setCell w g 3 (.slice none 0 0)
  have hr := heap_setCell_same w g 3 _ _ (.slice none 0 0) h.row
  have ho : (Value.slice none 0 0).ownBlock = none := rfl
  have hn : ∀ (u : Value) (k : Nat), (Value.slice none 0 0).ownBlock = some k → u.ownBlock ≠ some k := fun u k hk => by rw [ho] at hk; cases hk
  refine ⟨⟨hr, own8_nil _ _, ?_, ?_, by rw [ho]; simp, h.gh, h.gb, hn H, hn B, h.hb⟩, ⟨hf.more (by simp [PL]), fun k hk => .inl ?_⟩⟩
  · exact ownR_frms h.hs hf (fun q hq => .inr (by rw [List.mem_singleton.1 hq]; exact h.gh))
  · exact ownR_frms h.bd hf (fun q hq => .inr (by rw [List.mem_singleton.1 hq]; exact h.gb))
  · simp only [PL, List.mem_cons, List.mem_append, Option.mem_toList] at hk ⊢
    rcases hk with hk | hk | hk | hk
    · exact .inl hk
    · rw [ho] at hk; cases hk
    · exact .inr (.inr (.inl hk))
    · exact .inr (.inr (.inr hk))
/-- What a method leaves: a new state and an answer. -/
def PPost (g : Nat) (W H B : Value) (w : World) (s' : PS) (r : Value) (e : Ending) (w' : World) : Prop := e = .returned r ∧ ∃ W' H' B', Par w' g s' W' H' B' ∧ PStep g W H B w W' H' B' w'
def digitB (c : UInt8) : Bool := decide ((48 : Int) ≤ (c.toNat : Int)) && decide ((c.toNat : Int) ≤ 57)
def lowI (c : UInt8) : Int := bits .or .u8 (c.toNat : Int) 32
def letterB (c : UInt8) : Bool := decide ((97 : Int) ≤ lowI c) && decide (lowI c ≤ 122)
def takeP (s : PS) (c : UInt8) (fits : Bool) : PS × Int := if fits then ({ s with wd := s.wd ++ [c] }, 0) else (s, 400)
def doneP (s : PS) (st : Int) : PS := { s with wd := [], st := st }
def expectP (s : PS) (c want : UInt8) (st : Int) : PS × Int := if c = want then ({ s with st := st }, 0) else (s, 400)
set_option maxRecDepth 100000 in
theorem digit_any (c : UInt8) (w : World) : Calls Tryd.prog 29 #[.int .u8 (c.toNat : Int)] w fun e w' => e = .returned (.bool (digitB c)) ∧ w' = w := by
  cases h1 : decide ((48 : Int) ≤ (c.toNat : Int)) <;> cases h2 : decide ((c.toNat : Int) ≤ 57)
  all_goals
    go_enter Tryd.func29, Tryd.ntmps29
    go_wp2
    go_ret
    exact ⟨by simp only [digitB, h1, h2]; rfl, rfl⟩
set_option maxRecDepth 100000 in
theorem letter_any (c : UInt8) (w : World) : Calls Tryd.prog 28 #[.int .u8 (c.toNat : Int)] w fun e w' => e = .returned (.bool (letterB c)) ∧ w' = w := by
  cases h1 : decide ((97 : Int) ≤ lowI c) <;> cases h2 : decide (lowI c ≤ 122)
  all_goals
    obtain ⟨n, hn⟩ : ∃ n, n = lowI c := ⟨_, rfl⟩
    have hb : letterB c = (decide ((97 : Int) ≤ n) && decide (n ≤ 122)) := by rw [hn]; rfl
    have hN : bits .or .u8 (c.toNat : Int) 32 = n := hn.symm
    rw [hb]
    rw [← hn] at h1 h2
    clear hb hn
    go_enter Tryd.func28, Tryd.ntmps28
    go_wp2
    go_ret
    exact ⟨by simp only [h1, h2]; rfl, rfl⟩
end Go.Proofs.YtjichadkonlfpaaDoor

namespace Go.Proofs.YtjichadkonlfpaaDoor
open Go.RowKit
set_option maxRecDepth 100000 in
set_option maxHeartbeats 1000000 in
theorem take_any (w : World) (g : Nat) (s : PS) (W H B : Value) (c : UInt8) (fits : Bool) (P : Par w g s W H B) (hl : s.wd.length + 1 ≤ 140737488355328) :
    Calls Tryd.prog 26 #[.pointer (some ⟨g, 0, none⟩), .int .u8 (c.toNat : Int), .bool fits] w (PPost g W H B w (takeP s c fits).1 (.int .i64 (takeP s c fits).2)) := by
  cases fits
  · go_enter Tryd.func26, Tryd.ntmps26
    go_wp2
    go_ret
    exact ⟨rfl, W, H, B, P, PStep.refl _ _ _ _ _⟩
  · have HP := Lib.hid P
    have e3 := P.at_.2.2.2.1
    obtain ⟨A, cW, hW, _, _⟩ := own8_form P.wd
    subst hW
    have B0 : Hid (Below w.heap.size w (w.alloc (.cells #[.int .u8 (c.toNat : Int)] 5))) := (Below.refl _ _).alloc (Nat.le_refl _) _
    have Q0 : Hid ((w.alloc (.cells #[.int .u8 (c.toNat : Int)] 5)).heap[w.heap.size]? = some (.cells #[.int .u8 (c.toNat : Int)] 5 (0, 0))) := heap_alloc_new _ _
    have HL := Lib.hid hl
    clear P hl
    go_enter Tryd.func26, Tryd.ntmps26
    go_wp2_with (at_builtin; go_must (refine app8 (l := s.wd) (base := 0) (news := [c]) rfl rfl rfl rfl (HP.out.below B0.out).wd (reads_block Q0.out rfl) (by have h_ := HL.out; simpa using h_) (Nat.zero_le _) ?_; intro v2 w2 ho hg hx; obtain ⟨A2, c2, hv2, _, _⟩ := own8_form' (n := s.wd.length + 1) ho (by simp); subst hv2; obtain ⟨e3', f3, P3, S3⟩ := HP.out.appW B0.out ho hg hx; have HP3 := Lib.hid P3; have HS3 := Lib.hid S3; clear P3 S3 ho hg hx))
    go_ret
    exact ⟨rfl, _, H, B, HP3.out, HS3.out⟩
set_option maxRecDepth 100000 in
set_option maxHeartbeats 1000000 in
theorem done_st (w : World) (g : Nat) (s : PS) (W H B : Value) (st : Int) (P : Par w g s W H B) :
    Calls Tryd.prog 25 #[.pointer (some ⟨g, 0, none⟩), .int .i64 st] w fun e w' => e = .returned (.string ⟨s.wd.toArray⟩) ∧ Par w' g (doneP s st) (.slice none 0 0) H B ∧ PStep g W H B w (.slice none 0 0) H B w' := by
  have HP := Lib.hid P
  have e3 := P.at_.2.2.2.1
  have f3 := P.fz 3
  obtain ⟨A, cW, hW, _, hr⟩ := own8_form P.wd
  subst hW
  have hs := run_str8 hr cW
  have N := P.nilW
  have HN := Lib.hid N
  have e0 := N.1.at_.1
  have f0 := N.1.fz 0
  have S2 := Lib.hid (N.1.set (s' := doneP s st) 0 (.int .i64 st) rfl rfl rfl rfl)
  clear P N hr
  go_enter Tryd.func25, Tryd.ntmps25
  go_wp2
  go_ret
  exact ⟨rfl, S2.out.1, HN.out.2.trans S2.out.2⟩
theorem done_any (w : World) (g : Nat) (s : PS) (W H B : Value) (st : Int) (P : Par w g s W H B) :
    Calls Tryd.prog 25 #[.pointer (some ⟨g, 0, none⟩), .int .i64 st] w (PPost g W H B w (doneP s st) (.string ⟨s.wd.toArray⟩)) :=
  (done_st w g s W H B st P).mono fun _ _ h => ⟨h.1, _, _, _, h.2.1, h.2.2⟩
set_option maxRecDepth 100000 in
set_option maxHeartbeats 1000000 in
theorem expect_any (w : World) (g : Nat) (s : PS) (W H B : Value) (c want : UInt8) (st : Int) (P : Par w g s W H B) :
    Calls Tryd.prog 33 #[.pointer (some ⟨g, 0, none⟩), .int .u8 (c.toNat : Int), .int .u8 (want.toNat : Int), .int .i64 st] w (PPost g W H B w (expectP s c want st).1 (.int .i64 (expectP s c want st).2)) := by
  have HP := Lib.hid P
  have e0 := P.at_.1
  have f0 := P.fz 0
  have S2 := Lib.hid (P.set (s' := { s with st := st }) 0 (.int .i64 st) rfl rfl rfl rfl)
  clear P
  by_cases hc : c = want
  · subst hc
    rw [show expectP s c c st = ({ s with st := st }, 0) from if_pos rfl]
    go_enter Tryd.func33, Tryd.ntmps33
    go_wp2
    go_ret
    exact ⟨rfl, W, H, B, S2.out.1, S2.out.2⟩
  · have hne : ((c.toNat : Int) == (want.toNat : Int)) = false := by
      simp only [beq_eq_false_iff_ne, ne_eq]
      intro h
      exact hc (UInt8.toNat_inj.1 (by omega))
    rw [show expectP s c want st = (s, 400) from if_neg hc]
    clear hc
    go_enter Tryd.func33, Tryd.ntmps33
    go_wp2
    go_ret
    exact ⟨rfl, W, H, B, HP.out, PStep.refl _ _ _ _ _⟩
end Go.Proofs.YtjichadkonlfpaaDoor

namespace Go.Proofs.YtjichadkonlfpaaDoor
open Go.RowKit
def httpW : List UInt8 := [72, 84, 84, 80, 47, 49, 46]
def setLast (hs : List (List UInt8 × List UInt8)) (v : List UInt8) : List (List UInt8 × List UInt8) := match hs.getLast? with
  | some p => hs.dropLast ++ [(p.1, v)]
  | none => hs
def eqI (c : UInt8) (n : Int) : Bool := ((c.toNat : Int) == n)
def head2 (s : PS) (c : UInt8) : PS × Int :=
  if ((c.toNat : Int) == 32) && decide ((0 : Int) < (s.wd.length : Int)) then ({ s with m := s.wd, wd := [], st := 3 }, 0)
  else takeP s c ((decide ((65 : Int) ≤ (c.toNat : Int)) && decide ((c.toNat : Int) ≤ 90)) && decide ((s.wd.length : Int) < 16))
def head3 (s : PS) (c : UInt8) : PS × Int :=
  if ((c.toNat : Int) == 32) && decide ((0 : Int) < (s.wd.length : Int)) then ({ s with t := s.wd, wd := [], st := 4 }, 0)
  else takeP s c ((decide ((32 : Int) < (c.toNat : Int)) && decide ((c.toNat : Int) < 127)) && (decide ((0 : Int) < (s.wd.length : Int)) || ((c.toNat : Int) == 47)))
def head4 (s : PS) (c : UInt8) : PS × Int :=
  if decide ((s.wd.length : Int) < 7) then takeP s c (eqI c ((httpW.getD s.wd.length 0).toNat : Int))
  else if ((s.wd.length : Int) == 7) then takeP { s with old := ((c.toNat : Int) == 48) } c (((c.toNat : Int) == 48) || ((c.toNat : Int) == 49))
  else if ((c.toNat : Int) != 13) then (s, 400) else (doneP s 5, 0)
def head5 (s : PS) (c : UInt8) : PS × Int := if ((c.toNat : Int) != 10) then (s, 400) else ({ s with st := 6 }, 0)
def head8 (s : PS) (c : UInt8) : PS × Int := if ((c.toNat : Int) != 10) then (s, 400) else ({ s with st := 9 }, 0)
def head6 (s : PS) (c : UInt8) : PS × Int :=
  if ((c.toNat : Int) == 13) && ((s.wd.length : Int) == 0) then ({ s with st := 8 }, 0)
  else if ((c.toNat : Int) == 58) && decide ((0 : Int) < (s.wd.length : Int)) then ({ s with hs := s.hs ++ [(Lib.toLowerA s.wd, [])], wd := [], st := 7 }, 0)
  else takeP s c ((letterB c || digitB c) || ((c.toNat : Int) == 45))
def head7 (s : PS) (c : UInt8) : PS × Int :=
  if ((c.toNat : Int) != 13) then takeP s c ((decide ((32 : Int) ≤ (c.toNat : Int)) && decide ((c.toNat : Int) < 127)) || ((c.toNat : Int) == 9))
  else ({ s with hs := setLast s.hs (Lib.trimS s.wd [32, 9]), wd := [], st := 5 }, 0)
def inHeadP (s : PS) (c : UInt8) : PS × Int :=
  if s.st = 2 then head2 s c else if s.st = 3 then head3 s c else if s.st = 4 then head4 s c else if s.st = 5 then head5 s c
  else if s.st = 6 then head6 s c else if s.st = 7 then head7 s c else if s.st = 8 then head8 s c else (s, 0)
end Go.Proofs.YtjichadkonlfpaaDoor
