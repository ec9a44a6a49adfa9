/- The shelf's contract of strings.Repeat at this dump, in plain words (by the kit's tools). -/
import Derived.Test.YtpgbfoeejiamjaaGreatDoorK05
import Derived.Shelf.Strings.Builder2
import Derived.Shelf.Small.Wraps
import Derived.Shelf.Strings.BuilderK
import Derived.Shelf.Strings.Builder2Cap
import Derived.Shelf.Sort.Plain
import Derived.Shelf.Strings.Repeat
import Derived.Shelf.Strings.BuilderCap
import Derived.Shelf.Slices.In.SortNone
import Derived.Test.YtpgbfoeejiamjaaGreatDoorProg
import Derived.Test.YtpgbfoeejiamjaaGreatDoorK13
import Derived.Deep.OwnRows
import Derived.Test.YtpgbfoeejiamjaaGreatDoorK15
set_option linter.all false
set_option linter.unusedVariables false
set_option linter.unusedSimpArgs false
set_option linter.unusedSectionVars false
namespace Go.Proofs
open Go.Shelf
def Tryz.lays241_ren : Go.Shelf.Ren := ⟨fun | 241 => 196 | 277 => 220 | n => n, fun | 70 => 179 | 3 => 3 | 0 => 0 | 72 => 181 | 37 => 24 | 5 => 5 | n => n, fun | n => n⟩
theorem Tryz.lays241 : Go.Proofs.Lays.n241 Tryz.prog Tryz.lays241_ren := {
  mixed := by kernel_rfl
  f241 := Tryz.func196.trans (congrArg some (by kernel_rfl))
  f277 := Tryz.func220.trans (congrArg some (by kernel_rfl))
  t0 := Tryz.underlying0
  a0 := Tryz.isAgg0
  z0 := Tryz.sizeOf0
  v0 := Tryz.zeroValue0
  t3 := Tryz.underlying3
  a3 := Tryz.isAgg3
  z3 := Tryz.sizeOf3
  v3 := Tryz.zeroValue3
  t37 := Tryz.underlying24
  a37 := Tryz.isAgg24
  z37 := Tryz.sizeOf24
  v37 := Tryz.zeroValue24
  t70 := Tryz.underlying179
  a70 := Tryz.isAgg179
  z70 := Tryz.sizeOf179
  v70 := Tryz.zeroValue179
  t72 := Tryz.underlying181
  a72 := Tryz.isAgg181
  z72 := Tryz.sizeOf181
  v72 := Tryz.zeroValue181 }
theorem Tryz.Builder_Extra_241 : Builder.Extra Tryz.prog Tryz.lays241_ren := {
  sizeBuilder := by kernel_rfl
  liesBuilder := by kernel_rfl
  t5 := Tryz.underlying5
  a5 := Tryz.isAgg5
  z5 := Tryz.sizeOf5
  v5 := Tryz.zeroValue5
  infoByte := by kernel_rfl
  cellsByte := by kernel_rfl
  sizeByte := by kernel_rfl
  neB5 := by decide }
open Go.RowKit in
theorem Tryz.Builder_grow_fresh (B b n : Nat) (w : World) (hB : B ≤ b) (hbk : w.heap[b]? = some (.cells #[.pointer (some ⟨b, 0, none⟩), .slice none 0 0] 181 (0, 0))) (hBw : B ≤ w.heap.size) (hn : n ≤ 281474976710656) :
    Calls Tryz.prog 196 #[.pointer (some ⟨b, 0, none⟩), .int .i64 n] w fun e w' => e = .returned (.tuple #[]) ∧ (Lib.BuilderAt 181 5 B b (.pointer (some ⟨b, 0, none⟩)) [] w' ∧ Below B w w') := Any.Builder_grow_fresh Tryz.lays241 Tryz.Builder_Extra_241 B b n w hB hbk hBw hn
def Tryz.lays165_ren : Go.Shelf.Ren := ⟨fun | 165 => 139 | 240 => 195 | 241 => 196 | 276 => 219 | 277 => 220 | n => n, fun | 70 => 179 | 3 => 3 | 0 => 0 | 4 => 4 | 9 => 9 | 20 => 20 | 72 => 181 | 37 => 24 | 164 => 268 | 5 => 5 | n => n, fun | n => n⟩
theorem Tryz.lays165 : Go.Proofs.Lays.n165 Tryz.prog Tryz.lays165_ren := {
  mixed := by kernel_rfl
  f165 := Tryz.func139.trans (congrArg some (by kernel_rfl))
  f240 := Tryz.func195.trans (congrArg some (by kernel_rfl))
  f241 := Tryz.func196.trans (congrArg some (by kernel_rfl))
  f276 := Tryz.func219.trans (congrArg some (by kernel_rfl))
  f277 := Tryz.func220.trans (congrArg some (by kernel_rfl))
  t0 := Tryz.underlying0
  a0 := Tryz.isAgg0
  z0 := Tryz.sizeOf0
  v0 := Tryz.zeroValue0
  t3 := Tryz.underlying3
  a3 := Tryz.isAgg3
  z3 := Tryz.sizeOf3
  v3 := Tryz.zeroValue3
  t4 := Tryz.underlying4
  a4 := Tryz.isAgg4
  z4 := Tryz.sizeOf4
  v4 := Tryz.zeroValue4
  t9 := Tryz.underlying9
  a9 := Tryz.isAgg9
  z9 := Tryz.sizeOf9
  v9 := Tryz.zeroValue9
  t20 := Tryz.underlying20
  a20 := Tryz.isAgg20
  z20 := Tryz.sizeOf20
  v20 := Tryz.zeroValue20
  t37 := Tryz.underlying24
  a37 := Tryz.isAgg24
  z37 := Tryz.sizeOf24
  v37 := Tryz.zeroValue24
  t70 := Tryz.underlying179
  a70 := Tryz.isAgg179
  z70 := Tryz.sizeOf179
  v70 := Tryz.zeroValue179
  t72 := Tryz.underlying181
  a72 := Tryz.isAgg181
  z72 := Tryz.sizeOf181
  v72 := Tryz.zeroValue181
  t164 := Tryz.underlying268
  a164 := Tryz.isAgg268
  z164 := Tryz.sizeOf268
  v164 := Tryz.zeroValue268 }
theorem Tryz.Builder_Extra_165 : Builder.Extra Tryz.prog Tryz.lays165_ren := {
  sizeBuilder := by kernel_rfl
  liesBuilder := by kernel_rfl
  t5 := Tryz.underlying5
  a5 := Tryz.isAgg5
  z5 := Tryz.sizeOf5
  v5 := Tryz.zeroValue5
  infoByte := by kernel_rfl
  cellsByte := by kernel_rfl
  sizeByte := by kernel_rfl
  neB5 := by decide }
open Go.RowKit in
theorem Tryz.Builder_Grow_fresh (B b n : Nat) (w : World) (hB : B ≤ b) (hbk : w.heap[b]? = some (.cells #[.pointer none, .slice none 0 0] 181 (0, 0))) (hBw : B ≤ w.heap.size) (hn : n ≤ 281474976710656) :
    Calls Tryz.prog 139 #[.pointer (some ⟨b, 0, none⟩), .int .i64 n] w fun e w' => e = .returned (.tuple #[]) ∧ (Lib.BuilderAt 181 5 B b (.pointer (some ⟨b, 0, none⟩)) [] w' ∧ Below B w w') := Any.Builder_Grow_fresh Tryz.lays165 Tryz.Builder_Extra_165 B b n w hB hbk hBw hn
def Tryz.lays215_ren : Go.Shelf.Ren := ⟨fun | 215 => 213 | n => n, fun | 3 => 3 | 4 => 4 | n => n, fun | n => n⟩
theorem Tryz.lays215 : Go.Proofs.Lays.n215 Tryz.prog Tryz.lays215_ren := {
  mixed := by kernel_rfl
  f215 := Tryz.func213.trans (congrArg some (by kernel_rfl))
  t3 := Tryz.underlying3
  a3 := Tryz.isAgg3
  z3 := Tryz.sizeOf3
  v3 := Tryz.zeroValue3
  t4 := Tryz.underlying4
  a4 := Tryz.isAgg4
  z4 := Tryz.sizeOf4
  v4 := Tryz.zeroValue4 }
open Go.RowKit in
theorem Tryz.cmp_isNaN_int (x : Int) (w : World) :
    Calls Tryz.prog 213 #[.int .i64 x] w fun e w' => e = .returned (.bool false) ∧ w' = w := Any.cmp_isNaN_int Tryz.lays215 x w
def Tryz.lays122_ren : Go.Shelf.Ren := ⟨fun | 122 => 182 | 215 => 213 | n => n, fun | 3 => 3 | 4 => 4 | n => n, fun | n => n⟩
theorem Tryz.lays122 : Go.Proofs.Lays.n122 Tryz.prog Tryz.lays122_ren := {
  mixed := by kernel_rfl
  f122 := Tryz.func182.trans (congrArg some (by kernel_rfl))
  f215 := Tryz.func213.trans (congrArg some (by kernel_rfl))
  t3 := Tryz.underlying3
  a3 := Tryz.isAgg3
  z3 := Tryz.sizeOf3
  v3 := Tryz.zeroValue3
  t4 := Tryz.underlying4
  a4 := Tryz.isAgg4
  z4 := Tryz.sizeOf4
  v4 := Tryz.zeroValue4 }
open Go.RowKit in
theorem Tryz.cmp_Compare_int (x y : Int) (w : World) :
    Calls Tryz.prog 182 #[.int .i64 x, .int .i64 y] w fun e w' => e = .returned (.int .i64 (Lib.compareInt x y)) ∧ w' = w := Any.cmp_Compare_int Tryz.lays122 x y w
open Go.RowKit in
theorem Tryz.Builder_String_k (B b : Nat) (l : List UInt8) (w : World) (h : Lib.IsBuilderF 181 5 B b (Lib.byteCells l) w) (h0 : l ≠ []) :
    Calls Tryz.prog 142 #[.pointer (some ⟨b, 0, none⟩)] w fun e w' => e = .returned (.string ⟨l.toArray⟩) ∧ (Lib.IsBuilderF 181 5 B b (Lib.byteCells l) w' ∧ Below B w w' ∧ Lib.OthersKept 5 (some b) w w') := Any.Builder_String_k Tryz.lays169 Tryz.Builder_Extra_169 B b l w h h0
open Go.RowKit in
theorem Tryz.Builder_String_empty_k (B b : Nat) (w : World) (h : Lib.IsBuilderF 181 5 B b [] w) (hBw : B ≤ w.heap.size) :
    Calls Tryz.prog 142 #[.pointer (some ⟨b, 0, none⟩)] w fun e w' => e = .returned (.string ⟨#[]⟩) ∧ (Lib.IsBuilderF 181 5 B b [] w' ∧ Below B w w' ∧ Lib.OthersKept 5 (some b) w w') := Any.Builder_String_empty_k Tryz.lays169 Tryz.Builder_Extra_169 B b w h hBw
open Go.RowKit in
theorem Tryz.Builder_String_any_k (B b : Nat) (l : List UInt8) (w : World) (h : Lib.IsBuilderF 181 5 B b (Lib.byteCells l) w) (hBw : B ≤ w.heap.size) :
    Calls Tryz.prog 142 #[.pointer (some ⟨b, 0, none⟩)] w fun e w' => e = .returned (.string ⟨l.toArray⟩) ∧ (Lib.IsBuilderF 181 5 B b (Lib.byteCells l) w' ∧ Below B w w' ∧ Lib.OthersKept 5 (some b) w w') := Any.Builder_String_any_k Tryz.lays169 Tryz.Builder_Extra_169 B b l w h hBw
open Go.RowKit in
theorem Tryz.Builder_grow_fresh_cap (B b n : Nat) (w : World) (hB : B ≤ b) (hbk : w.heap[b]? = some (.cells #[.pointer (some ⟨b, 0, none⟩), .slice none 0 0] 181 (0, 0))) (hBw : B ≤ w.heap.size) (hn : n ≤ 281474976710656) :
    Calls Tryz.prog 196 #[.pointer (some ⟨b, 0, none⟩), .int .i64 n] w fun e w' => e = .returned (.tuple #[]) ∧ (Lib.BuilderAt 181 5 B b (.pointer (some ⟨b, 0, none⟩)) [] w' ∧ Below B w w') ∧ ∃ p cap, w'.cell? ⟨b, 1, none⟩ = some (.slice p 0 cap) ∧ n ≤ cap := Any.Builder_grow_fresh_cap Tryz.lays241 Tryz.Builder_Extra_241 B b n w hB hbk hBw hn
open Go.RowKit in
theorem Tryz.Builder_Grow_fresh_cap (B b n : Nat) (w : World) (hB : B ≤ b) (hbk : w.heap[b]? = some (.cells #[.pointer none, .slice none 0 0] 181 (0, 0))) (hBw : B ≤ w.heap.size) (hn : n ≤ 281474976710656) :
    Calls Tryz.prog 139 #[.pointer (some ⟨b, 0, none⟩), .int .i64 n] w fun e w' => e = .returned (.tuple #[]) ∧ (Lib.BuilderAt 181 5 B b (.pointer (some ⟨b, 0, none⟩)) [] w' ∧ Below B w w') ∧ ∃ p cap, w'.cell? ⟨b, 1, none⟩ = some (.slice p 0 cap) ∧ n ≤ cap := Any.Builder_Grow_fresh_cap Tryz.lays165 Tryz.Builder_Extra_165 B b n w hB hbk hBw hn
def Tryz.lays189_ren : Go.Shelf.Ren := ⟨fun | 189 => 208 | 125 => 228 | 257 => 227 | 128 => 242 | 129 => 243 | 294 => 234 | 295 => 235 | 296 => 236 | 297 => 237 | 298 => 238 | 299 => 239 | 216 => 210 | 300 => 240 | 301 => 241 | 328 => 248 | 329 => 249 | 330 => 250 | 331 => 251 | 332 => 252 | 215 => 213 | 343 => 253 | n => n, fun | 28 => 153 | 3 => 3 | 46 => 175 | 0 => 0 | 51 => 231 | 53 => 108 | 4 => 4 | 183 => 285 | 182 => 284 | 131 => 221 | 5 => 5 | 9 => 9 | 218 => 295 | 222 => 298 | 228 => 300 | 229 => 301 | n => n, fun | n => n⟩
theorem Tryz.lays189 : Go.Proofs.Lays.n189 Tryz.prog Tryz.lays189_ren := {
  mixed := by kernel_rfl
  f125 := Tryz.func228.trans (congrArg some (by kernel_rfl))
  f128 := Tryz.func242.trans (congrArg some (by kernel_rfl))
  f129 := Tryz.func243.trans (congrArg some (by kernel_rfl))
  f189 := Tryz.func208.trans (congrArg some (by kernel_rfl))
  f215 := Tryz.func213.trans (congrArg some (by kernel_rfl))
  f216 := Tryz.func210.trans (congrArg some (by kernel_rfl))
  f257 := Tryz.func227.trans (congrArg some (by kernel_rfl))
  f294 := Tryz.func234.trans (congrArg some (by kernel_rfl))
  f295 := Tryz.func235.trans (congrArg some (by kernel_rfl))
  f296 := Tryz.func236.trans (congrArg some (by kernel_rfl))
  f297 := Tryz.func237.trans (congrArg some (by kernel_rfl))
  f298 := Tryz.func238.trans (congrArg some (by kernel_rfl))
  f299 := Tryz.func239.trans (congrArg some (by kernel_rfl))
  f300 := Tryz.func240.trans (congrArg some (by kernel_rfl))
  f301 := Tryz.func241.trans (congrArg some (by kernel_rfl))
  f328 := Tryz.func248.trans (congrArg some (by kernel_rfl))
  f329 := Tryz.func249.trans (congrArg some (by kernel_rfl))
  f330 := Tryz.func250.trans (congrArg some (by kernel_rfl))
  f331 := Tryz.func251.trans (congrArg some (by kernel_rfl))
  f332 := Tryz.func252.trans (congrArg some (by kernel_rfl))
  f343 := Tryz.func253.trans (congrArg some (by kernel_rfl))
  t0 := Tryz.underlying0
  a0 := Tryz.isAgg0
  z0 := Tryz.sizeOf0
  v0 := Tryz.zeroValue0
  t3 := Tryz.underlying3
  a3 := Tryz.isAgg3
  z3 := Tryz.sizeOf3
  v3 := Tryz.zeroValue3
  t4 := Tryz.underlying4
  a4 := Tryz.isAgg4
  z4 := Tryz.sizeOf4
  v4 := Tryz.zeroValue4
  t5 := Tryz.underlying5
  a5 := Tryz.isAgg5
  z5 := Tryz.sizeOf5
  v5 := Tryz.zeroValue5
  t9 := Tryz.underlying9
  a9 := Tryz.isAgg9
  z9 := Tryz.sizeOf9
  v9 := Tryz.zeroValue9
  t28 := Tryz.underlying153
  a28 := Tryz.isAgg153
  z28 := Tryz.sizeOf153
  v28 := Tryz.zeroValue153
  t46 := Tryz.underlying175
  a46 := Tryz.isAgg175
  z46 := Tryz.sizeOf175
  v46 := Tryz.zeroValue175
  t51 := Tryz.underlying231
  a51 := Tryz.isAgg231
  z51 := Tryz.sizeOf231
  v51 := Tryz.zeroValue231
  t53 := Tryz.underlying108
  a53 := Tryz.isAgg108
  z53 := Tryz.sizeOf108
  v53 := Tryz.zeroValue108
  t131 := Tryz.underlying221
  a131 := Tryz.isAgg221
  z131 := Tryz.sizeOf221
  v131 := Tryz.zeroValue221
  t182 := Tryz.underlying284
  a182 := Tryz.isAgg284
  z182 := Tryz.sizeOf284
  v182 := Tryz.zeroValue284
  t183 := Tryz.underlying285
  a183 := Tryz.isAgg285
  z183 := Tryz.sizeOf285
  v183 := Tryz.zeroValue285
  t218 := Tryz.underlying295
  a218 := Tryz.isAgg295
  z218 := Tryz.sizeOf295
  v218 := Tryz.zeroValue295
  t222 := Tryz.underlying298
  a222 := Tryz.isAgg298
  z222 := Tryz.sizeOf298
  v222 := Tryz.zeroValue298
  t228 := Tryz.underlying300
  a228 := Tryz.isAgg300
  z228 := Tryz.sizeOf300
  v228 := Tryz.zeroValue300
  t229 := Tryz.underlying301
  a229 := Tryz.isAgg301
  z229 := Tryz.sizeOf301
  v229 := Tryz.zeroValue301 }
def Tryz.lays105_ren : Go.Shelf.Ren := ⟨fun | 105 => 51 | 212 => 137 | 99 => 138 | 165 => 139 | 166 => 140 | 170 => 141 | 169 => 142 | 263 => 192 | 264 => 193 | 206 => 194 | 240 => 195 | 241 => 196 | 276 => 219 | 277 => 220 | n => n, fun | 9 => 9 | 3 => 3 | 4 => 4 | 20 => 20 | 0 => 0 | 46 => 175 | 109 => 176 | 5 => 5 | 72 => 181 | 76 => 184 | 51 => 231 | 146 => 240 | 53 => 108 | 148 => 242 | 70 => 179 | 37 => 24 | 75 => 183 | 127 => 244 | 164 => 268 | 80 => 120 | n => n, fun | n => n⟩
theorem Tryz.lays105 : Go.Proofs.Lays.n105 Tryz.prog Tryz.lays105_ren := {
  mixed := by kernel_rfl
  f99 := Tryz.func138.trans (congrArg some (by kernel_rfl))
  f105 := Tryz.func51.trans (congrArg some (by kernel_rfl))
  f165 := Tryz.func139.trans (congrArg some (by kernel_rfl))
  f166 := Tryz.func140.trans (congrArg some (by kernel_rfl))
  f169 := Tryz.func142.trans (congrArg some (by kernel_rfl))
  f170 := Tryz.func141.trans (congrArg some (by kernel_rfl))
  f206 := Tryz.func194.trans (congrArg some (by kernel_rfl))
  f212 := Tryz.func137.trans (congrArg some (by kernel_rfl))
  f240 := Tryz.func195.trans (congrArg some (by kernel_rfl))
  f241 := Tryz.func196.trans (congrArg some (by kernel_rfl))
  f263 := Tryz.func192.trans (congrArg some (by kernel_rfl))
  f264 := Tryz.func193.trans (congrArg some (by kernel_rfl))
  f276 := Tryz.func219.trans (congrArg some (by kernel_rfl))
  f277 := Tryz.func220.trans (congrArg some (by kernel_rfl))
  t0 := Tryz.underlying0
  a0 := Tryz.isAgg0
  z0 := Tryz.sizeOf0
  v0 := Tryz.zeroValue0
  t3 := Tryz.underlying3
  a3 := Tryz.isAgg3
  z3 := Tryz.sizeOf3
  v3 := Tryz.zeroValue3
  t4 := Tryz.underlying4
  a4 := Tryz.isAgg4
  z4 := Tryz.sizeOf4
  v4 := Tryz.zeroValue4
  t5 := Tryz.underlying5
  a5 := Tryz.isAgg5
  z5 := Tryz.sizeOf5
  v5 := Tryz.zeroValue5
  t9 := Tryz.underlying9
  a9 := Tryz.isAgg9
  z9 := Tryz.sizeOf9
  v9 := Tryz.zeroValue9
  t20 := Tryz.underlying20
  a20 := Tryz.isAgg20
  z20 := Tryz.sizeOf20
  v20 := Tryz.zeroValue20
  t37 := Tryz.underlying24
  a37 := Tryz.isAgg24
  z37 := Tryz.sizeOf24
  v37 := Tryz.zeroValue24
  t46 := Tryz.underlying175
  a46 := Tryz.isAgg175
  z46 := Tryz.sizeOf175
  v46 := Tryz.zeroValue175
  t51 := Tryz.underlying231
  a51 := Tryz.isAgg231
  z51 := Tryz.sizeOf231
  v51 := Tryz.zeroValue231
  t53 := Tryz.underlying108
  a53 := Tryz.isAgg108
  z53 := Tryz.sizeOf108
  v53 := Tryz.zeroValue108
  t70 := Tryz.underlying179
  a70 := Tryz.isAgg179
  z70 := Tryz.sizeOf179
  v70 := Tryz.zeroValue179
  t72 := Tryz.underlying181
  a72 := Tryz.isAgg181
  z72 := Tryz.sizeOf181
  v72 := Tryz.zeroValue181
  t75 := Tryz.underlying183
  a75 := Tryz.isAgg183
  z75 := Tryz.sizeOf183
  v75 := Tryz.zeroValue183
  t76 := Tryz.underlying184
  a76 := Tryz.isAgg184
  z76 := Tryz.sizeOf184
  v76 := Tryz.zeroValue184
  t109 := Tryz.underlying176
  a109 := Tryz.isAgg176
  z109 := Tryz.sizeOf176
  v109 := Tryz.zeroValue176
  t127 := Tryz.underlying244
  a127 := Tryz.isAgg244
  z127 := Tryz.sizeOf244
  v127 := Tryz.zeroValue244
  t146 := Tryz.underlying240
  a146 := Tryz.isAgg240
  z146 := Tryz.sizeOf240
  v146 := Tryz.zeroValue240
  t148 := Tryz.underlying242
  a148 := Tryz.isAgg242
  z148 := Tryz.sizeOf242
  v148 := Tryz.zeroValue242
  t164 := Tryz.underlying268
  a164 := Tryz.isAgg268
  z164 := Tryz.sizeOf268
  v164 := Tryz.zeroValue268 }
theorem Tryz.Builder_Extra_105 : Builder.Extra Tryz.prog Tryz.lays105_ren := {
  sizeBuilder := by kernel_rfl
  liesBuilder := by kernel_rfl
  t5 := Tryz.underlying5
  a5 := Tryz.isAgg5
  z5 := Tryz.sizeOf5
  v5 := Tryz.zeroValue5
  infoByte := by kernel_rfl
  cellsByte := by kernel_rfl
  sizeByte := by kernel_rfl
  neB5 := by decide }
open Go.RowKit Go.Lib in
theorem Tryz.strings_Repeat_main (s : ByteArray) (c : Nat) (w : World) (hc2 : 2 ≤ c) (hc : c ≤ 9223372036854775807) (hlen : s.size * c ≤ 140737488355328) (h0 : 0 < s.size) :
    Calls Tryz.prog 51 #[.string s, .int .i64 c] w fun e w' => e = .returned (.string ⟨(Lib.repeatL s.data.toList c).toArray⟩) ∧ Below w.heap.size w w' := Any.strings_Repeat_main Tryz.lays105 Tryz.Builder_Extra_105 s c w hc2 hc hlen h0
open Go.RowKit Go.Lib in
theorem Tryz.strings_Repeat_zero (s : ByteArray) (w : World) :
    Calls Tryz.prog 51 #[.string s, .int .i64 0] w fun e w' => e = .returned (.string ⟨#[]⟩) ∧ w' = w := Any.strings_Repeat_zero Tryz.lays105 s w
open Go.RowKit Go.Lib in
theorem Tryz.strings_Repeat_one (s : ByteArray) (w : World) :
    Calls Tryz.prog 51 #[.string s, .int .i64 1] w fun e w' => e = .returned (.string s) ∧ w' = w := Any.strings_Repeat_one Tryz.lays105 s w
open Go.RowKit Go.Lib in
theorem Tryz.strings_Repeat_empty (s : ByteArray) (c : Nat) (w : World) (hc2 : 2 ≤ c) (hc : c ≤ 9223372036854775807) (h0 : s.size = 0) :
    Calls Tryz.prog 51 #[.string s, .int .i64 c] w fun e w' => e = .returned (.string ⟨#[]⟩) ∧ w' = w := Any.strings_Repeat_empty Tryz.lays105 s c w hc2 hc h0
open Go.RowKit Go.Lib in
theorem Tryz.strings_Repeat_negative (s : ByteArray) (c : Int) (w : World) (hc : c < 0) :
    Calls Tryz.prog 51 #[.string s, .int .i64 c] w fun e w' => e = .panicked [{ v := repeatPanic Tryz.lays105_ren "strings: negative Repeat count", recovered := false }] ∧ w' = w := Any.strings_Repeat_negative Tryz.lays105 s c w hc
open Go.RowKit Go.Lib in
theorem Tryz.strings_Repeat_overflow (s : ByteArray) (c : Nat) (w : World) (hc : c ≤ 9223372036854775807) (hs : s.size ≤ 9223372036854775807) (hbig : 9223372036854775807 < s.size * c) :
    Calls Tryz.prog 51 #[.string s, .int .i64 c] w fun e w' => e = .panicked [{ v := repeatPanic Tryz.lays105_ren "strings: Repeat output length overflow", recovered := false }] ∧ w' = w := Any.strings_Repeat_overflow Tryz.lays105 s c w hc hs hbig
open Go.RowKit Go.Lib in
theorem Tryz.strings_Repeat (s : ByteArray) (c : Nat) (w : World) (hc : c ≤ 9223372036854775807) (hlen : s.size * c ≤ 140737488355328) :
    Calls Tryz.prog 51 #[.string s, .int .i64 c] w fun e w' => e = .returned (.string ⟨(Lib.repeatL s.data.toList c).toArray⟩) ∧ Below w.heap.size w w' := Any.strings_Repeat Tryz.lays105 Tryz.Builder_Extra_105 s c w hc hlen
end Go.Proofs
/- StableLong: plain facts. -/
namespace Sk
open Go Go.RowKit Go.Proofs
/-- So many times one byte. -/
def vS (c : UInt8) (n : Nat) : ByteArray := ⟨(Lib.repeatL [c] n).toArray⟩
theorem vS_size (c : UInt8) (n : Nat) : (vS c n).size = n := by
  show (Lib.repeatL [c] n).toArray.size = n
  simp [Lib.repeatL_length]
theorem vS_len (c : UInt8) (n : Nat) : (vS c n).data.toList.length = n := by
  show ((Lib.repeatL [c] n).toArray.toList).length = n
  simp [Lib.repeatL_length]
theorem vS_rep (c : UInt8) (n : Nat) : (⟨(Lib.repeatL [c] n).toArray⟩ : ByteArray) = vS c n := rfl
attribute [irreducible] vS
theorem repC (c : UInt8) (n : Nat) (i : Int) (hi : i = n) (hn : n ≤ 100000) (w : World) : Calls Tryz.prog 51 #[.string ⟨#[c]⟩, ei i] w fun e w' => e = .returned (.string (vS c n)) ∧ Bel w w' := by
  subst hi
  rw [← vS_rep]
  exact Tryz.strings_Repeat ⟨#[c]⟩ n w (by omega) (by show 1 * n ≤ _; omega)
@[reducible] def lB : Bal := ⟨1073741824, 6⟩
theorem lB_good : lB.good := by decide
theorem encU_len3 {n : Nat} (h1 : 16384 ≤ n) (h2 : n < 2097152) : (encU n).length = 3 := by
  rw [encU_ge (by omega), encU_ge (by omega), encU_lt (by omega)]; rfl
theorem encA_len : (encL [2, 1073741824, 6, 4095]).length = 9 := by
  have e1 : uN 2 = 2 := by decide
  have e2 : uN 1073741824 = 1073741824 := by decide
  have e3 : uN 6 = 6 := by decide
  have e4 : uN 4095 = 4095 := by decide
  simp [encL, encI, e1, e2, e3, e4, encU_ge, encU_lt]
theorem encC_len : (encL [3, 4095]).length = 3 := by
  have e1 : uN 3 = 3 := by decide
  have e4 : uN 4095 = 4095 := by decide
  simp [encL, encI, e1, e4, encU_ge, encU_lt]
theorem encP_len : (encL [1, 1073741824, 6]).length = 7 := by
  have e1 : uN 1 = 1 := by decide
  have e2 : uN 1073741824 = 1073741824 := by decide
  have e3 : uN 6 = 6 := by decide
  simp [encL, encI, e1, e2, e3, encU_ge, encU_lt]
theorem long_acc_yes {t : ByteArray} (h1 : 16384 ≤ t.size) (h2 : t.size ≤ 65524) : (accP lB 4095 t).1 = 0 := by
  unfold accP
  rw [if_pos ⟨lB_good, by decide⟩, shortP_yes]
  have := encU_len3 h1 (by omega)
  have hl : t.data.toList.length = t.size := by rw [Array.length_toList]; rfl
  simp only [List.length_append, encA_len, this, hl]; omega
theorem long_acc_no {t : ByteArray} (h1 : 65524 < t.size) (h2 : t.size ≤ 100000) : accP lB 4095 t = (11, []) := by
  unfold accP
  rw [if_pos ⟨lB_good, by decide⟩, shortP_no]
  have := encU_len3 (n := t.size) (by omega) (by omega)
  have hl : t.data.toList.length = t.size := by rw [Array.length_toList]; rfl
  simp only [List.length_append, encA_len, this, hl]; omega
theorem long_cho_yes {t : ByteArray} (h1 : 16384 ≤ t.size) (h2 : t.size ≤ 65530) : (chooseP 4095 t).1 = 0 := by
  unfold chooseP
  rw [if_pos (by decide), shortP_yes]
  have := encU_len3 h1 (by omega)
  have hl : t.data.toList.length = t.size := by rw [Array.length_toList]; rfl
  simp only [List.length_append, encC_len, this, hl]; omega
theorem long_cho_no {t : ByteArray} (h1 : 65530 < t.size) (h2 : t.size ≤ 100000) : chooseP 4095 t = (11, []) := by
  unfold chooseP
  rw [if_pos (by decide), shortP_no]
  have := encU_len3 (n := t.size) (by omega) (by omega)
  have hl : t.data.toList.length = t.size := by rw [Array.length_toList]; rfl
  simp only [List.length_append, encC_len, this, hl]; omega
def lH : ByteArray := vS 104 40000
theorem long_prom : promP lB = (0, encL [1, 1073741824, 6]) := by
  unfold promP
  rw [if_pos lB_good, shortP_yes]
  rw [encP_len]; decide
/-- The states that are compacted. -/
def lA : Acc := ⟨7, lB, fset (fun _ => none) 1 (some (lB, lH)), 0⟩
theorem long_accept : (Acc.new 7).accept lB 1 lH = (0, lA) := by
  have hs : lH.size = 40000 := vS_size _ _
  unfold Acc.accept
  rw [if_neg (by decide), if_neg (by rw [hs]; decide), if_neg (by decide), if_neg (by decide)]; rfl
theorem lA_ok : lA.ok := by
  have h := (Acc.new_ok (n := 7) (by decide) (by decide)).accept lB 1 lH
  rw [long_accept] at h
  exact h
theorem long_put : Log.new.putE 0 lH = 0 := by
  have hs : lH.size = 40000 := vS_size _ _
  unfold Log.putE
  rw [if_neg (by decide), if_neg (by rw [hs]; decide), if_neg (by decide), if_neg (by simp [Log.new])]
theorem entB_ge (x : Int × Bal × Str) : x.2.2.size ≤ (entB x).length := by
  have hl : x.2.2.data.toList.length = x.2.2.size := by rw [Array.length_toList]; rfl
  unfold entB
  simp only [List.length_append]; omega
theorem atB_ge (x : Int × Bs) : x.2.size ≤ (atB x).length := by
  have hl : x.2.data.toList.length = x.2.size := by rw [Array.length_toList]; rfl
  unfold atB
  simp only [List.length_append]; omega
theorem flat_ge {α : Type} {f : α → List UInt8} {l : List α} {x : α} (h : x ∈ l) : (f x).length ≤ (l.flatMap f).length := by
  obtain ⟨l1, l2, rfl⟩ := List.append_of_mem h
  simp only [List.flatMap_append, List.flatMap_cons, List.length_append]; omega
theorem long_snap {t : Log} (ht : t.val = fset Log.new.val 0 (some lH)) {es : List (Int × Bal × Str)} {vs : List (Int × Bs)} (h1 : Rep lA.ent es) (h2 : Rep t.val vs) (x : Dsk) : x.save (snapB lA t es vs) = (11, x) := by
  have hs : lH.size = 40000 := vS_size _ _
  have e1 : (1, lB, lH) ∈ es := (h1.all 1 (lB, lH)).2 (show fset (fun _ => none) (1 : Int) (some (lB, lH)) 1 = _ by simp [fset])
  have e2 : (0, lH) ∈ vs := (h2.all 0 lH).2 (by rw [ht]; simp [fset])
  have a1 := Nat.le_trans (entB_ge _) (flat_ge (f := entB) e1)
  have a2 := Nat.le_trans (atB_ge _) (flat_ge (f := atB) e2)
  simp only [hs] at a1 a2
  unfold Dsk.save
  rw [if_neg]
  unfold snapB
  simp only [List.length_append]; omega
theorem long_write : ∃ D : Dsk, Dsk.write ⟨[], 0, [], false⟩ (encL [1, 1073741824, 6]) = (0, D) ∧ D.b.length ≤ 1000 ∧ D.safe = D.b.length ∧ D.st = [] ∧ D.has = false ∧ (framesP D.b 0).length = 1 := by
  obtain ⟨a1, a2⟩ := whole_write (x := ⟨[], 0, [], false⟩) (ss := []) ⟨rfl, by simp⟩ (s := encL [1, 1073741824, 6]) (by rw [encP_len]; decide) (by rw [encP_len]; decide)
  have l1 := frm_len (encL [1, 1073741824, 6])
  rw [encP_len] at l1
  refine ⟨_, a1, by simp only [List.length_append, List.length_nil]; omega, rfl, rfl, rfl, ?_⟩
  have h := a2.recs
  have h' := congrArg List.length h
  simpa [Dsk.recs] using h'
theorem long_write2 {x : Dsk} {s : List UInt8} (h : s.length = 65537) : x.write s = (11, x) := by
  unfold Dsk.write
  rw [append_err (makeP_no (by omega)) (by decide)]
  rfl
theorem Own.bytes_blk {W w : World} {L : List Asn} {g n : Nat} {cs : Array Value} {s : List UInt8} (H : Own W w (blk g (.cells cs 5) :: L)) (hs : cs.toList = s.map byteV) (hn : n = s.length) (hm : s.length ≤ 1000000) : Own W w (slA 1 (.slice (some ⟨g, 0, none⟩) n n) s.length (s.map byteV) :: L) := by
  subst hn
  have hcs : cs = (s.map byteV).toArray := by rw [← hs]
  subst hcs
  exact (H.row_of_blk (n := s.length) (cap := s.length) (size := 1) (xs := s.map byteV) (Nat.le_refl _) (by unfold maxLen; omega) (by simp) (by simp [List.take_of_length_le])).row_freeze
theorem made_rep (z : Value) (n : Nat) : (madeCells #[z] n).toList = List.replicate n z := by
  unfold madeCells
  apply List.ext_getElem
  · simp
  · intro i h1 h2
    simp [Nat.mod_one]
theorem make_long : ∃ (cs : Array Value) (s : List UInt8), cs.toList = s.map byteV ∧ s.length = 65537 ∧ ∀ w : World, (Instr.makeSlice 24 (.int .i64 65537) (.int .i64 65537)).run Tryz.prog w = .ok (.slice (some ⟨w.heap.size, 0, none⟩) 65537 65537) (w.alloc (.cells cs 5)) := by
  refine ⟨madeCells #[.int .u8 0] 65537, List.replicate 65537 0, ?_, List.length_replicate, fun w => ?_⟩
  · rw [made_rep, List.map_replicate]; rfl
  · exact run_make_row' 24 5 (.int .u8 0) 1 Tryz.underlying24 (by kernel_rfl) rfl .i64 .i64 65537 (by decide) (by decide) w
end Sk
/- StableLong: the walk. -/
namespace Sk
open Go Go.RowKit Go.Proofs
theorem d0_recs : Dsk.recs ⟨[], 0, [], false⟩ = [] := d0_whole.recs
theorem lH_size : lH.size = 40000 := vS_size _ _
theorem repH (w : World) : Calls Tryz.prog 51 #[.string ⟨#[104]⟩, ei 40000] w fun e w' => e = .returned (.string lH) ∧ Bel w w' := repC 104 40000 40000 (by decide) (by decide) w
set_option maxRecDepth 100000 in
set_option maxHeartbeats 4000000 in
theorem lawLong {W : World} (hF : Fours W) (m : Int) (h0 : 0 ≤ m) (h1 : m < 256) : Calls Tryz.prog 6 #[.int .u8 m] W fun e w' => e = .returned (.bool true) ∧ Bel W w' := by
  have H1 := (Own.start W).alloc (.cells #[ei 1073741824, ei 6] 23)
  have hq1 : 0 ≤ m % 64 := by omega
  have hq2 : m % 64 < 64 := by omega
  obtain ⟨n1, hn1⟩ : ∃ n : Nat, (n : Int) = 65524 + (m % 64 - 32) := ⟨(65524 + (m % 64 - 32)).toNat, by omega⟩
  obtain ⟨n2, hn2⟩ : ∃ n : Nat, (n : Int) = 65530 + (m % 64 - 32) := ⟨(65530 + (m % 64 - 32)).toNat, by omega⟩
  by_cases hk : m % 64 - 32 ≤ 0
  · have ha := long_acc_yes (t := vS 118 n1) (by rw [vS_size]; omega) (by rw [vS_size]; omega)
    have hc := long_cho_yes (t := vS 118 n2) (by rw [vS_size]; omega) (by rw [vS_size]; omega)
    have hr1 := Lib.hid (fun w => repC 118 n1 _ hn1.symm (by omega) w)
    have hr2 := Lib.hid (fun w => repC 118 n2 _ hn2.symm (by omega) w)
    have hs1 := Lib.hid (show (vS 118 n1).size ≤ 100000 by rw [vS_size]; omega)
    have hs2 := Lib.hid (show (vS 118 n2).size ≤ 100000 by rw [vS_size]; omega)
    clear hn1 hn2
    generalize vS 118 n1 = t1 at *
    generalize vS 118 n2 = t2 at *
    go_enter Tryz.func6, Tryz.ntmps6
    go_wp2_with fail
    refine (hr1.out _).mono ?_
    rintro e w1 ⟨rfl, hb⟩
    have H2 := H1.grown hb
    have hc2 := H2.cell
    go_wp2_with fail
    refine (acceptC H2 lB 4095 t1 hs1.out).mono ?_
    rintro e w2 ⟨v1, rfl, H3⟩
    obtain ⟨A1, k1, hv1, _⟩ := H3.row_rd.form
    subst hv1
    rw [ha]
    go_wp2_with fail
    refine (hr2.out _).mono ?_
    rintro e w3 ⟨rfl, hb2⟩
    have H4 := H3.grown hb2
    go_wp2_with fail
    refine (chooseC H4 4095 t2 hs2.out).mono ?_
    rintro e w4 ⟨v2, rfl, H5⟩
    obtain ⟨A2, k2, hv2, _⟩ := H5.row_rd.form
    subst hv2
    rw [hc]
    have H6 := H5.drop.drop
    clear H5 H4 H3 H2 hb hb2 hc2 hr1 hr2 hs1 hs2 ha hc
    go_wp2_with fail
    refine (diskNew H6).mono ?_
    rintro e w5 ⟨d, rfl, H7⟩
    go_wp2_with fail
    have hrc := recover0 hF H7 rfl (by simp) (by simp) 7 (by decide) (by decide)
    rw [d0_recs] at hrc
    refine hrc.mono ?_
    rintro e w6 ⟨pa, pl, rfl, _, hlo, H8⟩
    clear hrc
    go_wp2_with fail
    refine (repH _).mono ?_
    rintro e w7 ⟨rfl, hb3⟩
    have H9 := (H8.grown hb3).sel [1]
    clear hb3 H8 H7 H6
    go_wp2_with fail
    have hpt := logPut H9 hlo 0 lH (by rw [lH_size]; decide)
    refine hpt.mono ?_
    rintro e w8 ⟨rfl, lg, hput, H10⟩
    rw [long_put]
    obtain ⟨_, hval, _, hlg⟩ : Log.new.putE 0 lH = 0 ∧ lg.val = fset Log.new.val 0 (some lH) ∧ lg.base = Log.new.base ∧ lg.ok := by
      rcases hput with ⟨h, _⟩ | h
      · exact absurd long_put h
      · exact h
    clear hput hpt
    have H11 := H10.sel [1]
    have hcb := (H10.sel [3]).cell
    have hca := Lib.hid (accAccept H11 lB 1 lH (by decide))
    rw [long_accept] at hca
    go_wp2_with fail
    refine hca.out.mono ?_
    rintro e w9 ⟨rfl, H12⟩
    have hcb2 := (H12.sel [3]).cell
    clear hca hcb H11 H10 H9
    go_wp2_with fail
    have hpr := promiseC H12 lB
    rw [long_prom] at hpr
    refine hpr.mono ?_
    rintro e w10 ⟨v3, rfl, H13⟩
    obtain ⟨A3, k3, hv3, _⟩ := H13.row_rd.form
    subst hv3
    obtain ⟨D, hD, hD1, hD2, hD3, hD4, hD5⟩ := long_write
    have HD := Lib.hid hD2
    have HD5 := Lib.hid hD5
    clear hcb2 hpr hD2 hD5
    have H14 := H13.row_freeze.sel [3, 0]
    have hwr := writeC hF H14 (by simp)
    rw [hD] at hwr
    have hwr := Lib.hid hwr
    clear hD
    go_wp2_with fail
    refine hwr.out.mono ?_
    rintro e w11 ⟨rfl, H15⟩
    clear hwr H14 H13 H12
    have hcm := Lib.hid (compactC (H15.sel [0, 2, 3]) lA_ok hlg (by omega) (by rw [hD3]; simp))
    go_wp2_with fail
    refine hcm.out.mono ?_
    rintro e w12 ⟨es, vs, he, hv, rfl, H16⟩
    rw [long_snap hval he hv] at H16 ⊢
    clear hcm H15 he hv
    obtain ⟨cs, zs, hcs, hzl, hmk⟩ := make_long
    have HZ := Lib.hid hzl
    have HC := Lib.hid hcs
    clear hcs hzl
    go_wp2_with fail
    have H17 := Own.bytes_blk (n := 65537) ((H16.drop4.alloc (.cells cs 5))) HC.out HZ.out.symm (by rw [HZ.out]; decide)
    have hw2 := writeC hF (H17.sel [1, 0, 2, 3]) (by omega)
    rw [long_write2 HZ.out] at hw2
    refine hw2.mono ?_
    rintro e w13 ⟨rfl, H18⟩
    clear hw2 H17 H16 hmk
    go_wp2_with fail
    have hsn := diskSnapshot (H18.sel [0]) (by rw [hD3]; simp)
    have hsn := Lib.hid hsn
    refine hsn.out.mono ?_
    rintro e w14 ⟨v4, rfl, H19⟩
    rw [hD4]
    clear hsn H18
    have H20 := H19.drop
    have hrc := Lib.hid (diskRecords hF H20 (by omega))
    go_wp2_with fail
    refine hrc.out.mono ?_
    rintro e w15 ⟨v5, xs, rfl, hxs, H21⟩
    have hxl : xs.length = 1 := by
      have := congrArg List.length hxs
      rw [HD5.out] at this
      simpa using this
    obtain ⟨A5, k5, hv5, _⟩ := H21.row_rd.form
    rw [hxl] at hv5
    subst hv5
    have H22 := H21.drop.drop
    clear hrc hxs hxl H21 H20 H19
    go_wp2_with fail
    have hsa := diskSafe H22
    rw [HD.out] at hsa
    refine hsa.mono ?_
    rintro e w16 ⟨rfl, rfl⟩
    have hle := Lib.hid (diskLen H22)
    go_wp2_with fail
    refine hle.out.mono ?_
    rintro e w17 ⟨rfl, rfl⟩
    have hwk := Lib.hid (worksC hF H22)
    go_wp2_with fail
    refine hwk.out.mono ?_
    rintro e w18 ⟨rfl, H23⟩
    go_wp2_with fail
    go_ret
    exact ⟨rfl, H23.below⟩
  · have ha := long_acc_no (t := vS 118 n1) (by rw [vS_size]; omega) (by rw [vS_size]; omega)
    have hc := long_cho_no (t := vS 118 n2) (by rw [vS_size]; omega) (by rw [vS_size]; omega)
    have hr1 := Lib.hid (fun w => repC 118 n1 _ hn1.symm (by omega) w)
    have hr2 := Lib.hid (fun w => repC 118 n2 _ hn2.symm (by omega) w)
    have hs1 := Lib.hid (show (vS 118 n1).size ≤ 100000 by rw [vS_size]; omega)
    have hs2 := Lib.hid (show (vS 118 n2).size ≤ 100000 by rw [vS_size]; omega)
    clear hn1 hn2
    generalize vS 118 n1 = t1 at *
    generalize vS 118 n2 = t2 at *
    go_enter Tryz.func6, Tryz.ntmps6
    go_wp2_with fail
    refine (hr1.out _).mono ?_
    rintro e w1 ⟨rfl, hb⟩
    have H2 := H1.grown hb
    have hc2 := H2.cell
    go_wp2_with fail
    have hac := acceptC H2 lB 4095 t1 hs1.out
    rw [ha] at hac
    refine hac.mono ?_
    rintro e w2 ⟨v1, rfl, H3⟩
    obtain ⟨A1, k1, hv1, _⟩ := H3.row_rd.form
    subst hv1
    go_wp2_with fail
    refine (hr2.out _).mono ?_
    rintro e w3 ⟨rfl, hb2⟩
    have H4 := H3.grown hb2
    go_wp2_with fail
    have hch := chooseC H4 4095 t2 hs2.out
    rw [hc] at hch
    refine hch.mono ?_
    rintro e w4 ⟨v2, rfl, H5⟩
    obtain ⟨A2, k2, hv2, _⟩ := H5.row_rd.form
    subst hv2
    have H6 := H5.drop.drop
    clear H5 H4 H3 H2 hb hb2 hc2 hr1 hr2 hs1 hs2 ha hc
    go_wp2_with fail
    refine (diskNew H6).mono ?_
    rintro e w5 ⟨d, rfl, H7⟩
    go_wp2_with fail
    have hrc := recover0 hF H7 rfl (by simp) (by simp) 7 (by decide) (by decide)
    rw [d0_recs] at hrc
    refine hrc.mono ?_
    rintro e w6 ⟨pa, pl, rfl, _, hlo, H8⟩
    clear hrc
    go_wp2_with fail
    refine (repH _).mono ?_
    rintro e w7 ⟨rfl, hb3⟩
    have H9 := (H8.grown hb3).sel [1]
    clear hb3 H8 H7 H6
    go_wp2_with fail
    have hpt := logPut H9 hlo 0 lH (by rw [lH_size]; decide)
    refine hpt.mono ?_
    rintro e w8 ⟨rfl, lg, hput, H10⟩
    rw [long_put]
    obtain ⟨_, hval, _, hlg⟩ : Log.new.putE 0 lH = 0 ∧ lg.val = fset Log.new.val 0 (some lH) ∧ lg.base = Log.new.base ∧ lg.ok := by
      rcases hput with ⟨h, _⟩ | h
      · exact absurd long_put h
      · exact h
    clear hput hpt
    have H11 := H10.sel [1]
    have hcb := (H10.sel [3]).cell
    have hca := Lib.hid (accAccept H11 lB 1 lH (by decide))
    rw [long_accept] at hca
    go_wp2_with fail
    refine hca.out.mono ?_
    rintro e w9 ⟨rfl, H12⟩
    have hcb2 := (H12.sel [3]).cell
    clear hca hcb H11 H10 H9
    go_wp2_with fail
    have hpr := promiseC H12 lB
    rw [long_prom] at hpr
    refine hpr.mono ?_
    rintro e w10 ⟨v3, rfl, H13⟩
    obtain ⟨A3, k3, hv3, _⟩ := H13.row_rd.form
    subst hv3
    obtain ⟨D, hD, hD1, hD2, hD3, hD4, hD5⟩ := long_write
    have HD := Lib.hid hD2
    have HD5 := Lib.hid hD5
    clear hcb2 hpr hD2 hD5
    have H14 := H13.row_freeze.sel [3, 0]
    have hwr := writeC hF H14 (by simp)
    rw [hD] at hwr
    have hwr := Lib.hid hwr
    clear hD
    go_wp2_with fail
    refine hwr.out.mono ?_
    rintro e w11 ⟨rfl, H15⟩
    clear hwr H14 H13 H12
    have hcm := Lib.hid (compactC (H15.sel [0, 2, 3]) lA_ok hlg (by omega) (by rw [hD3]; simp))
    go_wp2_with fail
    refine hcm.out.mono ?_
    rintro e w12 ⟨es, vs, he, hv, rfl, H16⟩
    rw [long_snap hval he hv] at H16 ⊢
    clear hcm H15 he hv
    obtain ⟨cs, zs, hcs, hzl, hmk⟩ := make_long
    have HZ := Lib.hid hzl
    have HC := Lib.hid hcs
    clear hcs hzl
    go_wp2_with fail
    have H17 := Own.bytes_blk (n := 65537) ((H16.drop4.alloc (.cells cs 5))) HC.out HZ.out.symm (by rw [HZ.out]; decide)
    have hw2 := writeC hF (H17.sel [1, 0, 2, 3]) (by omega)
    rw [long_write2 HZ.out] at hw2
    refine hw2.mono ?_
    rintro e w13 ⟨rfl, H18⟩
    clear hw2 H17 H16 hmk
    go_wp2_with fail
    have hsn := diskSnapshot (H18.sel [0]) (by rw [hD3]; simp)
    have hsn := Lib.hid hsn
    refine hsn.out.mono ?_
    rintro e w14 ⟨v4, rfl, H19⟩
    rw [hD4]
    clear hsn H18
    have H20 := H19.drop
    have hrc := Lib.hid (diskRecords hF H20 (by omega))
    go_wp2_with fail
    refine hrc.out.mono ?_
    rintro e w15 ⟨v5, xs, rfl, hxs, H21⟩
    have hxl : xs.length = 1 := by
      have := congrArg List.length hxs
      rw [HD5.out] at this
      simpa using this
    obtain ⟨A5, k5, hv5, _⟩ := H21.row_rd.form
    rw [hxl] at hv5
    subst hv5
    have H22 := H21.drop.drop
    clear hrc hxs hxl H21 H20 H19
    go_wp2_with fail
    have hsa := diskSafe H22
    rw [HD.out] at hsa
    refine hsa.mono ?_
    rintro e w16 ⟨rfl, rfl⟩
    have hle := Lib.hid (diskLen H22)
    go_wp2_with fail
    refine hle.out.mono ?_
    rintro e w17 ⟨rfl, rfl⟩
    have hwk := Lib.hid (worksC hF H22)
    go_wp2_with fail
    refine hwk.out.mono ?_
    rintro e w18 ⟨rfl, H23⟩
    go_wp2_with fail
    go_ret
    exact ⟨rfl, H23.below⟩
end Sk
