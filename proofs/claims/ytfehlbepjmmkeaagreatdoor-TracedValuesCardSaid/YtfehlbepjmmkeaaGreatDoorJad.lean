/-
  DERIVED. The reference's word answers, whatever the text. No condition.
-/
import Derived.Test.YtfehlbepjmmkeaaGreatDoorJac
import Derived.Deep.Slices
import Derived.Deep.RegionHeld3
import Derived.Shelf.LaysM
import Derived.Shelf.Strconv.Itoa3
import Derived.Shelf.LaysC
import Derived.Shelf.Strconv.AtoiAll
import Derived.Shelf.Strings.Replace
import Derived.Ground.Names2Prog
import Derived.Ground.SlgnProg
import Derived.Test.YtfehlbepjmmkeaaGreatDoorProg
import Derived.Test.YtfehlbepjmmkeaaGreatDoorJaa
import Derived.Lib.ItoaLen
namespace Go.Proofs.YtfehlbepjmmkeaaGreatDoor
open Go.RowKit
set_option maxHeartbeats 4000000 in
theorem refWord_of (s : ByteArray) (w : World) : Calls Tryz.prog 274 #[.string s] w fun e w' => (∃ r : Bool, e = .returned (.bool r)) ∧ Keeps w w' := by
  go_enter Tryz.func274, Tryz.ntmps274
  go_wp2_with fail
  obtain ⟨W0, hW0⟩ : ∃ W0, W0 = w.alloc (Obj.cells #[Value.string { data := #[97, 110, 100] }, Value.string { data := #[99, 97, 115, 101] }, Value.string { data := #[100, 97, 116, 97] }, Value.string { data := #[101, 108, 115, 101] }, Value.string { data := #[101, 110, 100] }, Value.string { data := #[102, 110] }, Value.string { data := #[102, 117, 110] }, Value.string { data := #[105, 102] }, Value.string { data := #[105, 110] }, Value.string { data := #[105, 110, 112, 117, 116] }, Value.string { data := #[108, 101, 116] }, Value.string { data := #[111, 102] }, Value.string { data := #[111, 117, 116, 112, 117, 116] }, Value.string { data := #[116, 104, 101, 110] }, Value.string { data := #[118, 97, 108] }] 9) := ⟨_, rfl⟩
  rw [← hW0]
  have hk0 : Keeps w W0 := by rw [hW0]; exact Keeps.alloc _ _
  have hc : ∀ j : Nat, j < 15 → ∃ x, W0.cell? ⟨w.heap.size, j, none⟩ = some (.string x) := by
    intro j hj
    rw [hW0, cell_of_block (heap_alloc_at _ _)]
    match j, hj with
    | 0, _ => exact ⟨_, rfl⟩
    | 1, _ => exact ⟨_, rfl⟩
    | 2, _ => exact ⟨_, rfl⟩
    | 3, _ => exact ⟨_, rfl⟩
    | 4, _ => exact ⟨_, rfl⟩
    | 5, _ => exact ⟨_, rfl⟩
    | 6, _ => exact ⟨_, rfl⟩
    | 7, _ => exact ⟨_, rfl⟩
    | 8, _ => exact ⟨_, rfl⟩
    | 9, _ => exact ⟨_, rfl⟩
    | 10, _ => exact ⟨_, rfl⟩
    | 11, _ => exact ⟨_, rfl⟩
    | 12, _ => exact ⟨_, rfl⟩
    | 13, _ => exact ⟨_, rfl⟩
    | 14, _ => exact ⟨_, rfl⟩
    | j + 15, hj => omega
  have HC := Lib.hid hc
  clear hW0 hc
  go_loopw [4] (fun q W => ∃ j : Nat, q = .int .i64 j ∧ j ≤ 15 ∧ Keeps W0 W) (fun q _ => 15 - (intOf q).toNat)
  case atStart => exact ⟨0, rfl, Nat.zero_le _, Keeps.refl _⟩
  case round =>
    obtain ⟨j, rfl, hj, hk⟩ := hrel
    by_cases hlt : j < 15
    · have hlt' : (j : Int) < 15 := by omega
      have hge : (0 : Int) ≤ j := by omega
      obtain ⟨x, hx⟩ := HC.out j hlt
      have x1 := cell_keeps hk hx
      clear hx
      go_wp2_with fail
      all_goals first
        | (go_ret; first | exact ⟨.inl rfl, Keeps.trans hk0 hk⟩ | exact ⟨.inr rfl, Keeps.trans hk0 hk⟩ | exact ⟨⟨_, rfl⟩, Keeps.trans hk0 hk⟩)
        | exact ⟨⟨j + 1, by simp, by omega, hk⟩, by simp [intOf]; omega⟩
    · have hlt' : ¬ (j : Int) < 15 := by omega
      go_wp2_with fail
      go_ret
      first | exact ⟨.inl rfl, Keeps.trans hk0 hk⟩ | exact ⟨⟨_, rfl⟩, Keeps.trans hk0 hk⟩
end Go.Proofs.YtfehlbepjmmkeaaGreatDoor
namespace Go.Proofs.YtfehlbepjmmkeaaGreatDoor
open Go.RowKit
set_option maxHeartbeats 8000000 in
set_option maxRecDepth 100000 in
theorem refNumber_of (s : ByteArray) (w : World) (h0 : 0 < s.size) (hs : s.size ≤ 100) : Calls Tryz.prog 268 #[.string s] w fun e w' => (∃ n k : Int, e = .returned (.tuple #[.int .i64 n, .int .i64 k])) ∧ Keeps w w' := by
  have hs0 : (0 : Int) < s.size := by omega
  go_enter Tryz.func268, Tryz.ntmps268
  go_wp2_with fail
  all_goals first
    | (go_ret2; exact ⟨⟨_, _, rfl⟩, Keeps.refl _⟩)
    | skip
  all_goals
    try generalize (decide ((30 : Int) < s.size)) = b1
    try generalize (decide ((1 : Int) < s.size)) = b2
    try generalize ((s.size : Int) == 0) = b3
    try generalize ((s.size : Int) == 1) = b4
    try generalize (((s[0]'h0).toNat : Int) == 48) = b5
    try (have h1 : 1 < s.size := by omega
         generalize (((s[1]'h1).toNat : Int) == 48) = b6)
  all_goals go_loopw [5, 7] (fun q q7 W => ∃ (n : Int) (j : Nat), q = .int .i64 n ∧ q7 = .int .i64 j ∧ j ≤ s.size ∧ Keeps w W) (fun _ q7 _ => s.size - (intOf q7).toNat)
  all_goals first
    | (case atStart => first | exact ⟨0, 0, rfl, rfl, by omega, Keeps.refl _⟩ | exact ⟨0, 1, rfl, rfl, by omega, Keeps.refl _⟩)
    | skip
  all_goals
    obtain ⟨n, j, rfl, rfl, hj, hk⟩ := hrel
    by_cases hlt : j < s.size
    · have hlt' : (j : Int) < s.size := by omega
      have hge : (0 : Int) ≤ j := by omega
      go_wp2_with (go_at_call 267; refine (refDigit_of _ _).mono ?_; rintro _ _ ⟨rfl, rfl⟩)
      all_goals first
        | (go_ret2; exact ⟨⟨_, _, rfl⟩, hk⟩)
        | skip
      all_goals
        go_roundw
        case rel => exact ⟨_, j + 1, rfl, by go_num, by omega, hk⟩
        case measure => simp [intOf] <;> omega
    · have hlt' : ¬ (j : Int) < s.size := by omega
      go_wp2_with fail
      all_goals (go_ret2; exact ⟨⟨_, _, rfl⟩, hk⟩)
set_option maxHeartbeats 8000000 in
theorem refNumber_any (s : ByteArray) (w : World) (hs : s.size ≤ 100) : Calls Tryz.prog 268 #[.string s] w fun e w' => (∃ n k : Int, e = .returned (.tuple #[.int .i64 n, .int .i64 k])) ∧ Keeps w w' := by
  by_cases h0 : 0 < s.size
  · exact refNumber_of s w h0 hs
  · have hs0 : ¬ (0 : Int) < s.size := by omega
    have hsz : (s.size : Int) = 0 := by omega
    go_enter Tryz.func268, Tryz.ntmps268
    go_wp2_with fail
    all_goals (go_ret2; exact ⟨⟨_, _, rfl⟩, Keeps.refl _⟩)
end Go.Proofs.YtfehlbepjmmkeaaGreatDoor
namespace Go.Proofs.YtfehlbepjmmkeaaGreatDoor
open Go.RowKit
set_option maxHeartbeats 8000000 in
set_option maxRecDepth 100000 in
theorem refSign_of (s : ByteArray) (i : Nat) (w : World) (hs : s.size ≤ 100) (hi : i < s.size) : Calls Tryz.prog 275 #[.string s, .int .i64 i] w fun e w' => (∃ n : Nat, e = .returned (.int .i64 n) ∧ n ≤ 2 ∧ i + n ≤ s.size) ∧ Keeps w w' := by
  have hi' : (i : Int) < s.size := by omega
  have hi0 : (0 : Int) ≤ i := by omega
  go_enter Tryz.func275, Tryz.ntmps275
  by_cases h2 : i + 1 < s.size
  all_goals
    have h2' : (i : Int) + 1 < s.size ∨ ¬ (i : Int) + 1 < s.size := by omega
    rcases h2' with h2' | h2'
    all_goals try (exfalso; omega)
    go_wp2_with fail
  all_goals first
    | (go_ret; exact ⟨⟨2, rfl, by omega, by omega⟩, Keeps.refl _⟩)
    | skip
  all_goals
    try generalize ((s.extract i (i + 2)).toList == [61, 62]) = b1
    try generalize ((s.extract i (i + 2)).toList == [45, 62]) = b2
    obtain ⟨c, hc⟩ : ∃ c : ByteArray, c = { data := #[40, 41, 44, 59, 58, 124, 61, 60, 43, 45, 42, 47, 37, 95] } := ⟨_, rfl⟩
    rw [← hc]
    have hcs : c.size = 14 := by rw [hc]; rfl
    clear hc
    go_loopw [6] (fun q W => ∃ j : Nat, q = .int .i64 j ∧ j ≤ c.size ∧ Keeps w W) (fun q _ => c.size - (intOf q).toNat)
  all_goals first
    | (case atStart => exact ⟨0, rfl, Nat.zero_le _, Keeps.refl _⟩)
    | skip
  all_goals
    obtain ⟨j, rfl, hj, hk⟩ := hrel
    by_cases hlt : j < c.size
    · have hlt' : (j : Int) < c.size := by omega
      have hge : (0 : Int) ≤ j := by omega
      go_wp2_with fail
      go_region_held3 (fun _ => True) (trivial) (fail)
      all_goals go_wp2_with fail
      all_goals first
        | (go_ret; exact ⟨⟨1, rfl, by omega, by omega⟩, Keeps.drewN hk _⟩)
        | (go_ret; exact ⟨⟨1, rfl, by omega, by omega⟩, Kept.drew hk⟩)
        | skip
      all_goals
        go_roundw
        case rel => exact ⟨j + 1, by go_num, by omega, Kept.drew hk⟩
        case measure => simp [intOf] <;> omega
    · have hlt' : ¬ (j : Int) < c.size := by omega
      go_wp2_with fail
      go_ret
      exact ⟨⟨0, rfl, by omega, by omega⟩, hk⟩
end Go.Proofs.YtfehlbepjmmkeaaGreatDoor
namespace Go.Proofs
open Go.Shelf
def Tryz.laysM171_ren : Go.Shelf.Ren := ⟨fun | 171 => 175 | 243 => 225 | 246 => 265 | 283 => 286 | 284 => 287 | 285 => 288 | 286 => 289 | 129 => 188 | 317 => 295 | 318 => 296 | 319 => 297 | 320 => 298 | 337 => 299 | 338 => 300 | n => n, fun | 3 => 3 | 9 => 9 | 2 => 2 | 4 => 4 | 171 => 349 | 0 => 0 | 53 => 279 | 37 => 223 | 5 => 5 | 173 => 351 | 212 => 359 | 51 => 277 | 20 => 20 | 213 => 360 | 46 => 234 | 232 => 361 | 233 => 362 | n => n, fun | 17 => 5 | 18 => 6 | 19 => 7 | n => n⟩
theorem Tryz.laysM171 : Go.Proofs.LaysM.n171 Tryz.prog Tryz.laysM171_ren := {
  mixed := by kernel_rfl
  f129 := Tryz.func188.trans (congrArg some (by kernel_rfl))
  f171 := Tryz.func175.trans (congrArg some (by kernel_rfl))
  f243 := Tryz.func225.trans (congrArg some (by kernel_rfl))
  f246 := Tryz.func265.trans (congrArg some (by kernel_rfl))
  f283 := Tryz.func286.trans (congrArg some (by kernel_rfl))
  f284 := Tryz.func287.trans (congrArg some (by kernel_rfl))
  f285 := Tryz.func288.trans (congrArg some (by kernel_rfl))
  f286 := Tryz.func289.trans (congrArg some (by kernel_rfl))
  f317 := Tryz.func295.trans (congrArg some (by kernel_rfl))
  f318 := Tryz.func296.trans (congrArg some (by kernel_rfl))
  f319 := Tryz.func297.trans (congrArg some (by kernel_rfl))
  f320 := Tryz.func298.trans (congrArg some (by kernel_rfl))
  f337 := Tryz.func299.trans (congrArg some (by kernel_rfl))
  f338 := Tryz.func300.trans (congrArg some (by kernel_rfl))
  t0 := Tryz.underlying0
  a0 := Tryz.isAgg0
  z0 := Tryz.sizeOf0
  v0 := Tryz.zeroValue0
  t2 := Tryz.underlying2
  a2 := Tryz.isAgg2
  z2 := Tryz.sizeOf2
  v2 := Tryz.zeroValue2
  t3 := Tryz.underlying3
  a3 := Tryz.isAgg3
  z3 := Tryz.sizeOf3
  v3 := Tryz.zeroValue3
  t4 := Tryz.underlying4
  a4 := Tryz.isAgg4
  z4 := Tryz.sizeOf4
  v4 := Tryz.zeroValue4
  t5 := Tryz.underlying5
  a5 := Tryz.isAgg5
  z5 := Tryz.sizeOf5
  v5 := Tryz.zeroValue5
  t9 := Tryz.underlying9
  a9 := Tryz.isAgg9
  z9 := Tryz.sizeOf9
  v9 := Tryz.zeroValue9
  t20 := Tryz.underlying20
  a20 := Tryz.isAgg20
  z20 := Tryz.sizeOf20
  v20 := Tryz.zeroValue20
  t37 := Tryz.underlying223
  a37 := Tryz.isAgg223
  z37 := Tryz.sizeOf223
  v37 := Tryz.zeroValue223
  t46 := Tryz.underlying234
  a46 := Tryz.isAgg234
  z46 := Tryz.sizeOf234
  v46 := Tryz.zeroValue234
  t51 := Tryz.underlying277
  a51 := Tryz.isAgg277
  z51 := Tryz.sizeOf277
  v51 := Tryz.zeroValue277
  t53 := Tryz.underlying279
  a53 := Tryz.isAgg279
  z53 := Tryz.sizeOf279
  v53 := Tryz.zeroValue279
  t171 := Tryz.underlying349
  a171 := Tryz.isAgg349
  z171 := Tryz.sizeOf349
  v171 := Tryz.zeroValue349
  t173 := Tryz.underlying351
  a173 := Tryz.isAgg351
  z173 := Tryz.sizeOf351
  v173 := Tryz.zeroValue351
  t212 := Tryz.underlying359
  a212 := Tryz.isAgg359
  z212 := Tryz.sizeOf359
  v212 := Tryz.zeroValue359
  t213 := Tryz.underlying360
  a213 := Tryz.isAgg360
  z213 := Tryz.sizeOf360
  t232 := Tryz.underlying361
  a232 := Tryz.isAgg361
  z232 := Tryz.sizeOf361
  v232 := Tryz.zeroValue361
  t233 := Tryz.underlying362
  a233 := Tryz.isAgg362
  z233 := Tryz.sizeOf362
  v233 := Tryz.zeroValue362
  g17 := by kernel_rfl
  g18 := by kernel_rfl
  g19 := by kernel_rfl
  i0 := by kernel_rfl
  i2 := by kernel_rfl
  i3 := by kernel_rfl
  i4 := by kernel_rfl
  i5 := by kernel_rfl
  i9 := by kernel_rfl
  i20 := by kernel_rfl
  i37 := by kernel_rfl
  i46 := by kernel_rfl
  i51 := by kernel_rfl
  i53 := by kernel_rfl
  i171 := by kernel_rfl
  i173 := by kernel_rfl
  i212 := by kernel_rfl
  i232 := by kernel_rfl
  i233 := by kernel_rfl
  m17 := by kernel_rfl
  m18 := by kernel_rfl
  m19 := by kernel_rfl }
open Go.RowKit Go.Sort Go.Lib in
/-- strconv.Itoa: "Itoa is equivalent to FormatInt(int64(i), 10).": i's DECIMAL NUMERAL ('Lib.itoa': a '-' where i is negative, then the digits), FOR EVERY int. The world behind the call: the world before it, new blocks behind the heap (the library's 'var a [24]byte'), draws. (LAID: no walk: one application.) -/
theorem Tryz.strconv_Itoa (n : Int) (h0 : -9223372036854775808 ≤ n) (h1 : n ≤ 9223372036854775807) (w : World) (htab : Lib.TabIs Tryz.prog w "internal/strconv.uint64pow10" .u64 Lib.pow10Tab) :
    Calls Tryz.prog 175 #[.int .i64 n] w fun e w' => e = .returned (.string ⟨(Lib.itoa n).toArray⟩) ∧ ∃ k os, w' = grow (w.drewN k) os := Any.strconv_Itoa Tryz.laysM171 n h0 h1 w htab
def Tryz.laysC172_ren : Go.Shelf.Ren := ⟨fun | 172 => 172 | 244 => 219 | 245 => 220 | 247 => 255 | 279 => 256 | 280 => 257 | 281 => 258 | 282 => 259 | 287 => 279 | 316 => 280 | 171 => 175 | 205 => 281 | 321 => 292 | 322 => 293 | 243 => 225 | 246 => 265 | 283 => 286 | 284 => 287 | 285 => 288 | 286 => 289 | 129 => 188 | 317 => 295 | 318 => 296 | 319 => 297 | 320 => 298 | 337 => 299 | 338 => 300 | n => n, fun | 9 => 9 | 3 => 3 | 75 => 228 | 76 => 230 | 4 => 4 | 5 => 5 | 167 => 324 | 37 => 223 | 0 => 0 | 85 => 325 | 2 => 2 | 168 => 327 | 53 => 279 | 175 => 338 | 46 => 234 | 210 => 342 | 127 => 267 | 145 => 356 | 143 => 354 | 21 => 21 | 171 => 349 | 173 => 351 | 212 => 359 | 51 => 277 | 20 => 20 | 213 => 360 | 232 => 361 | 233 => 362 | 80 => 50 | n => n, fun | 15 => 0 | 16 => 1 | 17 => 5 | 18 => 6 | 19 => 7 | n => n⟩
theorem Tryz.laysC172 : Go.Proofs.LaysC.n172 Tryz.prog Tryz.laysC172_ren := {
  mixed := by kernel_rfl
  f129 := Tryz.func188.trans (congrArg some (by kernel_rfl))
  f171 := Tryz.func175.trans (congrArg some (by kernel_rfl))
  f172 := Tryz.func172.trans (congrArg some (by kernel_rfl))
  f205 := Tryz.func281.trans (congrArg some (by kernel_rfl))
  f243 := Tryz.func225.trans (congrArg some (by kernel_rfl))
  f244 := Tryz.func219.trans (congrArg some (by kernel_rfl))
  f245 := Tryz.func220.trans (congrArg some (by kernel_rfl))
  f246 := Tryz.func265.trans (congrArg some (by kernel_rfl))
  f247 := Tryz.func255.trans (congrArg some (by kernel_rfl))
  f279 := Tryz.func256.trans (congrArg some (by kernel_rfl))
  f280 := Tryz.func257.trans (congrArg some (by kernel_rfl))
  f281 := Tryz.func258.trans (congrArg some (by kernel_rfl))
  f282 := Tryz.func259.trans (congrArg some (by kernel_rfl))
  f283 := Tryz.func286.trans (congrArg some (by kernel_rfl))
  f284 := Tryz.func287.trans (congrArg some (by kernel_rfl))
  f285 := Tryz.func288.trans (congrArg some (by kernel_rfl))
  f286 := Tryz.func289.trans (congrArg some (by kernel_rfl))
  f287 := Tryz.func279.trans (congrArg some (by kernel_rfl))
  f316 := Tryz.func280.trans (congrArg some (by kernel_rfl))
  f317 := Tryz.func295.trans (congrArg some (by kernel_rfl))
  f318 := Tryz.func296.trans (congrArg some (by kernel_rfl))
  f319 := Tryz.func297.trans (congrArg some (by kernel_rfl))
  f320 := Tryz.func298.trans (congrArg some (by kernel_rfl))
  f321 := Tryz.func292.trans (congrArg some (by kernel_rfl))
  f322 := Tryz.func293.trans (congrArg some (by kernel_rfl))
  f337 := Tryz.func299.trans (congrArg some (by kernel_rfl))
  f338 := Tryz.func300.trans (congrArg some (by kernel_rfl))
  t0 := Tryz.underlying0
  a0 := Tryz.isAgg0
  z0 := Tryz.sizeOf0
  v0 := Tryz.zeroValue0
  t2 := Tryz.underlying2
  a2 := Tryz.isAgg2
  z2 := Tryz.sizeOf2
  v2 := Tryz.zeroValue2
  t3 := Tryz.underlying3
  a3 := Tryz.isAgg3
  z3 := Tryz.sizeOf3
  v3 := Tryz.zeroValue3
  t4 := Tryz.underlying4
  a4 := Tryz.isAgg4
  z4 := Tryz.sizeOf4
  v4 := Tryz.zeroValue4
  t5 := Tryz.underlying5
  a5 := Tryz.isAgg5
  z5 := Tryz.sizeOf5
  v5 := Tryz.zeroValue5
  t9 := Tryz.underlying9
  a9 := Tryz.isAgg9
  z9 := Tryz.sizeOf9
  v9 := Tryz.zeroValue9
  t20 := Tryz.underlying20
  a20 := Tryz.isAgg20
  z20 := Tryz.sizeOf20
  v20 := Tryz.zeroValue20
  t21 := Tryz.underlying21
  a21 := Tryz.isAgg21
  z21 := Tryz.sizeOf21
  v21 := Tryz.zeroValue21
  t37 := Tryz.underlying223
  a37 := Tryz.isAgg223
  z37 := Tryz.sizeOf223
  v37 := Tryz.zeroValue223
  t46 := Tryz.underlying234
  a46 := Tryz.isAgg234
  z46 := Tryz.sizeOf234
  v46 := Tryz.zeroValue234
  t51 := Tryz.underlying277
  a51 := Tryz.isAgg277
  z51 := Tryz.sizeOf277
  v51 := Tryz.zeroValue277
  t53 := Tryz.underlying279
  a53 := Tryz.isAgg279
  z53 := Tryz.sizeOf279
  v53 := Tryz.zeroValue279
  t75 := Tryz.underlying228
  a75 := Tryz.isAgg228
  z75 := Tryz.sizeOf228
  v75 := Tryz.zeroValue228
  t76 := Tryz.underlying230
  a76 := Tryz.isAgg230
  z76 := Tryz.sizeOf230
  v76 := Tryz.zeroValue230
  t85 := Tryz.underlying325
  a85 := Tryz.isAgg325
  z85 := Tryz.sizeOf325
  v85 := Tryz.zeroValue325
  t127 := Tryz.underlying267
  a127 := Tryz.isAgg267
  z127 := Tryz.sizeOf267
  v127 := Tryz.zeroValue267
  t143 := Tryz.underlying354
  a143 := Tryz.isAgg354
  z143 := Tryz.sizeOf354
  v143 := Tryz.zeroValue354
  t145 := Tryz.underlying356
  a145 := Tryz.isAgg356
  z145 := Tryz.sizeOf356
  v145 := Tryz.zeroValue356
  t167 := Tryz.underlying324
  a167 := Tryz.isAgg324
  z167 := Tryz.sizeOf324
  v167 := Tryz.zeroValue324
  t168 := Tryz.underlying327
  a168 := Tryz.isAgg327
  z168 := Tryz.sizeOf327
  v168 := Tryz.zeroValue327
  t171 := Tryz.underlying349
  a171 := Tryz.isAgg349
  z171 := Tryz.sizeOf349
  v171 := Tryz.zeroValue349
  t173 := Tryz.underlying351
  a173 := Tryz.isAgg351
  z173 := Tryz.sizeOf351
  v173 := Tryz.zeroValue351
  t175 := Tryz.underlying338
  a175 := Tryz.isAgg338
  z175 := Tryz.sizeOf338
  v175 := Tryz.zeroValue338
  t210 := Tryz.underlying342
  a210 := Tryz.isAgg342
  z210 := Tryz.sizeOf342
  v210 := Tryz.zeroValue342
  t212 := Tryz.underlying359
  a212 := Tryz.isAgg359
  z212 := Tryz.sizeOf359
  v212 := Tryz.zeroValue359
  t213 := Tryz.underlying360
  a213 := Tryz.isAgg360
  z213 := Tryz.sizeOf360
  t232 := Tryz.underlying361
  a232 := Tryz.isAgg361
  z232 := Tryz.sizeOf361
  v232 := Tryz.zeroValue361
  t233 := Tryz.underlying362
  a233 := Tryz.isAgg362
  z233 := Tryz.sizeOf362
  v233 := Tryz.zeroValue362
  g15 := by kernel_rfl
  g16 := by kernel_rfl
  g17 := by kernel_rfl
  g18 := by kernel_rfl
  g19 := by kernel_rfl
  t80 := Tryz.underlying50
  a80 := Tryz.isAgg50
  z80 := Tryz.sizeOf50
  v80 := Tryz.zeroValue50
  i0 := by kernel_rfl
  i2 := by kernel_rfl
  i3 := by kernel_rfl
  i4 := by kernel_rfl
  i5 := by kernel_rfl
  i9 := by kernel_rfl
  i20 := by kernel_rfl
  i21 := by kernel_rfl
  i37 := by kernel_rfl
  i46 := by kernel_rfl
  i51 := by kernel_rfl
  i53 := by kernel_rfl
  i75 := by kernel_rfl
  i76 := by kernel_rfl
  i80 := by kernel_rfl
  i85 := by kernel_rfl
  i127 := by kernel_rfl
  i143 := by kernel_rfl
  i145 := by kernel_rfl
  i167 := by kernel_rfl
  i168 := by kernel_rfl
  i171 := by kernel_rfl
  i173 := by kernel_rfl
  i175 := by kernel_rfl
  i210 := by kernel_rfl
  i212 := by kernel_rfl
  i232 := by kernel_rfl
  i233 := by kernel_rfl
  m15 := by kernel_rfl
  m16 := by kernel_rfl
  m17 := by kernel_rfl
  m18 := by kernel_rfl
  m19 := by kernel_rfl
  c0 := by kernel_rfl
  c2 := by kernel_rfl
  c3 := by kernel_rfl
  c4 := by kernel_rfl
  c5 := by kernel_rfl
  c9 := by kernel_rfl
  c20 := by kernel_rfl
  c21 := by kernel_rfl
  c37 := by kernel_rfl
  c46 := by kernel_rfl
  c51 := by kernel_rfl
  c53 := by kernel_rfl
  c75 := by kernel_rfl
  c76 := by kernel_rfl
  c80 := by kernel_rfl
  c85 := by kernel_rfl
  c127 := by kernel_rfl
  c143 := by kernel_rfl
  c145 := by kernel_rfl
  c167 := by kernel_rfl
  c168 := by kernel_rfl
  c171 := by kernel_rfl
  c173 := by kernel_rfl
  c175 := by kernel_rfl
  c210 := by kernel_rfl
  c212 := by kernel_rfl
  c213 := by kernel_rfl
  c232 := by kernel_rfl
  c233 := by kernel_rfl }
open Go.RowKit in
/-- strconv.Atoi, AT EVERY STRING THAT SPELLS AN int ('Lib.atoiAll .. = .ok v'; of whatever length: leading zeros count): v, AND NO ERROR. The world: as it was, or with the one new row that '[]byte(..)' lays. (LAID: no walk: one application.) -/
theorem Tryz.strconv_Atoi_ok (s : ByteArray) (hmax : s.size ≤ 9223372036854775806) (v : Int) (h : Lib.atoiAll s.data.toList = .ok v) (w : World) :
    Calls Tryz.prog 172 #[.string s] w fun e w' => e = .returned (.tuple #[.int .i64 v, .nilIface]) ∧ (w' = w ∨ ∃ t, w' = Lib.bytesWorld w 5 t) := Any.strconv_Atoi_ok Tryz.laysC172 s hmax v h w
open Go.RowKit in
/-- strconv.Atoi, AT EVERY STRING THAT IS NO DECIMAL NUMERAL ('.syntax'): 0, AND AN ERROR THAT IS NOT nil: a *NumError in a new block N: {Func: "Atoi", Num: s's bytes, Err: what the variable ErrSyntax holds}. Of what was there nothing has turned. (LAID: no walk: one application.) -/
theorem Tryz.strconv_Atoi_syntax (s : ByteArray) (hlim : s.size ≤ 281474976710656) (h : ∀ v, Lib.atoiAll s.data.toList ≠ .ok v) (h2 : Lib.atoiAll s.data.toList ≠ .range) (ev : Value) (w : World) (hv : w.cell? ⟨0, 0, none⟩ = some ev) (hev : ev = .nilIface ∨ ∃ te pe, ev = .iface te pe) :
    Calls Tryz.prog 172 #[.string s] w fun e w' => ∃ N, e = .returned (.tuple #[.int .i64 (0), .iface 327 (.pointer (some ⟨N, 0, none⟩))]) ∧ w.heap.size ≤ N ∧ w'.heap[N]? = some (.cells #[.string ⟨#[65, 116, 111, 105]⟩, .string s, ev] 342 (0, 0)) ∧ Below w.heap.size w w' :=
  Any.strconv_Atoi_syntax Tryz.laysC172 s hlim (by cases hh : Lib.atoiAll s.data.toList with | ok v => exact absurd hh (h v) | range => exact absurd hh h2 | _ => rfl) ev w hv hev
open Go.RowKit in
/-- strconv.Atoi, AT EVERY NUMERAL THAT NO int HOLDS ('.range'): THE GREATEST OR THE LEAST int, BY THE SIGN ('Lib.atoiSat'), AND AN ERROR THAT IS NOT nil: a *NumError in a new block N: {Func: "Atoi", Num: s's bytes, Err: what the variable ErrRange holds}. Of what was there nothing has turned. (LAID: no walk: one application.) -/
theorem Tryz.strconv_Atoi_range (s : ByteArray) (hlim : s.size ≤ 281474976710656) (h : Lib.atoiAll s.data.toList = .range) (ev : Value) (w : World) (hv : w.cell? ⟨1, 0, none⟩ = some ev) (hev : ev = .nilIface ∨ ∃ te pe, ev = .iface te pe) :
    Calls Tryz.prog 172 #[.string s] w fun e w' => ∃ N, e = .returned (.tuple #[.int .i64 (Lib.atoiSat s.data.toList), .iface 327 (.pointer (some ⟨N, 0, none⟩))]) ∧ w.heap.size ≤ N ∧ w'.heap[N]? = some (.cells #[.string ⟨#[65, 116, 111, 105]⟩, .string s, ev] 342 (0, 0)) ∧ Below w.heap.size w w' := Any.strconv_Atoi_range Tryz.laysC172 s hlim h ev w hv hev
def Tryz.lays154_ren : Go.Shelf.Ren := ⟨fun | 154 => 173 | 138 => 221 | 165 => 222 | 143 => 223 | 166 => 131 | 197 => 224 | 169 => 132 | 195 => 260 | 218 => 261 | 240 => 177 | 241 => 262 | 219 => 263 | 260 => 264 | 276 => 226 | 277 => 282 | 217 => 277 | 225 => 283 | 224 => 284 | 267 => 285 | 266 => 291 | 314 => 294 | n => n, fun | 9 => 9 | 3 => 3 | 4 => 4 | 72 => 225 | 0 => 0 | 76 => 230 | 105 => 300 | 21 => 21 | 5 => 5 | 70 => 222 | 20 => 20 | 37 => 223 | 75 => 228 | 127 => 267 | 164 => 302 | 46 => 234 | 119 => 345 | 139 => 348 | 138 => 347 | 146 => 357 | 51 => 277 | 80 => 50 | n => n, fun | 1 => 2 | 3 => 3 | 4 => 4 | n => n⟩
theorem Tryz.lays154 : Go.Proofs.Lays.n154 Tryz.prog Tryz.lays154_ren := {
  mixed := by kernel_rfl
  f138 := Tryz.func221.trans (congrArg some (by kernel_rfl))
  f143 := Tryz.func223.trans (congrArg some (by kernel_rfl))
  f154 := Tryz.func173.trans (congrArg some (by kernel_rfl))
  f165 := Tryz.func222.trans (congrArg some (by kernel_rfl))
  f166 := Tryz.func131.trans (congrArg some (by kernel_rfl))
  f169 := Tryz.func132.trans (congrArg some (by kernel_rfl))
  f195 := Tryz.func260.trans (congrArg some (by kernel_rfl))
  f197 := Tryz.func224.trans (congrArg some (by kernel_rfl))
  f217 := Tryz.func277.trans (congrArg some (by kernel_rfl))
  f218 := Tryz.func261.trans (congrArg some (by kernel_rfl))
  f219 := Tryz.func263.trans (congrArg some (by kernel_rfl))
  f224 := Tryz.func284.trans (congrArg some (by kernel_rfl))
  f225 := Tryz.func283.trans (congrArg some (by kernel_rfl))
  f240 := Tryz.func177.trans (congrArg some (by kernel_rfl))
  f241 := Tryz.func262.trans (congrArg some (by kernel_rfl))
  f260 := Tryz.func264.trans (congrArg some (by kernel_rfl))
  f266 := Tryz.func291.trans (congrArg some (by kernel_rfl))
  f267 := Tryz.func285.trans (congrArg some (by kernel_rfl))
  f276 := Tryz.func226.trans (congrArg some (by kernel_rfl))
  f277 := Tryz.func282.trans (congrArg some (by kernel_rfl))
  f314 := Tryz.func294.trans (congrArg some (by kernel_rfl))
  t0 := Tryz.underlying0
  a0 := Tryz.isAgg0
  z0 := Tryz.sizeOf0
  v0 := Tryz.zeroValue0
  t3 := Tryz.underlying3
  a3 := Tryz.isAgg3
  z3 := Tryz.sizeOf3
  v3 := Tryz.zeroValue3
  t4 := Tryz.underlying4
  a4 := Tryz.isAgg4
  z4 := Tryz.sizeOf4
  v4 := Tryz.zeroValue4
  t5 := Tryz.underlying5
  a5 := Tryz.isAgg5
  z5 := Tryz.sizeOf5
  v5 := Tryz.zeroValue5
  t9 := Tryz.underlying9
  a9 := Tryz.isAgg9
  z9 := Tryz.sizeOf9
  v9 := Tryz.zeroValue9
  t20 := Tryz.underlying20
  a20 := Tryz.isAgg20
  z20 := Tryz.sizeOf20
  v20 := Tryz.zeroValue20
  t21 := Tryz.underlying21
  a21 := Tryz.isAgg21
  z21 := Tryz.sizeOf21
  v21 := Tryz.zeroValue21
  t37 := Tryz.underlying223
  a37 := Tryz.isAgg223
  z37 := Tryz.sizeOf223
  v37 := Tryz.zeroValue223
  t46 := Tryz.underlying234
  a46 := Tryz.isAgg234
  z46 := Tryz.sizeOf234
  v46 := Tryz.zeroValue234
  t51 := Tryz.underlying277
  a51 := Tryz.isAgg277
  z51 := Tryz.sizeOf277
  v51 := Tryz.zeroValue277
  t70 := Tryz.underlying222
  a70 := Tryz.isAgg222
  z70 := Tryz.sizeOf222
  v70 := Tryz.zeroValue222
  t72 := Tryz.underlying225
  a72 := Tryz.isAgg225
  z72 := Tryz.sizeOf225
  v72 := Tryz.zeroValue225
  t75 := Tryz.underlying228
  a75 := Tryz.isAgg228
  z75 := Tryz.sizeOf228
  v75 := Tryz.zeroValue228
  t76 := Tryz.underlying230
  a76 := Tryz.isAgg230
  z76 := Tryz.sizeOf230
  v76 := Tryz.zeroValue230
  t105 := Tryz.underlying300
  a105 := Tryz.isAgg300
  z105 := Tryz.sizeOf300
  v105 := Tryz.zeroValue300
  t119 := Tryz.underlying345
  a119 := Tryz.isAgg345
  z119 := Tryz.sizeOf345
  t127 := Tryz.underlying267
  a127 := Tryz.isAgg267
  z127 := Tryz.sizeOf267
  v127 := Tryz.zeroValue267
  t138 := Tryz.underlying347
  a138 := Tryz.isAgg347
  z138 := Tryz.sizeOf347
  v138 := Tryz.zeroValue347
  t139 := Tryz.underlying348
  a139 := Tryz.isAgg348
  z139 := Tryz.sizeOf348
  v139 := Tryz.zeroValue348
  t146 := Tryz.underlying357
  a146 := Tryz.isAgg357
  z146 := Tryz.sizeOf357
  v146 := Tryz.zeroValue357
  t164 := Tryz.underlying302
  a164 := Tryz.isAgg302
  z164 := Tryz.sizeOf302
  v164 := Tryz.zeroValue302
  g1 := by kernel_rfl
  g3 := by kernel_rfl
  g4 := by kernel_rfl }
theorem Tryz.Builder_Extra_154 : Builder.Extra Tryz.prog Tryz.lays154_ren := {
  sizeBuilder := by kernel_rfl
  liesBuilder := by kernel_rfl
  t5 := Tryz.underlying5
  a5 := Tryz.isAgg5
  z5 := Tryz.sizeOf5
  v5 := Tryz.zeroValue5
  infoByte := by kernel_rfl
  cellsByte := by kernel_rfl
  sizeByte := by kernel_rfl
  neB5 := by decide }
open Go.RowKit Go.Lib in
/-- strings.Replace: "Replace returns a copy of the string s with the first n non-overlapping instances of old replaced by new. .. If n < 0, there is no limit on the number of replacements.": AT AN old THAT IS NOT EMPTY: IT RETURNS 'Lib.replace s old new n'. Below the heap's end the world is as it was. IT ASKS, as strings.Index's contract: 'len(s) < 4294967281', 'hm'; and that what comes out has room: 'len(s) + Count(s, old) * len(new) ≤ 2^47'. (LAID: no walk: one application.) -/
theorem Tryz.strings_Replace (s old new : ByteArray) (n : Int) (m : Int) (w : World) (hs : s.size < 4294967281) (hm : w.cell? ⟨2, 0, none⟩ = some (.int .i64 m)) (h1 : 1 ≤ old.size) (hlen : s.size + Lib.countB s old * new.size ≤ 140737488355328) :
    Calls Tryz.prog 173 #[.string s, .string old, .string new, .int .i64 n] w fun e w' =>
      e = .returned (.string ⟨(Lib.replace s.data.toList old.data.toList new.data.toList n).toArray⟩) ∧ Below w.heap.size w w' := Any.strings_Replace Tryz.lays154 Tryz.Builder_Extra_154 s old new n m w hs hm h1 hlen
end Go.Proofs
namespace Go.Proofs.YtfehlbepjmmkeaaGreatDoor
open Go.RowKit

theorem holdN {p : Prop} (h : Hid p) : p := h.out
/-- The variables of the library that the scanner reads. -/
structure Vars (w : World) : Prop where
  maxlen : ∃ m, w.cell? ⟨2, 0, none⟩ = some (.int .i64 m)
  syn : ∃ ev, w.cell? ⟨0, 0, none⟩ = some ev ∧ (ev = .nilIface ∨ ∃ te pe, ev = .iface te pe)
  rng : ∃ ev, w.cell? ⟨1, 0, none⟩ = some ev ∧ (ev = .nilIface ∨ ∃ te pe, ev = .iface te pe)
  tab : Lib.TabIs Tryz.prog w "internal/strconv.uint64pow10" .u64 Lib.pow10Tab
  blk : 8 ≤ w.heap.size
theorem tab_same {w w' : World} (h : w'.heap[5]? = w.heap[5]?) : Lib.TabIs Tryz.prog w "internal/strconv.uint64pow10" .u64 Lib.pow10Tab → Lib.TabIs Tryz.prog w' "internal/strconv.uint64pow10" .u64 Lib.pow10Tab := by
  unfold Lib.TabIs World.var?
  rw [show Tryz.prog.globalNamed "internal/strconv.uint64pow10" = some 5 by kernel_rfl]
  simp only [Option.bind_some]
  rw [h]
  exact id
theorem Vars.kept {S : Nat → Prop} {w w' : World} (h : Vars w) (hk : Kept S w w') (hS : ∀ k, k < 8 → ¬ S k) : Vars w' := by
  have hb := h.blk
  have hc : ∀ k, k < 8 → w'.cell? ⟨k, 0, none⟩ = w.cell? ⟨k, 0, none⟩ := fun k hk8 => World.cell?_of_block (a := ⟨k, 0, none⟩) (hk.block k (by omega) (hS k hk8))
  exact ⟨by rw [hc 2 (by omega)]; exact h.maxlen, by rw [hc 0 (by omega)]; exact h.syn, by rw [hc 1 (by omega)]; exact h.rng, tab_same (hk.block 5 (by omega) (hS 5 (by omega))) h.tab, Nat.le_trans hb hk.size⟩
theorem Vars.keep {w w' : World} (h : Vars w) (hk : Keeps w w') : Vars w' := h.kept hk (fun _ _ x => x)
theorem keeps_below {w w' : World} (h : Below w.heap.size w w') : Keeps w w' := ⟨h.os, h.tape, h.output, h.size, fun k hk _ => h.block k hk⟩
theorem keeps_grow (w : World) (k : Nat) (os : Array Obj) : Keeps w (Sort.grow (w.drewN k) os) :=
  ⟨rfl, rfl, rfl, by simp [Sort.grow], fun i hi _ => by
    show ((w.drewN k).heap ++ os)[i]? = _
    rw [Array.getElem?_append_left (by simpa using hi)]; rfl⟩
theorem keeps_bytes (w : World) (e : TypeId) (s : ByteArray) : Keeps w (Lib.bytesWorld w e s) := by
  refine ⟨rfl, rfl, rfl, ?_, fun i hi _ => ?_⟩
  · simp [Lib.bytesWorld, World.freeze]
  · unfold Lib.bytesWorld World.freeze
    rw [if_neg (by decide)]
    show ((w.drew.alloc (Obj.cells (Lib.bytesCells w e s) e)).heap.modify _ _)[i]? = _
    rw [Array.getElem?_modify, if_neg (by show ¬ w.heap.size = i; omega)]
    exact Below.heap_alloc _ _ _ hi

theorem replaceK_len (old new : List UInt8) (k : Nat) (hk : k ≤ 1) (s : List UInt8) : (Lib.replaceK old new k s).length ≤ s.length + new.length := by
  match k, hk with
  | 0, _ => rw [Lib.replaceK]; omega
  | 1, _ =>
    rw [Lib.replaceK]
    split
    · omega
    · rw [Lib.replaceK]
      simp only [List.length_append, List.length_take, List.length_drop]
      omega
theorem replace_len (s old new : List UInt8) : (Lib.replace s old new 1).length ≤ s.length + new.length := by
  unfold Lib.replace
  split
  · omega
  · refine replaceK_len old new _ ?_ s
    unfold Lib.replaceNum
    split
    · rename_i h
      rcases h with h | h
      · omega
      · omega
    · simp
theorem replace_any (s old new : ByteArray) (w : World) (hw : Vars w) (hs : s.size ≤ 1000) (h1 : old.size = 1) (h2 : new.size = 1) :
    Calls Tryz.prog 173 #[.string s, .string old, .string new, .int .i64 1] w fun e w' => (∃ r : ByteArray, e = .returned (.string r) ∧ r.size ≤ s.size + 1) ∧ Keeps w w' := by
  obtain ⟨m, hm⟩ := hw.maxlen
  have hc := Lib.countB_mul_le old (by omega) s.size s (Nat.le_refl _)
  refine (Tryz.strings_Replace s old new 1 m w (by omega) hm (by omega) (by rw [h2]; rw [h1] at hc; omega)).mono ?_
  rintro e w' ⟨rfl, hb⟩
  refine ⟨⟨_, rfl, ?_⟩, keeps_below hb⟩
  have := replace_len s.data.toList old.data.toList new.data.toList
  have e2 : new.data.toList.length = 1 := by simpa using h2
  rw [e2] at this
  have e1 : s.data.toList.length = s.size := by simp
  rw [e1] at this
  show (List.toArray _).size ≤ s.size + 1
  rw [List.size_toArray]
  exact this

theorem atoi_any (s : ByteArray) (w : World) (hw : Vars w) (hs : s.size ≤ 100000) :
    Calls Tryz.prog 172 #[.string s] w fun e w' => (∃ n : Int, ∃ ev, e = .returned (.tuple #[.int .i64 n, ev]) ∧ ((∃ te pe, ev = .iface te pe) ∨ (ev = .nilIface ∧ -9223372036854775808 ≤ n ∧ n ≤ 9223372036854775807))) ∧ Keeps w w' := by
  cases h : Lib.atoiAll s.data.toList with
  | ok v =>
    refine (Tryz.strconv_Atoi_ok s (by omega) v h w).mono ?_
    rintro e w' ⟨rfl, hw'⟩
    refine ⟨⟨v, _, rfl, .inr ⟨rfl, ?_⟩⟩, ?_⟩
    · unfold Lib.atoiAll at h
      split at h
      · cases h
      · rename_i c r
        simp only at h
        split at h
        · cases h
        · cases h
        · split at h
          · cases h
          · split at h
            · cases h
            · injection h with h
              subst h
              split <;> omega
    · rcases hw' with rfl | ⟨t, rfl⟩
      · exact Keeps.refl _
      · exact keeps_bytes _ _ _
  | range =>
    obtain ⟨ev, h1, h2⟩ := hw.rng
    refine (Tryz.strconv_Atoi_range s (by omega) h ev w h1 h2).mono ?_
    rintro e w' ⟨N, rfl, _, _, hb⟩
    exact ⟨⟨_, _, rfl, .inl ⟨_, _, rfl⟩⟩, keeps_below hb⟩
  | _ =>
    obtain ⟨ev, h1, h2⟩ := hw.syn
    refine (Tryz.strconv_Atoi_syntax s (by omega) (fun v hh => by rw [h] at hh; cases hh) (fun hh => by rw [h] at hh; cases hh) ev w h1 h2).mono ?_
    rintro e w' ⟨N, rfl, _, _, hb⟩
    exact ⟨⟨_, _, rfl, .inl ⟨_, _, rfl⟩⟩, keeps_below hb⟩

theorem digits_any (n : Int) (h0 : -9223372036854775808 ≤ n) (h1 : n ≤ 9223372036854775807) (w : World) (hw : Vars w) :
    Calls Tryz.prog 174 #[.int .i64 n] w fun e w' => (∃ r : ByteArray, e = .returned (.string r)) ∧ Keeps w w' := by
  have HV := Lib.hid hw
  have hl := Lib.itoa_length_le n h0 h1
  clear hw
  obtain ⟨tx, htx⟩ : ∃ tx : ByteArray, tx = ⟨(Lib.itoa n).toArray⟩ := ⟨_, rfl⟩
  have hts : tx.size ≤ 21 := by rw [htx]; simpa [ByteArray.size] using hl
  have HI : Hid (Calls Tryz.prog 175 #[.int .i64 n] w fun e w' => e = .returned (.string tx) ∧ Keeps w w') := Lib.hid ((Tryz.strconv_Itoa n h0 h1 w HV.out.tab).mono (by rintro e w' ⟨rfl, k, os, rfl⟩; exact ⟨by rw [htx], keeps_grow _ _ _⟩))
  clear htx hl
  go_enter Tryz.func174, Tryz.ntmps174
  go_wp2_with (go_at_call 175; refine holdN ?_)
  refine Lib.hid ?_
  refine HI.out.mono ?_
  rintro _ w2 ⟨rfl, hk2⟩
  go_wp2_with (go_at_call 173; refine holdN ?_)
  refine Lib.hid ?_
  refine (replace_any tx _ _ w2 (HV.out.keep hk2) (by omega) rfl rfl).mono ?_
  rintro _ w3 ⟨⟨r, rfl, hr⟩, hk3⟩
  have HK := Lib.hid (Keeps.trans hk2 hk3)
  clear hk2 hk3 hr
  go_wp2_with fail
  go_ret
  exact ⟨⟨r, rfl⟩, HK.out⟩
set_option maxHeartbeats 1600000 in
theorem lexNumber_any (s : ByteArray) (w : World) (hw : Vars w) (hs : s.size ≤ 100) :
    Calls Tryz.prog 125 #[.string s] w fun e w' => (∃ n k : Int, e = .returned (.tuple #[.int .i64 n, .int .i64 k])) ∧ Keeps w w' := by
  have HV := Lib.hid hw
  clear hw
  go_enter Tryz.func125, Tryz.ntmps125
  go_wp2_with (go_at_call 173; refine holdN ?_)
  refine Lib.hid ?_
  refine (replace_any s _ _ w HV.out (by omega) rfl rfl).mono ?_
  rintro _ w2 ⟨⟨r, rfl, hr⟩, hk2⟩
  go_wp2_with (go_at_call 172; refine holdN ?_)
  refine Lib.hid ?_
  refine (atoi_any r w2 (HV.out.keep hk2) (by omega)).mono ?_
  rintro _ w3 ⟨⟨n, ev, rfl, hev⟩, hk3⟩
  replace hk3 := Keeps.trans hk2 hk3
  clear hk2 hr
  rcases hev with ⟨te, pe, rfl⟩ | ⟨rfl, h0, h1⟩
  · go_wp2_with fail
    go_ret2
    exact ⟨⟨_, _, rfl⟩, hk3⟩
  · go_wp2_with (go_at_call 174; refine holdN ?_)
    refine Lib.hid ?_
    refine (digits_any n h0 h1 w3 (HV.out.keep hk3)).mono ?_
    rintro _ w4 ⟨⟨t, rfl⟩, hk4⟩
    replace hk4 := Keeps.trans hk3 hk4
    clear hk3
    go_wp2_with fail
    all_goals (go_ret2; exact ⟨⟨_, _, rfl⟩, hk4⟩)
end Go.Proofs.YtfehlbepjmmkeaaGreatDoor
