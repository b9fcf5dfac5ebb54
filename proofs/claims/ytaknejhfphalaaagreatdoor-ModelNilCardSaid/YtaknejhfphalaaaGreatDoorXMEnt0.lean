import Derived.Test.YtaknejhfphalaaaGreatDoorXMSeat
/-
  Calls proved by themselves: small ones.
-/
namespace Go.X
open Go Go.Proofs
set_option maxRecDepth 100000
def e_f0 : Entry := { g := 179, args := [.string ⟨#[97, 110, 100, 32, 97, 115, 32, 98, 121, 32, 99, 97, 108, 108, 32, 99, 114, 101, 97, 116, 101, 32, 100, 101, 108, 101, 116, 101, 32, 100, 101, 115, 99, 32, 100, 114, 111, 112, 32, 102, 97, 108, 115, 101, 32, 102, 114, 111, 109, 32, 103, 114, 111, 117, 112, 32, 104, 97, 118, 105, 110, 103, 32, 105, 110, 115, 101, 114, 116, 32, 105, 110, 116, 111, 32, 105, 115, 32, 108, 105, 109, 105, 116, 32, 110, 111, 116, 32, 110, 117, 108, 108, 32, 111, 110, 108, 121, 32, 111, 114, 32, 111, 114, 100, 101, 114, 32, 115, 101, 108, 101, 99, 116, 32, 115, 101, 116, 32, 116, 114, 117, 101, 32, 117, 112, 100, 97, 116, 101, 32, 118, 97, 108, 117, 101, 115, 32, 119, 104, 101, 114, 101]⟩], v := .slice (some ⟨15, 0, none⟩) 27 1, os := [.cells [.string ⟨#[97, 110, 100]⟩, .string ⟨#[97, 115]⟩, .string ⟨#[98, 121]⟩, .string ⟨#[99, 97, 108, 108]⟩, .string ⟨#[99, 114, 101, 97, 116, 101]⟩, .string ⟨#[100, 101, 108, 101, 116, 101]⟩, .string ⟨#[100, 101, 115, 99]⟩, .string ⟨#[100, 114, 111, 112]⟩, .string ⟨#[102, 97, 108, 115, 101]⟩, .string ⟨#[102, 114, 111, 109]⟩, .string ⟨#[103, 114, 111, 117, 112]⟩, .string ⟨#[104, 97, 118, 105, 110, 103]⟩, .string ⟨#[105, 110, 115, 101, 114, 116]⟩, .string ⟨#[105, 110, 116, 111]⟩, .string ⟨#[105, 115]⟩, .string ⟨#[108, 105, 109, 105, 116]⟩, .string ⟨#[110, 111, 116]⟩, .string ⟨#[110, 117, 108, 108]⟩, .string ⟨#[111, 110, 108, 121]⟩, .string ⟨#[111, 114]⟩, .string ⟨#[111, 114, 100, 101, 114]⟩, .string ⟨#[115, 101, 108, 101, 99, 116]⟩, .string ⟨#[115, 101, 116]⟩, .string ⟨#[116, 114, 117, 101]⟩, .string ⟨#[117, 112, 100, 97, 116, 101]⟩, .string ⟨#[118, 97, 108, 117, 101, 115]⟩, .string ⟨#[119, 104, 101, 114, 101]⟩] 9 true] }
def e_f1 : Entry := { g := 179, args := [.string ⟨#[60, 62, 32, 60, 61, 32, 62, 61, 32, 40, 32, 41, 32, 44, 32, 42, 32, 43, 32, 45, 32, 47, 32, 37, 32, 61, 32, 60, 32, 62, 32, 59]⟩], v := .slice (some ⟨15, 0, none⟩) 15 1, os := [.cells [.string ⟨#[60, 62]⟩, .string ⟨#[60, 61]⟩, .string ⟨#[62, 61]⟩, .string ⟨#[40]⟩, .string ⟨#[41]⟩, .string ⟨#[44]⟩, .string ⟨#[42]⟩, .string ⟨#[43]⟩, .string ⟨#[45]⟩, .string ⟨#[47]⟩, .string ⟨#[37]⟩, .string ⟨#[61]⟩, .string ⟨#[60]⟩, .string ⟨#[62]⟩, .string ⟨#[59]⟩] 9 true] }
def e_res0 : Entry := { g := 259, args := [], v := .map (some 15), os := [.map [⟨.string ⟨#[97, 110, 100]⟩, .bool true, 0⟩, ⟨.string ⟨#[97, 115]⟩, .bool true, 1⟩, ⟨.string ⟨#[98, 121]⟩, .bool true, 2⟩, ⟨.string ⟨#[99, 97, 108, 108]⟩, .bool true, 3⟩, ⟨.string ⟨#[99, 114, 101, 97, 116, 101]⟩, .bool true, 4⟩, ⟨.string ⟨#[100, 101, 108, 101, 116, 101]⟩, .bool true, 5⟩, ⟨.string ⟨#[100, 101, 115, 99]⟩, .bool true, 6⟩, ⟨.string ⟨#[100, 114, 111, 112]⟩, .bool true, 7⟩, ⟨.string ⟨#[102, 97, 108, 115, 101]⟩, .bool true, 8⟩, ⟨.string ⟨#[102, 114, 111, 109]⟩, .bool true, 9⟩, ⟨.string ⟨#[103, 114, 111, 117, 112]⟩, .bool true, 10⟩, ⟨.string ⟨#[104, 97, 118, 105, 110, 103]⟩, .bool true, 11⟩, ⟨.string ⟨#[105, 110, 115, 101, 114, 116]⟩, .bool true, 12⟩, ⟨.string ⟨#[105, 110, 116, 111]⟩, .bool true, 13⟩, ⟨.string ⟨#[105, 115]⟩, .bool true, 14⟩, ⟨.string ⟨#[108, 105, 109, 105, 116]⟩, .bool true, 15⟩, ⟨.string ⟨#[110, 111, 116]⟩, .bool true, 16⟩, ⟨.string ⟨#[110, 117, 108, 108]⟩, .bool true, 17⟩, ⟨.string ⟨#[111, 110, 108, 121]⟩, .bool true, 18⟩, ⟨.string ⟨#[111, 114]⟩, .bool true, 19⟩, ⟨.string ⟨#[111, 114, 100, 101, 114]⟩, .bool true, 20⟩, ⟨.string ⟨#[115, 101, 108, 101, 99, 116]⟩, .bool true, 21⟩, ⟨.string ⟨#[115, 101, 116]⟩, .bool true, 22⟩, ⟨.string ⟨#[116, 114, 117, 101]⟩, .bool true, 23⟩, ⟨.string ⟨#[117, 112, 100, 97, 116, 101]⟩, .bool true, 24⟩, ⟨.string ⟨#[118, 97, 108, 117, 101, 115]⟩, .bool true, 25⟩, ⟨.string ⟨#[119, 104, 101, 114, 101]⟩, .bool true, 26⟩] 27] }
def e_low0 : Entry := { g := 175, args := [.string ⟨#[116]⟩], v := .string ⟨#[116]⟩, os := [] }
def e_low1 : Entry := { g := 175, args := [.string ⟨#[116, 105, 109, 101]⟩], v := .string ⟨#[116, 105, 109, 101]⟩, os := [] }
def e_low2 : Entry := { g := 175, args := [.string ⟨#[118]⟩], v := .string ⟨#[118]⟩, os := [] }
def e_low3 : Entry := { g := 175, args := [.string ⟨#[67, 82, 69, 65, 84, 69]⟩], v := .string ⟨#[99, 114, 101, 97, 116, 101]⟩, os := [] }
def e_low4 : Entry := { g := 175, args := [.string ⟨#[84, 65, 66, 76, 69]⟩], v := .string ⟨#[116, 97, 98, 108, 101]⟩, os := [] }
def e_low5 : Entry := { g := 175, args := [.string ⟨#[73, 78, 84]⟩], v := .string ⟨#[105, 110, 116]⟩, os := [] }
def e_low6 : Entry := { g := 175, args := [.string ⟨#[84, 73, 77, 69]⟩], v := .string ⟨#[116, 105, 109, 101]⟩, os := [] }
def e_low7 : Entry := { g := 175, args := [.string ⟨#[69, 86, 69, 82, 89]⟩], v := .string ⟨#[101, 118, 101, 114, 121]⟩, os := [] }
def e_low8 : Entry := { g := 175, args := [.string ⟨#[104]⟩], v := .string ⟨#[104]⟩, os := [] }
def e_low9 : Entry := { g := 175, args := [.string ⟨#[98, 117, 99, 107, 101, 116]⟩], v := .string ⟨#[98, 117, 99, 107, 101, 116]⟩, os := [] }
def e_low10 : Entry := { g := 175, args := [.string ⟨#[65, 83]⟩], v := .string ⟨#[97, 115]⟩, os := [] }
def e_low11 : Entry := { g := 175, args := [.string ⟨#[97, 115]⟩], v := .string ⟨#[97, 115]⟩, os := [] }
def e_low12 : Entry := { g := 175, args := [.string ⟨#[99, 114, 101, 97, 116, 101]⟩], v := .string ⟨#[99, 114, 101, 97, 116, 101]⟩, os := [] }
def e_low13 : Entry := { g := 175, args := [.string ⟨#[105, 110, 116]⟩], v := .string ⟨#[105, 110, 116]⟩, os := [] }
def e_low14 : Entry := { g := 175, args := [.string ⟨#[101, 118, 101, 114, 121]⟩], v := .string ⟨#[101, 118, 101, 114, 121]⟩, os := [] }
def e_low15 : Entry := { g := 175, args := [.string ⟨#[115, 117, 109]⟩], v := .string ⟨#[115, 117, 109]⟩, os := [] }
def e_low16 : Entry := { g := 175, args := [.string ⟨#[115]⟩], v := .string ⟨#[115]⟩, os := [] }
def e_low17 : Entry := { g := 175, args := [.string ⟨#[70, 82, 79, 77]⟩], v := .string ⟨#[102, 114, 111, 109]⟩, os := [] }
def e_low18 : Entry := { g := 175, args := [.string ⟨#[84, 79]⟩], v := .string ⟨#[116, 111]⟩, os := [] }
def e_low19 : Entry := { g := 175, args := [.string ⟨#[82, 69, 70, 82, 69, 83, 72]⟩], v := .string ⟨#[114, 101, 102, 114, 101, 115, 104]⟩, os := [] }
def e_opns0 : Entry := { g := 284, args := [], v := .map (some 15), os := [.map [⟨.int .u8 (.ofNat 3), .agg #[.int .i64 (.ofNat 1), .int .u8 (.ofNat 2), .int .u8 (.ofNat 2), .bool false, .bool false, .func (.func 357) #[] #[]], 0⟩, ⟨.int .u8 (.ofNat 4), .agg #[.int .i64 (.ofNat 1), .int .u8 (.ofNat 1), .int .u8 (.ofNat 1), .bool false, .bool false, .func (.func 359) #[] #[]], 1⟩, ⟨.int .u8 (.ofNat 5), .agg #[.int .i64 (.ofNat 2), .int .u8 (.ofNat 2), .int .u8 (.ofNat 2), .bool false, .bool false, .func (.func 432) #[] #[.pointer (some ⟨16, 0, none⟩)]], 2⟩, ⟨.int .u8 (.ofNat 6), .agg #[.int .i64 (.ofNat 2), .int .u8 (.ofNat 2), .int .u8 (.ofNat 2), .bool false, .bool false, .func (.func 432) #[] #[.pointer (some ⟨17, 0, none⟩)]], 3⟩, ⟨.int .u8 (.ofNat 7), .agg #[.int .i64 (.ofNat 2), .int .u8 (.ofNat 2), .int .u8 (.ofNat 2), .bool false, .bool false, .func (.func 432) #[] #[.pointer (some ⟨18, 0, none⟩)]], 4⟩, ⟨.int .u8 (.ofNat 8), .agg #[.int .i64 (.ofNat 2), .int .u8 (.ofNat 2), .int .u8 (.ofNat 2), .bool false, .bool false, .func (.func 432) #[] #[.pointer (some ⟨19, 0, none⟩)]], 5⟩, ⟨.int .u8 (.ofNat 9), .agg #[.int .i64 (.ofNat 2), .int .u8 (.ofNat 2), .int .u8 (.ofNat 2), .bool false, .bool false, .func (.func 432) #[] #[.pointer (some ⟨20, 0, none⟩)]], 6⟩, ⟨.int .u8 (.ofNat 10), .agg #[.int .i64 (.ofNat 2), .int .u8 (.ofNat 0), .int .u8 (.ofNat 1), .bool true, .bool false, .func (.func 434) #[] #[.pointer (some ⟨21, 0, none⟩)]], 7⟩, ⟨.int .u8 (.ofNat 11), .agg #[.int .i64 (.ofNat 2), .int .u8 (.ofNat 0), .int .u8 (.ofNat 1), .bool true, .bool false, .func (.func 434) #[] #[.pointer (some ⟨22, 0, none⟩)]], 8⟩, ⟨.int .u8 (.ofNat 12), .agg #[.int .i64 (.ofNat 2), .int .u8 (.ofNat 0), .int .u8 (.ofNat 1), .bool true, .bool false, .func (.func 434) #[] #[.pointer (some ⟨23, 0, none⟩)]], 9⟩, ⟨.int .u8 (.ofNat 13), .agg #[.int .i64 (.ofNat 2), .int .u8 (.ofNat 0), .int .u8 (.ofNat 1), .bool true, .bool false, .func (.func 434) #[] #[.pointer (some ⟨24, 0, none⟩)]], 10⟩, ⟨.int .u8 (.ofNat 14), .agg #[.int .i64 (.ofNat 2), .int .u8 (.ofNat 0), .int .u8 (.ofNat 1), .bool true, .bool false, .func (.func 434) #[] #[.pointer (some ⟨25, 0, none⟩)]], 11⟩, ⟨.int .u8 (.ofNat 15), .agg #[.int .i64 (.ofNat 2), .int .u8 (.ofNat 0), .int .u8 (.ofNat 1), .bool true, .bool false, .func (.func 434) #[] #[.pointer (some ⟨26, 0, none⟩)]], 12⟩, ⟨.int .u8 (.ofNat 16), .agg #[.int .i64 (.ofNat 2), .int .u8 (.ofNat 1), .int .u8 (.ofNat 1), .bool false, .bool true, .func (.func 435) #[] #[.pointer (some ⟨27, 0, none⟩)]], 13⟩, ⟨.int .u8 (.ofNat 17), .agg #[.int .i64 (.ofNat 2), .int .u8 (.ofNat 1), .int .u8 (.ofNat 1), .bool false, .bool true, .func (.func 435) #[] #[.pointer (some ⟨28, 0, none⟩)]], 14⟩, ⟨.int .u8 (.ofNat 18), .agg #[.int .i64 (.ofNat 1), .int .u8 (.ofNat 0), .int .u8 (.ofNat 1), .bool false, .bool true, .func (.func 437) #[] #[.pointer (some ⟨29, 0, none⟩)]], 15⟩, ⟨.int .u8 (.ofNat 19), .agg #[.int .i64 (.ofNat 1), .int .u8 (.ofNat 0), .int .u8 (.ofNat 1), .bool false, .bool true, .func (.func 437) #[] #[.pointer (some ⟨30, 0, none⟩)]], 16⟩, ⟨.int .u8 (.ofNat 20), .agg #[.int .i64 (.ofNat 1), .int .u8 (.ofNat 2), .int .u8 (.ofNat 2), .bool false, .bool false, .func (.func 377) #[] #[]], 17⟩] 18, .cells [.func (.func 362) #[] #[]] 444 true, .cells [.func (.func 363) #[] #[]] 444 true, .cells [.func (.func 364) #[] #[]] 444 true, .cells [.func (.func 433) #[] #[.pointer (some ⟨31, 0, none⟩)]] 444 true, .cells [.func (.func 433) #[] #[.pointer (some ⟨32, 0, none⟩)]] 444 true, .cells [.func (.func 369) #[] #[]] 446 true, .cells [.func (.func 370) #[] #[]] 446 true, .cells [.func (.func 371) #[] #[]] 446 true, .cells [.func (.func 372) #[] #[]] 446 true, .cells [.func (.func 373) #[] #[]] 446 true, .cells [.func (.func 374) #[] #[]] 446 true, .cells [.bool false] 4 true, .cells [.bool true] 4 true, .cells [.bool true] 4 true, .cells [.bool false] 4 true, .cells [.func (.func 366) #[] #[]] 444 true, .cells [.func (.func 367) #[] #[]] 444 true] }
def e_doing0 : Entry := { g := 395, args := [], v := .map (some 15), os := [.map [⟨.int .u8 (.ofNat 21), .agg #[.func (.func 446) #[] #[], .func (.func 447) #[] #[], .int .i64 (.ofNat 0)], 0⟩, ⟨.int .u8 (.ofNat 22), .agg #[.func (.func 448) #[] #[], .func (.func 449) #[] #[], .int .i64 (.ofNat 1)], 1⟩, ⟨.int .u8 (.ofNat 23), .agg #[.func (.func 450) #[] #[], .func (.func 451) #[] #[], .int .i64 (.ofNat 1)], 2⟩, ⟨.int .u8 (.ofNat 26), .agg #[.func (.func 450) #[] #[], .func (.func 452) #[] #[], .int .i64 (.ofNat 1)], 3⟩, ⟨.int .u8 (.ofNat 24), .agg #[.func (.func 453) #[] #[], .func (.func 454) #[] #[], .int .i64 (.ofNat 1)], 4⟩, ⟨.int .u8 (.ofNat 25), .agg #[.func (.func 453) #[] #[], .func (.func 454) #[] #[], .int .i64 (.ofNat 1)], 5⟩, ⟨.int .u8 (.ofNat 27), .agg #[.func (.func 455) #[] #[], .func (.func 454) #[] #[], .int .i64 (.ofNat 2)], 6⟩, ⟨.int .u8 (.ofNat 28), .agg #[.func (.func 455) #[] #[], .func (.func 454) #[] #[], .int .i64 (.ofNat 2)], 7⟩] 8] }
theorem ok_f0 : EntryOK cx e_f0 := entry_sound cx_ok quiet_ok (hs := []) (k := 1000) (ro := [15]) (fun _ h => by cases h) (by kernel_rfl) (by kernel_rfl)
theorem ok_f1 : EntryOK cx e_f1 := entry_sound cx_ok quiet_ok (hs := []) (k := 1000) (ro := [15]) (fun _ h => by cases h) (by kernel_rfl) (by kernel_rfl)
def hs_res : List Entry := [e_f0]
theorem hs_res_ok : ∀ E, E ∈ hs_res → EntryOK cx E := by
  intro E h
  simp only [hs_res, List.mem_cons, List.not_mem_nil, or_false] at h
  rw [h]; exact ok_f0
theorem ok_res0 : EntryOK cx e_res0 := entry_sound cx_ok quiet_ok (hs := hs_res) (k := 1000) (ro := [15]) hs_res_ok (by kernel_rfl) (by kernel_rfl)
theorem ok_low0 : EntryOK cx e_low0 := entry_sound cx_ok quiet_ok (hs := []) (k := 1000) (ro := []) (fun _ h => by cases h) (by kernel_rfl) (by kernel_rfl)
theorem ok_low1 : EntryOK cx e_low1 := entry_sound cx_ok quiet_ok (hs := []) (k := 1000) (ro := []) (fun _ h => by cases h) (by kernel_rfl) (by kernel_rfl)
theorem ok_low2 : EntryOK cx e_low2 := entry_sound cx_ok quiet_ok (hs := []) (k := 1000) (ro := []) (fun _ h => by cases h) (by kernel_rfl) (by kernel_rfl)
theorem ok_low3 : EntryOK cx e_low3 := entry_sound cx_ok quiet_ok (hs := []) (k := 1000) (ro := []) (fun _ h => by cases h) (by kernel_rfl) (by kernel_rfl)
theorem ok_low4 : EntryOK cx e_low4 := entry_sound cx_ok quiet_ok (hs := []) (k := 1000) (ro := []) (fun _ h => by cases h) (by kernel_rfl) (by kernel_rfl)
theorem ok_low5 : EntryOK cx e_low5 := entry_sound cx_ok quiet_ok (hs := []) (k := 1000) (ro := []) (fun _ h => by cases h) (by kernel_rfl) (by kernel_rfl)
theorem ok_low6 : EntryOK cx e_low6 := entry_sound cx_ok quiet_ok (hs := []) (k := 1000) (ro := []) (fun _ h => by cases h) (by kernel_rfl) (by kernel_rfl)
theorem ok_low7 : EntryOK cx e_low7 := entry_sound cx_ok quiet_ok (hs := []) (k := 1000) (ro := []) (fun _ h => by cases h) (by kernel_rfl) (by kernel_rfl)
theorem ok_low8 : EntryOK cx e_low8 := entry_sound cx_ok quiet_ok (hs := []) (k := 1000) (ro := []) (fun _ h => by cases h) (by kernel_rfl) (by kernel_rfl)
theorem ok_low9 : EntryOK cx e_low9 := entry_sound cx_ok quiet_ok (hs := []) (k := 1000) (ro := []) (fun _ h => by cases h) (by kernel_rfl) (by kernel_rfl)
theorem ok_low10 : EntryOK cx e_low10 := entry_sound cx_ok quiet_ok (hs := []) (k := 1000) (ro := []) (fun _ h => by cases h) (by kernel_rfl) (by kernel_rfl)
theorem ok_low11 : EntryOK cx e_low11 := entry_sound cx_ok quiet_ok (hs := []) (k := 1000) (ro := []) (fun _ h => by cases h) (by kernel_rfl) (by kernel_rfl)
theorem ok_low12 : EntryOK cx e_low12 := entry_sound cx_ok quiet_ok (hs := []) (k := 1000) (ro := []) (fun _ h => by cases h) (by kernel_rfl) (by kernel_rfl)
theorem ok_low13 : EntryOK cx e_low13 := entry_sound cx_ok quiet_ok (hs := []) (k := 1000) (ro := []) (fun _ h => by cases h) (by kernel_rfl) (by kernel_rfl)
theorem ok_low14 : EntryOK cx e_low14 := entry_sound cx_ok quiet_ok (hs := []) (k := 1000) (ro := []) (fun _ h => by cases h) (by kernel_rfl) (by kernel_rfl)
theorem ok_low15 : EntryOK cx e_low15 := entry_sound cx_ok quiet_ok (hs := []) (k := 1000) (ro := []) (fun _ h => by cases h) (by kernel_rfl) (by kernel_rfl)
theorem ok_low16 : EntryOK cx e_low16 := entry_sound cx_ok quiet_ok (hs := []) (k := 1000) (ro := []) (fun _ h => by cases h) (by kernel_rfl) (by kernel_rfl)
theorem ok_low17 : EntryOK cx e_low17 := entry_sound cx_ok quiet_ok (hs := []) (k := 1000) (ro := []) (fun _ h => by cases h) (by kernel_rfl) (by kernel_rfl)
theorem ok_low18 : EntryOK cx e_low18 := entry_sound cx_ok quiet_ok (hs := []) (k := 1000) (ro := []) (fun _ h => by cases h) (by kernel_rfl) (by kernel_rfl)
theorem ok_low19 : EntryOK cx e_low19 := entry_sound cx_ok quiet_ok (hs := []) (k := 1000) (ro := []) (fun _ h => by cases h) (by kernel_rfl) (by kernel_rfl)
theorem ok_opns0 : EntryOK cx e_opns0 := entry_sound cx_ok quiet_ok (hs := []) (k := 1000) (ro := [15, 16, 18, 20, 24, 28, 30, 32, 34, 36, 38, 40, 42, 44, 46, 48, 22, 26]) (fun _ h => by cases h) (by kernel_rfl) (by kernel_rfl)
theorem ok_doing0 : EntryOK cx e_doing0 := entry_sound cx_ok quiet_ok (hs := []) (k := 1000) (ro := [15]) (fun _ h => by cases h) (by kernel_rfl) (by kernel_rfl)
def hs_lex : List Entry := [e_f1, e_low0, e_low1, e_low2, e_low3, e_low4, e_low5, e_low6, e_low7, e_low8, e_low9, e_low10, e_low11, e_low12, e_low13, e_low14, e_low15, e_low16, e_low17, e_low18, e_low19]
theorem hs_lex_ok : ∀ E, E ∈ hs_lex → EntryOK cx E := by
  intro E h
  simp only [hs_lex, List.mem_cons, List.not_mem_nil, or_false] at h
  rcases h with rfl | rfl | rfl | rfl | rfl | rfl | rfl | rfl | rfl | rfl | rfl | rfl | rfl | rfl | rfl | rfl | rfl | rfl | rfl | rfl | rfl
  · exact ok_f1
  · exact ok_low0
  · exact ok_low1
  · exact ok_low2
  · exact ok_low3
  · exact ok_low4
  · exact ok_low5
  · exact ok_low6
  · exact ok_low7
  · exact ok_low8
  · exact ok_low9
  · exact ok_low10
  · exact ok_low11
  · exact ok_low12
  · exact ok_low13
  · exact ok_low14
  · exact ok_low15
  · exact ok_low16
  · exact ok_low17
  · exact ok_low18
  · exact ok_low19
end Go.X
