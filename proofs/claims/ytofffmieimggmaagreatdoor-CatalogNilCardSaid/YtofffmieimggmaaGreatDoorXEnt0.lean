import Derived.Test.YtofffmieimggmaaGreatDoorXSeat2
/-
  Calls proved by themselves: small ones.
-/
namespace Go.X
open Go Go.Proofs
set_option maxRecDepth 100000
def e_f0 : Entry := { g := 192, args := [.string ⟨#[97, 110, 100, 32, 97, 115, 32, 98, 121, 32, 99, 97, 108, 108, 32, 99, 114, 101, 97, 116, 101, 32, 100, 101, 108, 101, 116, 101, 32, 100, 101, 115, 99, 32, 100, 114, 111, 112, 32, 102, 97, 108, 115, 101, 32, 102, 114, 111, 109, 32, 103, 114, 111, 117, 112, 32, 104, 97, 118, 105, 110, 103, 32, 105, 110, 115, 101, 114, 116, 32, 105, 110, 116, 111, 32, 105, 115, 32, 108, 105, 109, 105, 116, 32, 110, 111, 116, 32, 110, 117, 108, 108, 32, 111, 110, 108, 121, 32, 111, 114, 32, 111, 114, 100, 101, 114, 32, 115, 101, 108, 101, 99, 116, 32, 115, 101, 116, 32, 116, 114, 117, 101, 32, 117, 112, 100, 97, 116, 101, 32, 118, 97, 108, 117, 101, 115, 32, 119, 104, 101, 114, 101]⟩], v := .slice (some ⟨14, 0, none⟩) 27 1, os := [.cells [.string ⟨#[97, 110, 100]⟩, .string ⟨#[97, 115]⟩, .string ⟨#[98, 121]⟩, .string ⟨#[99, 97, 108, 108]⟩, .string ⟨#[99, 114, 101, 97, 116, 101]⟩, .string ⟨#[100, 101, 108, 101, 116, 101]⟩, .string ⟨#[100, 101, 115, 99]⟩, .string ⟨#[100, 114, 111, 112]⟩, .string ⟨#[102, 97, 108, 115, 101]⟩, .string ⟨#[102, 114, 111, 109]⟩, .string ⟨#[103, 114, 111, 117, 112]⟩, .string ⟨#[104, 97, 118, 105, 110, 103]⟩, .string ⟨#[105, 110, 115, 101, 114, 116]⟩, .string ⟨#[105, 110, 116, 111]⟩, .string ⟨#[105, 115]⟩, .string ⟨#[108, 105, 109, 105, 116]⟩, .string ⟨#[110, 111, 116]⟩, .string ⟨#[110, 117, 108, 108]⟩, .string ⟨#[111, 110, 108, 121]⟩, .string ⟨#[111, 114]⟩, .string ⟨#[111, 114, 100, 101, 114]⟩, .string ⟨#[115, 101, 108, 101, 99, 116]⟩, .string ⟨#[115, 101, 116]⟩, .string ⟨#[116, 114, 117, 101]⟩, .string ⟨#[117, 112, 100, 97, 116, 101]⟩, .string ⟨#[118, 97, 108, 117, 101, 115]⟩, .string ⟨#[119, 104, 101, 114, 101]⟩] 9 true] }
def e_f1 : Entry := { g := 192, args := [.string ⟨#[60, 62, 32, 60, 61, 32, 62, 61, 32, 40, 32, 41, 32, 44, 32, 42, 32, 43, 32, 45, 32, 47, 32, 37, 32, 61, 32, 60, 32, 62, 32, 59]⟩], v := .slice (some ⟨14, 0, none⟩) 15 1, os := [.cells [.string ⟨#[60, 62]⟩, .string ⟨#[60, 61]⟩, .string ⟨#[62, 61]⟩, .string ⟨#[40]⟩, .string ⟨#[41]⟩, .string ⟨#[44]⟩, .string ⟨#[42]⟩, .string ⟨#[43]⟩, .string ⟨#[45]⟩, .string ⟨#[47]⟩, .string ⟨#[37]⟩, .string ⟨#[61]⟩, .string ⟨#[60]⟩, .string ⟨#[62]⟩, .string ⟨#[59]⟩] 9 true] }
def e_res0 : Entry := { g := 254, args := [], v := .map (some 14), os := [.map [⟨.string ⟨#[97, 110, 100]⟩, .bool true, 0⟩, ⟨.string ⟨#[97, 115]⟩, .bool true, 1⟩, ⟨.string ⟨#[98, 121]⟩, .bool true, 2⟩, ⟨.string ⟨#[99, 97, 108, 108]⟩, .bool true, 3⟩, ⟨.string ⟨#[99, 114, 101, 97, 116, 101]⟩, .bool true, 4⟩, ⟨.string ⟨#[100, 101, 108, 101, 116, 101]⟩, .bool true, 5⟩, ⟨.string ⟨#[100, 101, 115, 99]⟩, .bool true, 6⟩, ⟨.string ⟨#[100, 114, 111, 112]⟩, .bool true, 7⟩, ⟨.string ⟨#[102, 97, 108, 115, 101]⟩, .bool true, 8⟩, ⟨.string ⟨#[102, 114, 111, 109]⟩, .bool true, 9⟩, ⟨.string ⟨#[103, 114, 111, 117, 112]⟩, .bool true, 10⟩, ⟨.string ⟨#[104, 97, 118, 105, 110, 103]⟩, .bool true, 11⟩, ⟨.string ⟨#[105, 110, 115, 101, 114, 116]⟩, .bool true, 12⟩, ⟨.string ⟨#[105, 110, 116, 111]⟩, .bool true, 13⟩, ⟨.string ⟨#[105, 115]⟩, .bool true, 14⟩, ⟨.string ⟨#[108, 105, 109, 105, 116]⟩, .bool true, 15⟩, ⟨.string ⟨#[110, 111, 116]⟩, .bool true, 16⟩, ⟨.string ⟨#[110, 117, 108, 108]⟩, .bool true, 17⟩, ⟨.string ⟨#[111, 110, 108, 121]⟩, .bool true, 18⟩, ⟨.string ⟨#[111, 114]⟩, .bool true, 19⟩, ⟨.string ⟨#[111, 114, 100, 101, 114]⟩, .bool true, 20⟩, ⟨.string ⟨#[115, 101, 108, 101, 99, 116]⟩, .bool true, 21⟩, ⟨.string ⟨#[115, 101, 116]⟩, .bool true, 22⟩, ⟨.string ⟨#[116, 114, 117, 101]⟩, .bool true, 23⟩, ⟨.string ⟨#[117, 112, 100, 97, 116, 101]⟩, .bool true, 24⟩, ⟨.string ⟨#[118, 97, 108, 117, 101, 115]⟩, .bool true, 25⟩, ⟨.string ⟨#[119, 104, 101, 114, 101]⟩, .bool true, 26⟩] 27] }
def e_low0 : Entry := { g := 189, args := [.string ⟨#[67, 82, 69, 65, 84, 69]⟩], v := .string ⟨#[99, 114, 101, 97, 116, 101]⟩, os := [] }
def e_low1 : Entry := { g := 189, args := [.string ⟨#[84, 65, 66, 76, 69]⟩], v := .string ⟨#[116, 97, 98, 108, 101]⟩, os := [] }
def e_low2 : Entry := { g := 189, args := [.string ⟨#[116]⟩], v := .string ⟨#[116]⟩, os := [] }
def e_low3 : Entry := { g := 189, args := [.string ⟨#[116, 105, 109, 101]⟩], v := .string ⟨#[116, 105, 109, 101]⟩, os := [] }
def e_low4 : Entry := { g := 189, args := [.string ⟨#[73, 78, 84]⟩], v := .string ⟨#[105, 110, 116]⟩, os := [] }
def e_low5 : Entry := { g := 189, args := [.string ⟨#[100]⟩], v := .string ⟨#[100]⟩, os := [] }
def e_low6 : Entry := { g := 189, args := [.string ⟨#[84, 69, 88, 84]⟩], v := .string ⟨#[116, 101, 120, 116]⟩, os := [] }
def e_low7 : Entry := { g := 189, args := [.string ⟨#[118]⟩], v := .string ⟨#[118]⟩, os := [] }
def e_low8 : Entry := { g := 189, args := [.string ⟨#[84, 73, 77, 69]⟩], v := .string ⟨#[116, 105, 109, 101]⟩, os := [] }
def e_low9 : Entry := { g := 189, args := [.string ⟨#[69, 86, 69, 82, 89]⟩], v := .string ⟨#[101, 118, 101, 114, 121]⟩, os := [] }
def e_low10 : Entry := { g := 189, args := [.string ⟨#[83, 80, 65, 67, 69]⟩], v := .string ⟨#[115, 112, 97, 99, 101]⟩, os := [] }
def e_low11 : Entry := { g := 189, args := [.string ⟨#[73, 78, 84, 79]⟩], v := .string ⟨#[105, 110, 116, 111]⟩, os := [] }
def e_low12 : Entry := { g := 189, args := [.string ⟨#[86, 73, 69, 87]⟩], v := .string ⟨#[118, 105, 101, 119]⟩, os := [] }
def e_low13 : Entry := { g := 189, args := [.string ⟨#[104]⟩], v := .string ⟨#[104]⟩, os := [] }
def e_low14 : Entry := { g := 189, args := [.string ⟨#[65, 83]⟩], v := .string ⟨#[97, 115]⟩, os := [] }
def e_low15 : Entry := { g := 189, args := [.string ⟨#[83, 69, 76, 69, 67, 84]⟩], v := .string ⟨#[115, 101, 108, 101, 99, 116]⟩, os := [] }
def e_low16 : Entry := { g := 189, args := [.string ⟨#[98, 117, 99, 107, 101, 116]⟩], v := .string ⟨#[98, 117, 99, 107, 101, 116]⟩, os := [] }
def e_low17 : Entry := { g := 189, args := [.string ⟨#[115, 117, 109]⟩], v := .string ⟨#[115, 117, 109]⟩, os := [] }
def e_low18 : Entry := { g := 189, args := [.string ⟨#[115]⟩], v := .string ⟨#[115]⟩, os := [] }
def e_low19 : Entry := { g := 189, args := [.string ⟨#[70, 82, 79, 77]⟩], v := .string ⟨#[102, 114, 111, 109]⟩, os := [] }
def e_low20 : Entry := { g := 189, args := [.string ⟨#[71, 82, 79, 85, 80]⟩], v := .string ⟨#[103, 114, 111, 117, 112]⟩, os := [] }
def e_low21 : Entry := { g := 189, args := [.string ⟨#[66, 89]⟩], v := .string ⟨#[98, 121]⟩, os := [] }
def e_low22 : Entry := { g := 189, args := [.string ⟨#[107]⟩], v := .string ⟨#[107]⟩, os := [] }
def e_low23 : Entry := { g := 189, args := [.string ⟨#[109, 97, 120]⟩], v := .string ⟨#[109, 97, 120]⟩, os := [] }
def e_low24 : Entry := { g := 189, args := [.string ⟨#[109]⟩], v := .string ⟨#[109]⟩, os := [] }
def e_rsv0 : Entry := { g := 245, args := [.string ⟨#[116]⟩], v := .bool false, os := [] }
def e_rsv1 : Entry := { g := 245, args := [.string ⟨#[116, 105, 109, 101]⟩], v := .bool false, os := [] }
def e_rsv2 : Entry := { g := 245, args := [.string ⟨#[100]⟩], v := .bool false, os := [] }
def e_rsv3 : Entry := { g := 245, args := [.string ⟨#[118]⟩], v := .bool false, os := [] }
def e_rsv4 : Entry := { g := 245, args := [.string ⟨#[104]⟩], v := .bool false, os := [] }
def e_rsv5 : Entry := { g := 245, args := [.string ⟨#[98, 117, 99, 107, 101, 116]⟩], v := .bool false, os := [] }
def e_rsv6 : Entry := { g := 245, args := [.string ⟨#[115, 117, 109]⟩], v := .bool false, os := [] }
def e_rsv7 : Entry := { g := 245, args := [.string ⟨#[115]⟩], v := .bool false, os := [] }
def e_rsv8 : Entry := { g := 245, args := [.string ⟨#[107]⟩], v := .bool false, os := [] }
def e_rsv9 : Entry := { g := 245, args := [.string ⟨#[109, 97, 120]⟩], v := .bool false, os := [] }
def e_rsv10 : Entry := { g := 245, args := [.string ⟨#[109]⟩], v := .bool false, os := [] }
theorem ok_f0 : EntryOK cx e_f0 := entry_sound cx_ok quiet_ok (hs := []) (k := 1000) (ro := [14]) (fun _ h => by cases h) (by kernel_rfl) (by kernel_rfl)
theorem ok_f1 : EntryOK cx e_f1 := entry_sound cx_ok quiet_ok (hs := []) (k := 1000) (ro := [14]) (fun _ h => by cases h) (by kernel_rfl) (by kernel_rfl)
def hs_res : List Entry := [e_f0]
theorem hs_res_ok : ∀ E, E ∈ hs_res → EntryOK cx E := by
  intro E h
  simp only [hs_res, List.mem_cons, List.not_mem_nil, or_false] at h
  rw [h]
  exact ok_f0
theorem ok_res0 : EntryOK cx e_res0 := entry_sound cx_ok quiet_ok (hs := hs_res) (k := 1000) (ro := [14]) hs_res_ok (by kernel_rfl) (by kernel_rfl)
theorem ok_low0 : EntryOK cx e_low0 := entry_sound cx_ok quiet_ok (hs := []) (k := 1000) (ro := []) (fun _ h => by cases h) (by kernel_rfl) (by kernel_rfl)
theorem ok_low1 : EntryOK cx e_low1 := entry_sound cx_ok quiet_ok (hs := []) (k := 1000) (ro := []) (fun _ h => by cases h) (by kernel_rfl) (by kernel_rfl)
theorem ok_low2 : EntryOK cx e_low2 := entry_sound cx_ok quiet_ok (hs := []) (k := 1000) (ro := []) (fun _ h => by cases h) (by kernel_rfl) (by kernel_rfl)
theorem ok_low3 : EntryOK cx e_low3 := entry_sound cx_ok quiet_ok (hs := []) (k := 1000) (ro := []) (fun _ h => by cases h) (by kernel_rfl) (by kernel_rfl)
theorem ok_low4 : EntryOK cx e_low4 := entry_sound cx_ok quiet_ok (hs := []) (k := 1000) (ro := []) (fun _ h => by cases h) (by kernel_rfl) (by kernel_rfl)
theorem ok_low5 : EntryOK cx e_low5 := entry_sound cx_ok quiet_ok (hs := []) (k := 1000) (ro := []) (fun _ h => by cases h) (by kernel_rfl) (by kernel_rfl)
theorem ok_low6 : EntryOK cx e_low6 := entry_sound cx_ok quiet_ok (hs := []) (k := 1000) (ro := []) (fun _ h => by cases h) (by kernel_rfl) (by kernel_rfl)
theorem ok_low7 : EntryOK cx e_low7 := entry_sound cx_ok quiet_ok (hs := []) (k := 1000) (ro := []) (fun _ h => by cases h) (by kernel_rfl) (by kernel_rfl)
theorem ok_low8 : EntryOK cx e_low8 := entry_sound cx_ok quiet_ok (hs := []) (k := 1000) (ro := []) (fun _ h => by cases h) (by kernel_rfl) (by kernel_rfl)
theorem ok_low9 : EntryOK cx e_low9 := entry_sound cx_ok quiet_ok (hs := []) (k := 1000) (ro := []) (fun _ h => by cases h) (by kernel_rfl) (by kernel_rfl)
theorem ok_low10 : EntryOK cx e_low10 := entry_sound cx_ok quiet_ok (hs := []) (k := 1000) (ro := []) (fun _ h => by cases h) (by kernel_rfl) (by kernel_rfl)
theorem ok_low11 : EntryOK cx e_low11 := entry_sound cx_ok quiet_ok (hs := []) (k := 1000) (ro := []) (fun _ h => by cases h) (by kernel_rfl) (by kernel_rfl)
theorem ok_low12 : EntryOK cx e_low12 := entry_sound cx_ok quiet_ok (hs := []) (k := 1000) (ro := []) (fun _ h => by cases h) (by kernel_rfl) (by kernel_rfl)
theorem ok_low13 : EntryOK cx e_low13 := entry_sound cx_ok quiet_ok (hs := []) (k := 1000) (ro := []) (fun _ h => by cases h) (by kernel_rfl) (by kernel_rfl)
theorem ok_low14 : EntryOK cx e_low14 := entry_sound cx_ok quiet_ok (hs := []) (k := 1000) (ro := []) (fun _ h => by cases h) (by kernel_rfl) (by kernel_rfl)
theorem ok_low15 : EntryOK cx e_low15 := entry_sound cx_ok quiet_ok (hs := []) (k := 1000) (ro := []) (fun _ h => by cases h) (by kernel_rfl) (by kernel_rfl)
theorem ok_low16 : EntryOK cx e_low16 := entry_sound cx_ok quiet_ok (hs := []) (k := 1000) (ro := []) (fun _ h => by cases h) (by kernel_rfl) (by kernel_rfl)
theorem ok_low17 : EntryOK cx e_low17 := entry_sound cx_ok quiet_ok (hs := []) (k := 1000) (ro := []) (fun _ h => by cases h) (by kernel_rfl) (by kernel_rfl)
theorem ok_low18 : EntryOK cx e_low18 := entry_sound cx_ok quiet_ok (hs := []) (k := 1000) (ro := []) (fun _ h => by cases h) (by kernel_rfl) (by kernel_rfl)
theorem ok_low19 : EntryOK cx e_low19 := entry_sound cx_ok quiet_ok (hs := []) (k := 1000) (ro := []) (fun _ h => by cases h) (by kernel_rfl) (by kernel_rfl)
theorem ok_low20 : EntryOK cx e_low20 := entry_sound cx_ok quiet_ok (hs := []) (k := 1000) (ro := []) (fun _ h => by cases h) (by kernel_rfl) (by kernel_rfl)
theorem ok_low21 : EntryOK cx e_low21 := entry_sound cx_ok quiet_ok (hs := []) (k := 1000) (ro := []) (fun _ h => by cases h) (by kernel_rfl) (by kernel_rfl)
theorem ok_low22 : EntryOK cx e_low22 := entry_sound cx_ok quiet_ok (hs := []) (k := 1000) (ro := []) (fun _ h => by cases h) (by kernel_rfl) (by kernel_rfl)
theorem ok_low23 : EntryOK cx e_low23 := entry_sound cx_ok quiet_ok (hs := []) (k := 1000) (ro := []) (fun _ h => by cases h) (by kernel_rfl) (by kernel_rfl)
theorem ok_low24 : EntryOK cx e_low24 := entry_sound cx_ok quiet_ok (hs := []) (k := 1000) (ro := []) (fun _ h => by cases h) (by kernel_rfl) (by kernel_rfl)
theorem ok_rsv0 : EntryOK cx e_rsv0 := entry_sound cx_ok quiet_ok (hs := []) (k := 1000) (ro := []) (fun _ h => by cases h) (by kernel_rfl) (by kernel_rfl)
theorem ok_rsv1 : EntryOK cx e_rsv1 := entry_sound cx_ok quiet_ok (hs := []) (k := 1000) (ro := []) (fun _ h => by cases h) (by kernel_rfl) (by kernel_rfl)
theorem ok_rsv2 : EntryOK cx e_rsv2 := entry_sound cx_ok quiet_ok (hs := []) (k := 1000) (ro := []) (fun _ h => by cases h) (by kernel_rfl) (by kernel_rfl)
theorem ok_rsv3 : EntryOK cx e_rsv3 := entry_sound cx_ok quiet_ok (hs := []) (k := 1000) (ro := []) (fun _ h => by cases h) (by kernel_rfl) (by kernel_rfl)
theorem ok_rsv4 : EntryOK cx e_rsv4 := entry_sound cx_ok quiet_ok (hs := []) (k := 1000) (ro := []) (fun _ h => by cases h) (by kernel_rfl) (by kernel_rfl)
theorem ok_rsv5 : EntryOK cx e_rsv5 := entry_sound cx_ok quiet_ok (hs := []) (k := 1000) (ro := []) (fun _ h => by cases h) (by kernel_rfl) (by kernel_rfl)
theorem ok_rsv6 : EntryOK cx e_rsv6 := entry_sound cx_ok quiet_ok (hs := []) (k := 1000) (ro := []) (fun _ h => by cases h) (by kernel_rfl) (by kernel_rfl)
theorem ok_rsv7 : EntryOK cx e_rsv7 := entry_sound cx_ok quiet_ok (hs := []) (k := 1000) (ro := []) (fun _ h => by cases h) (by kernel_rfl) (by kernel_rfl)
theorem ok_rsv8 : EntryOK cx e_rsv8 := entry_sound cx_ok quiet_ok (hs := []) (k := 1000) (ro := []) (fun _ h => by cases h) (by kernel_rfl) (by kernel_rfl)
theorem ok_rsv9 : EntryOK cx e_rsv9 := entry_sound cx_ok quiet_ok (hs := []) (k := 1000) (ro := []) (fun _ h => by cases h) (by kernel_rfl) (by kernel_rfl)
theorem ok_rsv10 : EntryOK cx e_rsv10 := entry_sound cx_ok quiet_ok (hs := []) (k := 1000) (ro := []) (fun _ h => by cases h) (by kernel_rfl) (by kernel_rfl)
end Go.X
