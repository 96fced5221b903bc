/- Strings out of bytes; the walk of SameBytes. -/
import Derived.Test.YtbmhmaejakjieaaDoorBa
import Derived.Laws.BytesArg
namespace Go.Proofs.YtbmhmaejakjieaaDoor
open Go.RowKit

theorem nth_lt {L : List Nat} {k : Nat} (h : k < L.length) : nth L k = L[k] := by
  unfold nth; rw [List.getD_eq_getElem?_getD, List.getElem?_eq_getElem h]; rfl

/-- The string of bytes. -/
def str (L : List Nat) : ByteArray := strOfNums (L.map Int.ofNat)

theorem str_size (L : List Nat) : (str L).size = L.length := by unfold str; rw [strOfNums_size]; simp
theorem str_toList (L : List Nat) : (str L).toList = L.map UInt8.ofNat := by
  unfold str
  have h := strOfNums_data (L.map Int.ofNat)
  rw [List.map_map] at h
  have e : ((fun n : Int => UInt8.ofNat n.toNat) ∘ Int.ofNat) = UInt8.ofNat := by funext n; simp
  rw [e] at h
  rw [← h, ByteArray.toList_eq]

/-- Bytes. -/
def Byt (L : List Nat) : Prop := ∀ x, x ∈ L → x < 256

theorem map_inj {L M : List Nat} (hL : Byt L) (hM : Byt M) (h : L.map UInt8.ofNat = M.map UInt8.ofNat) : L = M := by
  induction L generalizing M with
  | nil => cases M with
    | nil => rfl
    | cons y M => simp at h
  | cons x L ih =>
    cases M with
    | nil => simp at h
    | cons y M =>
      simp only [List.map_cons, List.cons.injEq] at h
      have hx := hL x (List.mem_cons_self ..)
      have hy := hM y (List.mem_cons_self ..)
      have e : x = y := by
        have := congrArg UInt8.toNat h.1
        simp only [UInt8.toNat_ofNat'] at this
        omega
      rw [e, ih (fun z hz => hL z (List.mem_cons_of_mem _ hz)) (fun z hz => hM z (List.mem_cons_of_mem _ hz)) h.2]

theorem str_beq {L M : List Nat} (hL : Byt L) (hM : Byt M) : ((str L).toList == (str M).toList) = decide (L = M) := by
  rw [str_toList, str_toList]
  by_cases h : L = M
  · subst h; simp
  · have h2 : ¬ L.map UInt8.ofNat = M.map UInt8.ofNat := fun e => h (map_inj hL hM e)
    simp [h, h2]

/-- A slice that holds bytes. -/
def BV (w : World) (v : Value) (L : List Nat) : Prop :=
  (v = .slice none 0 0 ∧ L = []) ∨ ∃ b off c, v = .slice (some ⟨b, off, none⟩) L.length c ∧ SegB w b off L

theorem OwnB.bv {w : World} {N : Nat} {v : Value} {L : List Nat} (h : OwnB w N v L) : BV w v L := by
  rcases h.form with h | ⟨g, c, h1, _, _, _, _, h2, _⟩
  · exact Or.inl h
  · exact Or.inr ⟨g, 0, c, h1, h2⟩

theorem und23s : Tryd.prog.underlying 23 = some (.slice 5) := by kernel_rfl
theorem und5 : Tryd.prog.underlying 5 = some (.int .u8) := by kernel_rfl
theorem und9 : Tryd.prog.underlying 9 = some .string := by kernel_rfl

theorem BV.string {w : World} {v : Value} {L : List Nat} (h : BV w v L) : (convert 23 9 v).run Tryd.prog w = .ok (.string (str L)) w := by
  rcases h with ⟨rfl, rfl⟩ | ⟨b, off, c, rfl, hs⟩
  · exact run_convert_bytes_nil w 23 5 und23s und5 0 0 9 und9
  · refine run_convert_bytes_arg w 23 5 und23s und5 b off L.length c (L.map Int.ofNat) (by simp) (fun i hi => ?_) 9 und9
    rw [hs i hi]
    simp [nth, List.getElem?_eq_getElem hi]

theorem str_data (L : List Nat) : (str L).data.toList = L.map UInt8.ofNat := by
  rw [← ByteArray.toList_eq, str_toList]

theorem str_get {L : List Nat} (hb : Byt L) {i : Nat} (h : i < (str L).size) : ((str L)[i]).toNat = nth L i := by
  have hl : i < L.length := by rw [str_size] at h; exact h
  have e : (str L)[i] = (str L).data.toList[i]'(by rw [str_data]; simpa using hl) := by rfl
  rw [e]
  simp only [str_data, List.getElem_map, UInt8.toNat_ofNat']
  rw [nth_lt hl]
  exact Nat.mod_eq_of_lt (hb _ (List.getElem_mem hl))

theorem index_str (L : List Nat) (hb : Byt L) (k : IntKind) (i : Nat) (hi : i < L.length) (w : World) :
    (Instr.index 9 (.string (str L)) (.int k (i : Int))).run Tryd.prog w = .ok (.int .u8 ((nth L i : Nat) : Int)) w := by
  rw [run_index_string w 9 (str L) k i und9, dif_pos ⟨by omega, by rw [str_size]; omega⟩]
  simp only [Int.toNat_natCast]
  rw [str_get hb]

theorem str_ext {s : ByteArray} {L : List Nat} (h : s.data.toList = L.map UInt8.ofNat) : s = str L := by
  apply ByteArray.ext
  apply Array.ext'
  rw [h, str_data]

theorem slice_from (L : List Nat) (k : IntKind) (l : Nat) (h : l ≤ L.length) (w : World) :
    (Instr.slice 9 (.string (str L)) (some (.int k (l : Int))) none none).run Tryd.prog w = .ok (.string (str (L.drop l))) w := by
  rw [run_slice_string_l w 9 (str L) und9 k l (by omega) (by rw [str_size]; omega)]
  congr 2
  apply str_ext
  simp only [Int.toNat_natCast, ByteArray.data_extract, Array.toList_extract, str_data, str_size, List.extract_eq_take_drop]
  rw [List.map_drop, List.take_of_length_le (by simp)]

theorem slice_to (L : List Nat) (k : IntKind) (h : Nat) (hh : h ≤ L.length) (w : World) :
    (Instr.slice 9 (.string (str L)) none (some (.int k (h : Int))) none).run Tryd.prog w = .ok (.string (str (L.take h))) w := by
  rw [run_slice_string_h w 9 (str L) und9 k h (by omega) (by rw [str_size]; omega)]
  congr 2
  apply str_ext
  simp only [Int.toNat_natCast, ByteArray.data_extract, Array.toList_extract, str_data, List.extract_eq_take_drop]
  rw [List.map_take, List.drop_zero, Nat.sub_zero]

set_option maxHeartbeats 400000 in
theorem same_any (v1 v2 : Value) (L M : List Nat) (w : World) (h1 : BV w v1 L) (h2 : BV w v2 M) (hL : Byt L) (hM : Byt M) :
    Calls Tryd.prog 15 #[v1, v2] w fun e w' => e = .returned (.bool (decide (L = M))) ∧ w = w' := by
  have e1 := h1.string
  have e2 := h2.string
  have hq := str_beq hL hM
  clear h1 h2 hL hM
  generalize decide (L = M) = D at *
  go_enter Tryd.func15, Tryd.ntmps15
  go_wp2
  go_ret
  exact ⟨rfl, rfl⟩
end Go.Proofs.YtbmhmaejakjieaaDoor
