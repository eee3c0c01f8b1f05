/- Words as the program holds them: their bytes, the rest of them, whether they are empty. -/
import Derived.Test.YteglhcpochcopaaTrieW
namespace Go.Proofs.Yteglhcpochcopaa.trie
open Go.RowKit

theorem sv_at (s : Wd) (i : Nat) (h : i < s.length) (W : World) : (Instr.index 9 (sv s) (.int .i64 (i : Int))).run Try.prog W = .ok (bv s[i]) W := by
  unfold sv bv
  have hz : (ByteArray.mk s.toArray).size = s.length := by show s.toArray.size = s.length; simp
  rw [run_index_string W _ _ _ _ Try.underlying9, dif_pos ⟨by omega, by omega⟩]
  congr 3
theorem sv_take (s : Wd) (i : Nat) (h : i ≤ s.length) (W : World) : (Instr.slice 9 (sv s) none (some (.int .i64 (i : Int))) none).run Try.prog W = .ok (sv (s.take i)) W := by
  unfold sv
  have hz : (ByteArray.mk s.toArray).size = s.length := by show s.toArray.size = s.length; simp
  rw [run_slice_string_to_if W _ _ _ _ Try.underlying9, if_pos ⟨by omega, by omega⟩, ByteArray.extract_mk]
  simp
theorem sv_drop (s : Wd) (i : Nat) (h : i ≤ s.length) (W : World) : (Instr.slice 9 (sv s) (some (.int .i64 (i : Int))) none none).run Try.prog W = .ok (sv (s.drop i)) W := by
  unfold sv
  have hz : (ByteArray.mk s.toArray).size = s.length := by show s.toArray.size = s.length; simp
  rw [run_slice_string_from_if W _ _ _ _ Try.underlying9, if_pos ⟨by omega, by omega⟩, ByteArray.extract_mk, hz]
  simp [List.take_of_length_le]
theorem sv_len (s : Wd) (ty : TypeId) (W : World) : (Builtin.len_ #[9] ty #[sv s]).run Try.prog W = .ok (.int .i64 (s.length : Nat)) W := by
  unfold sv
  have hz : (ByteArray.mk s.toArray).size = s.length := by show s.toArray.size = s.length; simp
  rw [run_len_string W _ _ _ Try.underlying9, hz]
  rfl
theorem sv_idx (c : UInt8) (s : Wd) (W : World) : (Instr.index 9 (sv (c :: s)) (.int .i64 0)).run Try.prog W = .ok (bv c) W := sv_at (c :: s) 0 (by simp) W
theorem sv_tail (c : UInt8) (s : Wd) (W : World) : (Instr.slice 9 (sv (c :: s)) (some (.int .i64 1)) none none).run Try.prog W = .ok (sv s) W := sv_drop (c :: s) 1 (by simp) W
theorem bytes_list (s : Wd) : (ByteArray.mk s.toArray).toList = s := ByteArray.toList_mk s
theorem sv_eql (a b : Wd) : binOp .eql 9 (sv a) (sv b) = pure (.bool (a == b)) := by
  unfold sv
  rw [binOp_string_eql, bytes_list, bytes_list]
theorem sv_neq (a b : Wd) : binOp .neq 9 (sv a) (sv b) = pure (.bool !(a == b)) := by
  unfold sv
  rw [binOp_string_neq, bytes_list, bytes_list]
theorem sv_eql_nil : binOp .eql 9 (sv []) (.string { data := #[] }) = pure (.bool true) := sv_eql [] []
theorem sv_eql_cons (c : UInt8) (s : Wd) : binOp .eql 9 (sv (c :: s)) (.string { data := #[] }) = pure (.bool false) := sv_eql (c :: s) []
theorem sv_neq_nil : binOp .neq 9 (sv []) (.string { data := #[] }) = pure (.bool false) := sv_neq [] []
theorem sv_neq_cons (c : UInt8) (s : Wd) : binOp .neq 9 (sv (c :: s)) (.string { data := #[] }) = pure (.bool true) := sv_neq (c :: s) []
theorem sv_guard (op : BinOp) (t : TypeId) (x y : Operand) (a : Wd) (b : ByteArray) : eqGuard op t x y (sv a) (.string b) = pure () := by
  unfold sv eqGuard
  split <;> rfl
theorem sv_inj {a b : Wd} (h : sv a = sv b) : a = b := by
  unfold sv at h
  have h1 : (⟨a.toArray⟩ : ByteArray) = ⟨b.toArray⟩ := by injection h
  have h2 : a.toArray = b.toArray := by injection h1
  simpa using h2
end Go.Proofs.Yteglhcpochcopaa.trie
