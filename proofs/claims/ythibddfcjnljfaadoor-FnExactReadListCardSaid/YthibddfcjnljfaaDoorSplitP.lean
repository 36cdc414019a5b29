/- A text cut at one byte: plain laws over the kit's 'split'; the parts as strings. No condition. -/
import Derived.Lib.SplitLaws
namespace Go.Proofs.YthibddfcjnljfaaDoor

theorem index_none1 (c : UInt8) : ∀ (l : List UInt8), (∀ x ∈ l, x ≠ c) → Lib.index l [c] = -1
  | [], _ => by simp [Lib.index]
  | b :: l, h => by
    have hb : b ≠ c := h b (by simp)
    have hp : ([c] : List UInt8).isPrefixOf (b :: l) = false := by simp [List.isPrefixOf, Ne.symm hb]
    have ih := index_none1 c l (fun x hx => h x (by simp [hx]))
    rw [Lib.index, hp, ih]
    rfl
theorem index_hit1 (c : UInt8) (b : List UInt8) : ∀ (a : List UInt8), (∀ x ∈ a, x ≠ c) → Lib.index (a ++ c :: b) [c] = ((a.length : Nat) : Int)
  | [], _ => by
    show Lib.index (c :: b) [c] = _
    rw [Lib.index]
    simp [List.isPrefixOf]
  | x :: a, h => by
    have hb : x ≠ c := h x (by simp)
    have hp : ([c] : List UInt8).isPrefixOf (x :: (a ++ c :: b)) = false := by simp [List.isPrefixOf, Ne.symm hb]
    have ih := index_hit1 c b a (fun y hy => h y (by simp [hy]))
    show Lib.index (x :: (a ++ c :: b)) [c] = _
    rw [Lib.index, hp, ih, if_neg (by simp), if_neg (by rw [beq_iff_eq]; omega), List.length_cons]
    omega
theorem split_none (c : UInt8) (a : List UInt8) (h : ∀ x ∈ a, x ≠ c) : Lib.split a [c] = [a] := by
  unfold Lib.split
  rw [Lib.count_miss (index_none1 c a h)]
  rfl
theorem split_hit (c : UInt8) (a b : List UInt8) (h : ∀ x ∈ a, x ≠ c) : Lib.split (a ++ c :: b) [c] = a :: Lib.split b [c] := by
  have hi := index_hit1 c b a h
  have hd : (a ++ c :: b).drop (a.length + 1) = b := by
    rw [List.drop_append]; simp
  unfold Lib.split
  rw [Lib.count_hit (by simp) hi]
  simp only [List.length_singleton]
  rw [hd, Nat.add_comm 1, Lib.splitK, hi, if_neg (by rw [beq_iff_eq]; omega)]
  simp only [List.length_singleton, Int.toNat_natCast, Nat.add_zero]
  rw [hd]
  congr 1
  simp

/-- A list of bytes as a string. -/
abbrev bs (l : List UInt8) : ByteArray := ⟨l.toArray⟩
theorem bs_data (l : List UInt8) : (bs l).data.toList = l := rfl
theorem bs_of (s : ByteArray) : bs s.data.toList = s := by
  apply ByteArray.ext
  simp
/-- The parts of a text between the bytes c. -/
def pieces (c : UInt8) (s : ByteArray) : List ByteArray := (Lib.split s.data.toList [c]).map bs
theorem pieces_eq (c : UInt8) (s : ByteArray) : Lib.splitB ⟨#[c]⟩ 0 (Lib.countB s ⟨#[c]⟩) s = pieces c s := by
  unfold pieces Lib.split
  have h := Lib.splitB_data ⟨#[c]⟩ 0 (Lib.countB s ⟨#[c]⟩) s
  rw [show ((⟨#[c]⟩ : ByteArray).data.toList) = [c] from rfl] at h
  rw [show Lib.count s.data.toList [c] = Lib.countB s ⟨#[c]⟩ from rfl, ← h, List.map_map]
  conv => lhs; rw [← List.map_id (Lib.splitB ⟨#[c]⟩ 0 (Lib.countB s ⟨#[c]⟩) s)]
  apply List.map_congr_left
  intro x _
  exact (bs_of x).symm
theorem pieces_len (c : UInt8) (s : ByteArray) : (pieces c s).length = Lib.countB s ⟨#[c]⟩ + 1 := by
  rw [← pieces_eq]
  exact Lib.splitB_all ⟨#[c]⟩ (Nat.le_refl 1) 0 _ s rfl
theorem pieces_le (c : UInt8) (s : ByteArray) : (pieces c s).length ≤ s.size + 1 := by
  rw [pieces_len]
  have := Lib.countB_le ⟨#[c]⟩ (Nat.le_refl 1) s.size s (Nat.le_refl _)
  omega

/-- Half way through a cut: 'done' lies in hand, the part that begins at 'from' goes on to i at least. -/
def cutMid (c : UInt8) (s : ByteArray) (done : List ByteArray) (a i : Nat) : Prop :=
  a ≤ i ∧ (∀ x ∈ (s.data.toList.take i).drop a, x ≠ c) ∧ done ++ pieces c (s.extract a s.size) = pieces c s
theorem ext_data (s : ByteArray) (a : Nat) : (s.extract a s.size).data.toList = s.data.toList.drop a := Lib.extract_to_end s a
theorem ext_data2 (s : ByteArray) (a i : Nat) : (s.extract a i).data.toList = (s.data.toList.take i).drop a := by
  rw [Lib.extract_data, List.drop_take]
theorem cutMid_start (c : UInt8) (s : ByteArray) : cutMid c s [] 0 0 := by
  refine ⟨Nat.le_refl _, by simp, ?_⟩
  rw [List.nil_append]
  unfold pieces
  rw [ext_data]; rfl
theorem drop_at (s : ByteArray) (a i : Nat) (h1 : a ≤ i) (hi : i < s.size) : s.data.toList.drop a = (s.data.toList.take i).drop a ++ s[i] :: s.data.toList.drop (i + 1) := by
  have hl : i < s.data.toList.length := by simpa using hi
  have e : s.data.toList = s.data.toList.take i ++ (s[i] :: s.data.toList.drop (i + 1)) := by
    conv => lhs; rw [← List.take_append_drop i s.data.toList]
    rw [List.drop_eq_getElem_cons hl]
    rfl
  conv => lhs; rw [e]
  rw [List.drop_append_of_le_length (by rw [List.length_take]; omega)]
theorem cutMid_skip {c : UInt8} {s : ByteArray} {done : List ByteArray} {a i : Nat} (h : cutMid c s done a i) (hi : i < s.size) (hne : s[i] ≠ c) : cutMid c s done a (i + 1) := by
  obtain ⟨h1, h2, h3⟩ := h
  refine ⟨by omega, ?_, h3⟩
  intro x hx
  have hl : i < s.data.toList.length := by simpa using hi
  rw [List.take_succ_eq_append_getElem hl, List.drop_append_of_le_length (by rw [List.length_take]; omega)] at hx
  rcases List.mem_append.1 hx with h | h
  · exact h2 x h
  · rw [List.mem_singleton.1 h]; exact hne
theorem cutMid_hit {c : UInt8} {s : ByteArray} {done : List ByteArray} {a i : Nat} (h : cutMid c s done a i) (hi : i < s.size) (he : s[i] = c) : cutMid c s (done ++ [s.extract a i]) (i + 1) (i + 1) := by
  obtain ⟨h1, h2, h3⟩ := h
  refine ⟨Nat.le_refl _, ?_, ?_⟩
  · intro x hx
    rw [List.drop_eq_nil_of_le (by rw [List.length_take]; omega)] at hx
    simp at hx
  · rw [← h3, List.append_assoc]
    congr 1
    unfold pieces
    rw [ext_data, ext_data, drop_at s a i h1 hi, he, split_hit c _ _ h2, List.map_cons]
    rw [← ext_data2, bs_of]
    rfl
theorem cutMid_end {c : UInt8} {s : ByteArray} {done : List ByteArray} {a : Nat} (h : cutMid c s done a s.size) : done ++ [s.extract a s.size] = pieces c s := by
  obtain ⟨h1, h2, h3⟩ := h
  rw [← h3]
  congr 1
  unfold pieces
  have e : s.data.toList.take s.size = s.data.toList := List.take_of_length_le (by simp)
  rw [e] at h2
  rw [ext_data, split_none c _ h2, List.map_cons, List.map_nil, ← ext_data, bs_of]
theorem cutMid_len {c : UInt8} {s : ByteArray} {done : List ByteArray} {a i : Nat} (h : cutMid c s done a i) : done.length ≤ s.size + 1 := by
  have := pieces_le c s
  rw [← h.2.2, List.length_append] at this
  omega
/-- The longest parts without blanks. -/
def words (s : ByteArray) : List ByteArray := (pieces 32 s).filter fun x => !x.toList.isEmpty
theorem words_le (s : ByteArray) : (words s).length ≤ s.size + 1 := Nat.le_trans (List.length_filter_le _ _) (pieces_le _ _)
end Go.Proofs.YthibddfcjnljfaaDoor
