/- The examples of the chapter. -/
import Derived.Test.YtjhnmclancbilaaQx34
import Derived.Test.YtjhnmclancbilaaPlainE
import Derived.Test.YtjhnmclancbilaaPlainF
import Derived.Test.YtjhnmclancbilaaPlainW
namespace Go.Proofs.Ytjhnmclancbilaa.Pure
set_option linter.unusedVariables false
open Go Go.RowKit Go.Proofs.Ytjhnmclancbilaa.Plain Go.Proofs.Ytjhnmclancbilaa.HPure Go.Proofs.Ytjhnmclancbilaa.Q Go.Proofs.YtjhnmclancbilaaW.PrintWords Go.Proofs.YtjhnmclancbilaaW.PrintLast Go.Proofs.YtjhnmclancbilaaW.PrintMore

def isNm (s : ByteArray) : Bool := isText s && (decide ((points s).length ≤ 100) && nameL (points s))
theorem isNm_f (s : ByteArray) (k : Nat) (hk : 1 ≤ k) (h : s.size ≤ 1000) : chars_IsName.f k s = some (isNm s) := isName_f s k hk (by omega)
theorem rdOf_mem (L : List ByteArray) (i : Nat) (h : i < L.length) : rdOf ByteArray.empty L (i : Int) ∈ L := by
  unfold rdOf
  rw [Int.toNat_natCast, List.getD_eq_getElem?_getD, List.getElem?_eq_getElem h, Option.getD_some]
  exact List.getElem_mem h
theorem rd_mem (L : List Int) (i : Nat) (h : i < L.length) : rd L (i : Int) ∈ L := by
  unfold rd
  rw [Int.toNat_natCast, List.getD_eq_getElem?_getD, List.getElem?_eq_getElem h, Option.getD_some]
  exact List.getElem_mem h
theorem known_l0 (L : List ByteArray) (hL : L.length ≤ 1000) (hf : ∀ s ∈ L, isText s = false ∧ s.size ≤ 1000) (n : Nat) (r : Option Bool) (hn : 2 ≤ n) (hr : chisellaw01_CharsKnown.l0 n L (L.length : Int) (L.length : Int) = r) : ∀ d i k, i + d = L.length → k = n + d → chisellaw01_CharsKnown.l0 k L (L.length : Int) (i : Int) = r := by
  intro d
  induction d with
  | zero => intro i k h hk; rw [show i = L.length from by omega, show k = n from by omega]; exact hr
  | succ d ih =>
    intro i k h hk
    obtain ⟨h1, h2⟩ := hf _ (rdOf_mem L i (by omega))
    obtain ⟨m, rfl⟩ : ∃ m, k = m + 1 := ⟨k - 1, by omega⟩
    simp only [chisellaw01_CharsKnown.l0]
    rw [if_pos (by omega), if_pos (by omega), if_pos (by omega)]
    generalize rdOf ByteArray.empty L (i : Int) = s at *
    have hn : isNm s = false := by unfold isNm; rw [h1]; rfl
    have hcut : (HPure.cut s 0 9).toList = [] := by rw [Lib.toList_data, cut_spec, h1]; rfl
    simp only [points_f s (by omega), isText_f s (by omega), h1, isNm_f s m (by omega) h2, hn, len_f s (by omega), cut_f s _ _ (by omega), Option.bind_some, Bool.false_eq_true, if_false, if_true, List.length_nil, hcut, show ((0 : Nat) : Int) = 0 from rfl]
    rw [w64 (by omega) (by omega), show ((i : Int) + 1) = ((i + 1 : Nat) : Int) from by omega]
    exact ih (i + 1) m (by omega) (by omega)
theorem known_l1 (L : List ByteArray) (hL : L.length ≤ 1000) (hf : ∀ s ∈ L, isNm s = false ∧ s.size ≤ 1000) (n : Nat) (r : Option Bool) (hn : 2 ≤ n) (hr : chisellaw01_CharsKnown.l1 n L (L.length : Int) (L.length : Int) = r) : ∀ d i k, i + d = L.length → k = n + d → chisellaw01_CharsKnown.l1 k L (L.length : Int) (i : Int) = r := by
  intro d
  induction d with
  | zero => intro i k h hk; rw [show i = L.length from by omega, show k = n from by omega]; exact hr
  | succ d ih =>
    intro i k h hk
    obtain ⟨h1, h2⟩ := hf _ (rdOf_mem L i (by omega))
    obtain ⟨m, rfl⟩ : ∃ m, k = m + 1 := ⟨k - 1, by omega⟩
    simp only [chisellaw01_CharsKnown.l1]
    rw [if_pos (by omega), if_pos (by omega), if_pos (by omega)]
    generalize rdOf ByteArray.empty L (i : Int) = s at *
    simp only [isNm_f s m (by omega) h2, h1, Option.bind_some, Bool.false_eq_true, if_false]
    rw [w64 (by omega) (by omega), show ((i : Int) + 1) = ((i + 1 : Nat) : Int) from by omega]
    exact ih (i + 1) m (by omega) (by omega)
theorem known_l2 (L : List ByteArray) (hL : L.length ≤ 1000) (hf : ∀ s ∈ L, isNm s = true ∧ s.size ≤ 1000) (n : Nat) (r : Option Bool) (hn : 2 ≤ n) (hr : chisellaw01_CharsKnown.l2 n L (L.length : Int) (L.length : Int) = r) : ∀ d i k, i + d = L.length → k = n + d → chisellaw01_CharsKnown.l2 k L (L.length : Int) (i : Int) = r := by
  intro d
  induction d with
  | zero => intro i k h hk; rw [show i = L.length from by omega, show k = n from by omega]; exact hr
  | succ d ih =>
    intro i k h hk
    obtain ⟨h1, h2⟩ := hf _ (rdOf_mem L i (by omega))
    obtain ⟨m, rfl⟩ : ∃ m, k = m + 1 := ⟨k - 1, by omega⟩
    simp only [chisellaw01_CharsKnown.l2]
    rw [if_pos (by omega), if_pos (by omega), if_pos (by omega)]
    generalize rdOf ByteArray.empty L (i : Int) = s at *
    simp only [isNm_f s m (by omega) h2, h1, Option.bind_some, if_true]
    rw [w64 (by omega) (by omega), show ((i : Int) + 1) = ((i + 1 : Nat) : Int) from by omega]
    exact ih (i + 1) m (by omega) (by omega)
theorem known_l3 (L : List Int) (hL : L.length ≤ 1000) (hf : ∀ c ∈ L, isChar c = false) (n : Nat) (r : Option Bool) (hn : 2 ≤ n) (hr : chisellaw01_CharsKnown.l3 n L (L.length : Int) (L.length : Int) = r) : ∀ d i k, i + d = L.length → k = n + d → chisellaw01_CharsKnown.l3 k L (L.length : Int) (i : Int) = r := by
  intro d
  induction d with
  | zero => intro i k h hk; rw [show i = L.length from by omega, show k = n from by omega]; exact hr
  | succ d ih =>
    intro i k h hk
    have h1 := hf _ (rd_mem L i (by omega))
    obtain ⟨m, rfl⟩ : ∃ m, k = m + 1 := ⟨k - 1, by omega⟩
    simp only [chisellaw01_CharsKnown.l3]
    rw [if_pos (by omega), if_pos (by omega), if_pos (by omega)]
    generalize rd L (i : Int) = c at *
    have hfrom : chars_From.f [97, c] = some (⟨#[]⟩, 10) := by
      have hz : ([97, c] : List Int).length ≤ 8796093022208 := by simp only [List.length_cons, List.length_nil]; omega
      have ha : ([97, c] : List Int).all isChar = false := by simp only [List.all_cons, h1, Bool.false_and, Bool.and_false]
      rw [from_f _ hz, ha]; rfl
    have hnil : (⟨#[]⟩ : ByteArray).toList = [] := by rw [Lib.toList_data]
    simp only [hfrom, hnil, Option.bind_some, if_true]
    rw [w64 (by omega) (by omega), show ((i : Int) + 1) = ((i + 1 : Nat) : Int) from by omega]
    exact ih (i + 1) m (by omega) (by omega)
theorem all_facts {α : Type} (P : α → Bool) (L : List α) (h : L.all P = true) : ∀ s ∈ L, P s = true := List.all_eq_true.1 h
def R1 : ByteArray := ⟨(Lib.repeatL [97] 101).toArray⟩
def R2 : ByteArray := ⟨(Lib.repeatL [195, 169] 100).toArray⟩
theorem rep1 : strings_Repeat.f ⟨#[97]⟩ 101 = some R1 := by
  unfold strings_Repeat.f
  rw [if_pos (by decide)]; rfl
theorem rep2 : strings_Repeat.f ⟨#[195, 169]⟩ 100 = some R2 := by
  unfold strings_Repeat.f
  rw [if_pos (by decide)]; rfl
def L0 : List ByteArray := [(⟨#[0]⟩ : ByteArray), (⟨#[237, 160, 128]⟩ : ByteArray), (⟨#[192, 128]⟩ : ByteArray), (⟨#[224, 128, 128]⟩ : ByteArray), (⟨#[244, 144, 128, 128]⟩ : ByteArray), (⟨#[239, 191, 190]⟩ : ByteArray), (⟨#[239, 191, 191]⟩ : ByteArray), (⟨#[97, 195]⟩ : ByteArray), (⟨#[31]⟩ : ByteArray), (⟨#[248, 136, 128, 128, 128]⟩ : ByteArray)]
def L1 : List ByteArray := [(⟨#[]⟩ : ByteArray), (⟨#[57, 97]⟩ : ByteArray), (⟨#[58, 97]⟩ : ByteArray), (⟨#[97, 58]⟩ : ByteArray), (⟨#[97, 58, 57]⟩ : ByteArray), (⟨#[97, 58, 98, 58, 99]⟩ : ByteArray), (⟨#[97, 58, 58, 98]⟩ : ByteArray), (⟨#[45, 97]⟩ : ByteArray), (⟨#[46, 97]⟩ : ByteArray), (⟨#[97, 32, 98]⟩ : ByteArray), (⟨#[195, 151]⟩ : ByteArray), (⟨#[195, 183]⟩ : ByteArray), (⟨#[194, 183]⟩ : ByteArray), (⟨#[194, 191]⟩ : ByteArray), R1]
def L2 : List ByteArray := [(⟨#[97]⟩ : ByteArray), (⟨#[95, 45, 46, 57]⟩ : ByteArray), (⟨#[120, 58, 121]⟩ : ByteArray), (⟨#[195, 128]⟩ : ByteArray), (⟨#[97, 194, 183]⟩ : ByteArray), (⟨#[195, 169, 116, 195, 169]⟩ : ByteArray), (⟨#[240, 159, 152, 128]⟩ : ByteArray), (⟨#[90, 58, 95]⟩ : ByteArray), R2]
def L3 : List Int := [0, (-1), 8, 11, 55296, 57343, 65534, 1114112, 1099511627776, (-9223372036854775808)]
theorem f0 : L0.all (fun s => !isText s && decide (s.size ≤ 1000)) = true := by kernel_rfl
theorem f1 : L1.all (fun s => !isNm s && decide (s.size ≤ 1000)) = true := by kernel_rfl
theorem f2 : L2.all (fun s => isNm s && decide (s.size ≤ 1000)) = true := by kernel_rfl
theorem f3 : L3.all (fun c => !isChar c) = true := by kernel_rfl
theorem g0 : ∀ s ∈ L0, isText s = false ∧ s.size ≤ 1000 := fun s h => by have := all_facts _ _ f0 s h; simpa using this
theorem g1 : ∀ s ∈ L1, isNm s = false ∧ s.size ≤ 1000 := fun s h => by have := all_facts _ _ f1 s h; simpa using this
theorem g2 : ∀ s ∈ L2, isNm s = true ∧ s.size ≤ 1000 := fun s h => by have := all_facts _ _ f2 s h; simpa using this
theorem g3 : ∀ c ∈ L3, isChar c = false := fun s h => by have := all_facts _ _ f3 s h; simpa using this
theorem e1 : chars_Cut.f ⟨#[97, 195, 169, 98]⟩ (-5) 99 = some ⟨#[97, 195, 169, 98]⟩ := by kernel_rfl
theorem e2 : chars_Cut.f ⟨#[97, 195, 169, 98]⟩ 2 1 = some ⟨#[]⟩ := by kernel_rfl
theorem e3 : chars_IsSpace.f ⟨#[]⟩ = some true := by kernel_rfl
theorem e4 : chars_IsSpace.f ⟨#[32, 9, 13, 10]⟩ = some true := by kernel_rfl
theorem e5 : chars_IsSpace.f ⟨#[194, 160]⟩ = some false := by kernel_rfl
theorem e6 : chars_Norm.f ⟨#[194, 160, 32]⟩ = some ⟨#[194, 160]⟩ := by kernel_rfl
theorem end3 (k : Nat) (hk : 2 ≤ k) : chisellaw01_CharsKnown.l3 k L3 (L3.length : Int) (L3.length : Int) = some true := by
  obtain ⟨m, rfl⟩ : ∃ m, k = m + 1 := ⟨k - 1, by omega⟩
  simp only [chisellaw01_CharsKnown.l3]
  rw [if_neg (by omega)]
  simp only [e1, e2, e3, e4, e5, e6, works_ok m (by omega), Option.bind_some, Lib.toList_data, if_true, Bool.false_eq_true, if_false]
theorem end2 (k : Nat) (hk : 13 ≤ k) : chisellaw01_CharsKnown.l2 k L2 (L2.length : Int) (L2.length : Int) = some true := by
  obtain ⟨m, rfl⟩ : ∃ m, k = m + 1 := ⟨k - 1, by omega⟩
  simp only [chisellaw01_CharsKnown.l2]
  rw [if_neg (by omega), Option.bind_some]
  exact known_l3 L3 (by decide) g3 (m - 10) _ (by omega) (end3 (m - 10) (by omega)) 10 0 m rfl (by omega)
theorem end1 (k : Nat) (hk : 30 ≤ k) : chisellaw01_CharsKnown.l1 k L1 (L1.length : Int) (L1.length : Int) = some true := by
  obtain ⟨m, rfl⟩ : ∃ m, k = m + 1 := ⟨k - 1, by omega⟩
  simp only [chisellaw01_CharsKnown.l1]
  rw [if_neg (by omega), rep2, Option.bind_some, Option.bind_some]
  exact known_l2 L2 (by decide) g2 (m - 9) _ (by omega) (end2 (m - 9) (by omega)) 9 0 m rfl (by omega)
theorem end0 (k : Nat) (hk : 50 ≤ k) : chisellaw01_CharsKnown.l0 k L0 (L0.length : Int) (L0.length : Int) = some true := by
  obtain ⟨m, rfl⟩ : ∃ m, k = m + 1 := ⟨k - 1, by omega⟩
  simp only [chisellaw01_CharsKnown.l0]
  rw [if_neg (by omega), rep1, Option.bind_some, Option.bind_some]
  exact known_l1 L1 (by decide) g1 (m - 15) _ (by omega) (end1 (m - 15) (by omega)) 15 0 m rfl (by omega)
theorem known_any (k : Nat) (hk : 100 ≤ k) : chisellaw01_CharsKnown.f k = some true := by
  unfold chisellaw01_CharsKnown.f
  rw [Option.bind_some]
  exact known_l0 L0 (by decide) g0 (k - 10) _ (by omega) (end0 (k - 10) (by omega)) 10 0 k rfl (by omega)
theorem CharsKnown : chisellaw01_CharsKnown.Pure := ⟨200, known_any 200 (by omega)⟩
end Go.Proofs.Ytjhnmclancbilaa.Pure
