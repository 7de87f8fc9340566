/- ReadDecimal: both sides. -/
import Derived.Test.YtdbcajiagjeplaaDoorWDec3
import Derived.Test.YtdbcajiagjeplaaDoorFItoa
import Derived.Test.YtdbcajiagjeplaaDoorWIn
set_option linter.unusedVariables false
set_option linter.unusedSimpArgs false
namespace Go.Proofs.YtdbcajiagjeplaaDoor
open Go.RowKit Go.Lib

/-- What is read of a text: a number of 16 digits at most, if the text is that number's. -/
def IsDec (s : ByteArray) (n : Int) (ok : Bool) : Prop :=
  (ok = true ∧ (-1000000000000000 ≤ n ∧ n ≤ 1000000000000000) ∧ s.data.toList = itoa n) ∨ (ok = false ∧ n = 0 ∧ ∀ m, -1000000000000000 ≤ m → m ≤ 1000000000000000 → s.data.toList ≠ itoa m)
theorem IsDec.same {s : ByteArray} {n m : Int} {a b : Bool} (h : IsDec s n a) (g : IsDec s m b) : n = m ∧ a = b := by
  rcases h with ⟨rfl, h1, h2⟩ | ⟨rfl, rfl, h2⟩ <;> rcases g with ⟨rfl, g1, g2⟩ | ⟨rfl, rfl, g2⟩
  · exact ⟨itoa_inj (by omega) (by omega) (h2.symm.trans g2), rfl⟩
  · exact absurd h2 (g2 n h1.1 h1.2)
  · exact absurd g2 (h2 m g1.1 g1.2)
  · exact ⟨rfl, rfl⟩
theorem bytes_eq (s : ByteArray) (l : List UInt8) : (⟨l.toArray⟩ : ByteArray) = s ↔ s.data.toList = l := by
  constructor
  · rintro rfl; simp
  · intro h; rw [← h]
def RetIB (s : ByteArray) (w : World) (e : Ending) (w' : World) : Prop := ∃ n ok, e = .returned (.tuple #[.int .i64 n, .bool ok]) ∧ IsDec s n ok ∧ Below w.heap.size w w'
theorem isDec_no_len {s : ByteArray} (h : s.size < 1 ∨ 17 < s.size) : IsDec s 0 false := by
  refine .inr ⟨rfl, rfl, fun m h0 h1 he => ?_⟩
  have := itoa_len m h0 h1
  rw [← he] at this
  have h2 : s.data.toList.length = s.size := by rw [Array.length_toList]; rfl
  omega
theorem isDec_no {s : ByteArray} {v : Int} (hv : ∀ m, -1000000000000000 ≤ m → m ≤ 1000000000000000 → s.data.toList = itoa m → m = v) (h : ¬ (-1000000000000000 ≤ v ∧ v ≤ 1000000000000000) ∨ s.data.toList ≠ itoa v) : IsDec s 0 false := by
  refine .inr ⟨rfl, rfl, fun m h0 h1 he => ?_⟩
  obtain rfl := hv m h0 h1 he
  rcases h with h | h
  · exact h ⟨h0, h1⟩
  · exact h he

theorem str_ne {s : ByteArray} {l : List UInt8} (h : ¬ (⟨l.toArray⟩ : ByteArray) = s) : (l == s.toList) = false := by
  rw [ByteArray.toList_eq]
  have : ¬ l = s.data.toList := fun e => h ((bytes_eq s l).2 e.symm)
  simpa using this
theorem specValue_len (s : ByteArray) (h : s.size < 1 ∨ 17 < s.size) (w : World) : Calls Tryd.prog 49 #[.string s] w fun e w' => RetIB s w e w' := by
  have hd := isDec_no_len h
  rcases Nat.lt_or_ge s.size 1 with h1 | h1
  · have g1 : (s.size : Int) < 1 := by omega
    go_enter Tryd.func49, Tryd.ntmps49
    go_wp2_with fail
    go_ret2
    exact ⟨_, _, rfl, hd, Below.refl _ _⟩
  · have g1 : ¬ (s.size : Int) < 1 := by omega
    have g2 : (17 : Int) < (s.size : Int) := by omega
    go_enter Tryd.func49, Tryd.ntmps49
    go_wp2_with fail
    go_ret2
    exact ⟨_, _, rfl, hd, Below.refl _ _⟩
theorem specValue_walk (s : ByteArray) (h1 : 1 ≤ s.size) (h2 : s.size ≤ 17) (w : World) : Calls Tryd.prog 49 #[.string s] w fun e w' => RetIB s w e w' := by
  have g1 : ¬ (s.size : Int) < 1 := by omega
  have g2 : ¬ (17 : Int) < (s.size : Int) := by omega
  have hsl : s.data.toList.length = s.size := by rw [Array.length_toList]; rfl
  go_enter Tryd.func49, Tryd.ntmps49
  go_wp2_with fail
  go_loopw [4, 5] (fun nv iv wr => ∃ i : Nat, i ≤ s.size ∧ nv = .int .i64 (((s.data.toList.take i).foldl digF 0 : Nat) : Int) ∧ iv = .int .i64 (i : Int) ∧ wr = w) (fun _ iv _ => s.size - (Go.RowKit.intOf iv).toNat)
  case atStart => exact ⟨0, by omega, rfl, rfl, rfl⟩
  case round =>
    obtain ⟨i, hi, rfl, rfl, rfl⟩ := hrel
    by_cases hlt : i < s.size
    · have g3 : (i : Int) < (s.size : Int) := by omega
      have hli : i < s.data.toList.length := by omega
      have hb : (s.data.toList.take i).foldl digF 0 < 10 ^ 17 := by
        have := fold_bound (s.data.toList.take i) 0 0 (by decide)
        rw [List.length_take, Nat.zero_add] at this
        exact Nat.lt_of_lt_of_le this (Nat.pow_le_pow_right (by decide) (by omega))
      have hnext : (s.data.toList.take (i + 1)).foldl digF 0 = digF ((s.data.toList.take i).foldl digF 0) (s[i]'hlt) := by
        rw [List.take_add_one, List.foldl_append, List.getElem?_eq_getElem hli]
        rfl
      generalize (s.data.toList.take i).foldl digF 0 = F at *
      have HN := Lib.hid hnext
      clear hnext
      by_cases h48 : (48 : Int) ≤ ((s[i]'hlt).toNat : Int)
      · by_cases h57 : ((s[i]'hlt).toNat : Int) ≤ 57
        · have hF : digF F (s[i]'hlt) = 10 * F + ((s[i]'hlt).toNat - 48) := by unfold digF; rw [if_pos (by omega)]
          have HF := Lib.hid (HN.out.trans hF)
          clear hF
          go_wp2_with fail
          go_roundw
          case rel => exact ⟨i + 1, by omega, by rw [HF.out]; congr 1; omega, rfl, trivial⟩
          case measure => simp [Go.RowKit.intOf]; omega
        · have hF : digF F (s[i]'hlt) = F := by unfold digF; rw [if_neg (by omega)]
          have HF := Lib.hid (HN.out.trans hF)
          clear hF
          go_wp2_with fail
          go_roundw
          case rel => exact ⟨i + 1, by omega, by rw [HF.out], rfl, trivial⟩
          case measure => simp [Go.RowKit.intOf]; omega
      · have hF : digF F (s[i]'hlt) = F := by unfold digF; rw [if_neg (by omega)]
        have HF := Lib.hid (HN.out.trans hF)
        clear hF
        go_wp2_with fail
        go_roundw
        case rel => exact ⟨i + 1, by omega, by rw [HF.out], rfl, trivial⟩
        case measure => simp [Go.RowKit.intOf]; omega
    · obtain rfl : i = s.size := by omega
      have hall : s.data.toList.take s.size = s.data.toList := List.take_of_length_le (by omega)
      rw [hall]
      have hb : s.data.toList.foldl digF 0 < 10 ^ 17 := by
        have := fold_bound s.data.toList 0 0 (by decide)
        rw [Nat.zero_add] at this
        exact Nat.lt_of_lt_of_le this (Nat.pow_le_pow_right (by decide) (by omega))
      have hz : s.data.toList.head? = some (s[0]'(by omega)) := by rw [List.head?_eq_getElem?, List.getElem?_eq_getElem (by omega)]; rfl
      have hv : ∀ m, -1000000000000000 ≤ m → m ≤ 1000000000000000 → s.data.toList = itoa m → m = readZ s.data.toList := fun m _ _ h => by rw [h, readZ_itoa]
      have HR : Hid (readZ s.data.toList = if s[0]'(by omega) = 45 then -((s.data.toList.foldl digF 0 : Nat) : Int) else ((s.data.toList.foldl digF 0 : Nat) : Int)) := Lib.hid (by unfold readZ; rw [hz]; simp)
      generalize s.data.toList.foldl digF 0 = F at *
      have HV := Lib.hid hv
      clear hv hz hall
      have fin : ∀ v : Int, readZ s.data.toList = v → -100000000000000000 ≤ v → v ≤ 100000000000000000 →
          (inB v (-1000000000000000) 1000000000000000 = false ∧ IsDec s 0 false) ∨ (inB v (-1000000000000000) 1000000000000000 = true ∧
            (((⟨(itoa v).toArray⟩ : ByteArray) = s ∧ IsDec s v true) ∨ (¬ (⟨(itoa v).toArray⟩ : ByteArray) = s ∧ IsDec s 0 false))) := by
        rintro v rfl h3 h4
        rcases inB_cases (readZ s.data.toList) (-1000000000000000) 1000000000000000 with ⟨h5, h6⟩ | ⟨h5, h6⟩
        · right
          refine ⟨h5, ?_⟩
          by_cases he : (⟨(itoa (readZ s.data.toList)).toArray⟩ : ByteArray) = s
          · exact .inl ⟨he, .inl ⟨rfl, h6, (bytes_eq _ _).1 he⟩⟩
          · exact .inr ⟨he, isDec_no HV.out (.inr fun h => he ((bytes_eq _ _).2 h))⟩
        · exact .inl ⟨h5, isDec_no HV.out (.inl (by omega))⟩
      have HF := Lib.hid fin
      clear fin
      by_cases h45 : s[0]'(by omega) = 45
      · have hh := HR.out
        rw [if_pos h45] at hh
        have hc : ((s[0]'(by omega)).toNat : Int) = 45 := by rw [h45]; rfl
        obtain H := HF.out _ hh (by omega) (by omega)
        clear hh HR HF HV h45
        go_wp2_with fail
        refine (l00In_any _ _ _ _).mono ?_
        rintro e w' ⟨rfl, rfl⟩
        rcases H with ⟨h5, hd⟩ | ⟨h5, ⟨he, hd⟩ | ⟨he, hd⟩⟩
        · rw [h5]
          go_wp2_with fail
          go_ret2
          exact ⟨_, _, rfl, hd, Below.refl _ _⟩
        · rw [h5]
          go_wp2_with fail
          have hsd := specDec_any (-(F : Int)) (by omega) (by omega) wr
          rw [he] at hsd
          refine hsd.mono ?_
          rintro e w2 ⟨rfl, hb2⟩
          go_wp2_with fail
          go_ret2
          exact ⟨_, _, rfl, hd, hb2⟩
        · rw [h5]
          go_wp2_with fail
          refine (specDec_any (-(F : Int)) (by omega) (by omega) wr).mono ?_
          rintro e w2 ⟨rfl, hb2⟩
          have hne := str_ne he
          go_wp2_with fail
          go_ret2
          exact ⟨_, _, rfl, hd, hb2⟩
      · have hh := HR.out
        rw [if_neg h45] at hh
        have hc : ¬ ((s[0]'(by omega)).toNat : Int) = 45 := by
          intro h
          apply h45
          apply UInt8.toNat_inj.1
          show _ = 45
          omega
        obtain H := HF.out _ hh (by omega) (by omega)
        clear hh HR HF HV h45
        go_wp2_with fail
        refine (l00In_any _ _ _ _).mono ?_
        rintro e w' ⟨rfl, rfl⟩
        rcases H with ⟨h5, hd⟩ | ⟨h5, ⟨he, hd⟩ | ⟨he, hd⟩⟩
        · rw [h5]
          go_wp2_with fail
          go_ret2
          exact ⟨_, _, rfl, hd, Below.refl _ _⟩
        · rw [h5]
          go_wp2_with fail
          have hsd := specDec_any ((F : Int)) (by omega) (by omega) wr
          rw [he] at hsd
          refine hsd.mono ?_
          rintro e w2 ⟨rfl, hb2⟩
          go_wp2_with fail
          go_ret2
          exact ⟨_, _, rfl, hd, hb2⟩
        · rw [h5]
          go_wp2_with fail
          refine (specDec_any ((F : Int)) (by omega) (by omega) wr).mono ?_
          rintro e w2 ⟨rfl, hb2⟩
          have hne := str_ne he
          go_wp2_with fail
          go_ret2
          exact ⟨_, _, rfl, hd, hb2⟩
end Go.Proofs.YtdbcajiagjeplaaDoor
