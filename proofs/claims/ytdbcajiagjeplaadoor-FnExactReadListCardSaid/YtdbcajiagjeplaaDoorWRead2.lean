/- ReadDecimal of the program, and the law. -/
import Derived.Test.YtdbcajiagjeplaaDoorWRead
import Derived.Test.YtdbcajiagjeplaaDoorShelfP
set_option linter.unusedVariables false
set_option linter.unusedSimpArgs false
namespace Go.Proofs.YtdbcajiagjeplaaDoor
open Go.RowKit Go.Lib

/-- A variable that holds an error. -/
def Sent (w : World) (name : String) : Prop := ∃ tp p, w.var? Tryd.prog name = some #[.iface tp p]
theorem err_named : (∃ g, Tryd.prog.globalNamed "strconv.ErrSyntax" = some g) ∧ (∃ g, Tryd.prog.globalNamed "strconv.ErrRange" = some g) := ⟨Option.isSome_iff_exists.1 (by kernel_rfl), Option.isSome_iff_exists.1 (by kernel_rfl)⟩
structure Errs (w : World) : Prop where
  bad : Sent w "strconv.ErrSyntax"
  far : Sent w "strconv.ErrRange"
theorem Errs.below {w w' : World} (h : Errs w) {B : Nat} (hB : w.heap.size ≤ B) (hb : Below B w w') : Errs w' := by
  obtain ⟨⟨g1, hg1⟩, ⟨g2, hg2⟩⟩ := err_named
  obtain ⟨⟨t1, p1, h1⟩, ⟨t2, p2, h2⟩⟩ := h
  exact ⟨⟨t1, p1, Go.Joins.var_stays hg1 h1 hb hB⟩, ⟨t2, p2, Go.Joins.var_stays hg2 h2 hb hB⟩⟩

theorem strParse_ok (s : ByteArray) (hs : s.size ≤ 1048576) (v : Int) (h : parseIntB 64 s.data.toList = .ok v) (w : World) :
    Calls Tryd.prog 50 #[.string s, .int .i64 10, .int .i64 64] w fun e w' => e = .returned (.tuple #[.int .i64 v, .nilIface]) ∧ Below w.heap.size w w' := by
  refine (Tryd.strconv_ParseInt_10_at64_ok s (by omega) v h w).mono ?_
  rintro e w' ⟨rfl, hw⟩
  refine ⟨rfl, ?_⟩
  rcases hw with rfl | ⟨t, rfl⟩
  · exact Below.refl _ _
  · exact Go.Joins.below_bytesWorld _ _ _ _ (Nat.le_refl _)
theorem strParse_err (s : ByteArray) (hs : s.size ≤ 1048576) (h : ∀ v, parseIntB 64 s.data.toList ≠ .ok v) (w : World) (he : Errs w) :
    Calls Tryd.prog 50 #[.string s, .int .i64 10, .int .i64 64] w fun e w' => (∃ n t N, e = .returned (.tuple #[.int .i64 n, .iface t (.pointer (some ⟨N, 0, none⟩))])) ∧ Below w.heap.size w w' := by
  obtain ⟨⟨t1, p1, h1⟩, ⟨t2, p2, h2⟩⟩ := he
  cases hp : parseIntB 64 s.data.toList
  · exact absurd hp (h _)
  · refine (Any.strconv_ParseInt_10_at64_syntax_var Tryd.laysC174 s (by omega) hp t1 p1 w h1).mono ?_
    rintro e w' ⟨N, rfl, _, _, hb⟩
    exact ⟨⟨_, _, N, rfl⟩, hb⟩
  · refine (Any.strconv_ParseInt_10_at64_range_var Tryd.laysC174 s (by omega) hp t2 p2 w h2).mono ?_
    rintro e w' ⟨N, rfl, _, _, hb⟩
    exact ⟨⟨_, _, N, rfl⟩, hb⟩
theorem isValue_any (n : Int) (w : World) : Calls Tryd.prog 43 #[.int .i64 n] w fun e w' => e = .returned (.bool (inB n (-1000000000000000) 1000000000000000)) ∧ w = w' := by
  go_enter Tryd.func43, Tryd.ntmps43
  go_wp2_with fail
  refine (within_any _ _ _ _).mono ?_
  rintro e w' ⟨rfl, rfl⟩
  go_wp2_with fail
  go_ret
  exact ⟨rfl, rfl⟩
theorem implRead_err (s : ByteArray) (hs : s.size ≤ 1048576) (h : ∀ v, parseIntB 64 s.data.toList ≠ .ok v) (w : World) (he : Errs w) : Calls Tryd.prog 24 #[.string s] w fun e w' => RetIB s w e w' := by
  have hd : IsDec s 0 false := .inr ⟨rfl, rfl, fun m h0 h1 e => h m (by rw [e]; exact parse_itoa m (by omega) (by omega))⟩
  go_enter Tryd.func24, Tryd.ntmps24
  go_wp2_with fail
  refine (strParse_err s hs h _ he).mono ?_
  rintro e w' ⟨⟨n, t, N, rfl⟩, hb⟩
  go_wp2_with fail
  go_ret2
  exact ⟨_, _, rfl, hd, hb⟩
theorem implRead_ok (s : ByteArray) (hs : s.size ≤ 1048576) (v : Int) (h : parseIntB 64 s.data.toList = .ok v) (w : World) (ht : Pow10 w) : Calls Tryd.prog 24 #[.string s] w fun e w' => RetIB s w e w' := by
  have hv : ∀ m, -1000000000000000 ≤ m → m ≤ 1000000000000000 → s.data.toList = itoa m → m = v := fun m h0 h1 e => by
    rw [e, parse_itoa m (by omega) (by omega)] at h
    exact NumEnd.ok.inj h
  rcases inB_cases v (-1000000000000000) 1000000000000000 with ⟨h5, h6⟩ | ⟨h5, h6⟩
  · by_cases he : (⟨(itoa v).toArray⟩ : ByteArray) = s
    · have hd : IsDec s v true := .inl ⟨rfl, h6, (bytes_eq _ _).1 he⟩
      go_enter Tryd.func24, Tryd.ntmps24
      go_wp2_with fail
      refine (strParse_ok s hs v h _).mono ?_
      rintro e w1 ⟨rfl, hb⟩
      go_wp2_with fail
      refine (isValue_any _ _).mono ?_
      rintro e w' ⟨rfl, rfl⟩
      rw [h5]
      go_wp2_with fail
      have hsd := implDecimal_any v (by omega) (by omega) w1 (ht.below (Nat.le_refl _) hb)
      rw [he] at hsd
      refine hsd.mono ?_
      rintro e w2 ⟨rfl, hb2⟩
      go_wp2_with fail
      go_ret2
      exact ⟨_, _, rfl, hd, hb.trans (hb2.mono hb.size)⟩
    · have hd : IsDec s 0 false := isDec_no hv (.inr fun h => he ((bytes_eq _ _).2 h))
      have hne := str_ne he
      go_enter Tryd.func24, Tryd.ntmps24
      go_wp2_with fail
      refine (strParse_ok s hs v h _).mono ?_
      rintro e w1 ⟨rfl, hb⟩
      go_wp2_with fail
      refine (isValue_any _ _).mono ?_
      rintro e w' ⟨rfl, rfl⟩
      rw [h5]
      go_wp2_with fail
      refine (implDecimal_any v (by omega) (by omega) w1 (ht.below (Nat.le_refl _) hb)).mono ?_
      rintro e w2 ⟨rfl, hb2⟩
      go_wp2_with fail
      go_ret2
      exact ⟨_, _, rfl, hd, hb.trans (hb2.mono hb.size)⟩
  · have hd : IsDec s 0 false := isDec_no hv (.inl (by omega))
    go_enter Tryd.func24, Tryd.ntmps24
    go_wp2_with fail
    refine (strParse_ok s hs v h _).mono ?_
    rintro e w1 ⟨rfl, hb⟩
    go_wp2_with fail
    refine (isValue_any _ _).mono ?_
    rintro e w' ⟨rfl, rfl⟩
    rw [h5]
    go_wp2_with fail
    go_ret2
    exact ⟨_, _, rfl, hd, hb⟩
theorem implRead_any (s : ByteArray) (hs : s.size ≤ 1048576) (w : World) (ht : Pow10 w) (he : Errs w) : Calls Tryd.prog 24 #[.string s] w fun e w' => RetIB s w e w' := by
  by_cases h : ∃ v, parseIntB 64 s.data.toList = .ok v
  · obtain ⟨v, hv⟩ := h
    exact implRead_ok s hs v hv w ht
  · exact implRead_err s hs (fun v hv => h ⟨v, hv⟩) w he
theorem specValue_any (s : ByteArray) (w : World) : Calls Tryd.prog 49 #[.string s] w fun e w' => RetIB s w e w' := by
  by_cases h : s.size < 1 ∨ 17 < s.size
  · exact specValue_len s h w
  · exact specValue_walk s (by omega) (by omega) w
theorem specRead_any (s : ByteArray) (w : World) : Calls Tryd.prog 23 #[.string s] w fun e w' => RetIB s w e w' := by
  go_enter Tryd.func23, Tryd.ntmps23
  go_wp2_with fail
  refine (specValue_any s _).mono ?_
  rintro e w' ⟨n, ok, rfl, hd, hb⟩
  go_wp2_with fail
  go_ret2
  exact ⟨_, _, rfl, hd, hb⟩
theorem fnExactReadDecimal_walk (s : ByteArray) (ws : s.size ≤ maxLen) (w : World) (ht : Pow10 w) (he : Errs w) :
    Calls Tryd.prog 7 #[.string s] w fun e w' => e = .returned (.bool true) ∧ Below w.heap.size w w' := by
  by_cases hs : s.size ≤ 1048576
  · have g1 : ¬ (1048576 : Int) < (s.size : Int) := by omega
    go_enter Tryd.func7, Tryd.ntmps7
    go_wp2_with fail
    refine (specRead_any s _).mono ?_
    rintro e w1 ⟨n, ok, rfl, hd, hb⟩
    go_wp2_with fail
    refine (implRead_any s hs _ (ht.below (Nat.le_refl _) hb) (he.below (Nat.le_refl _) hb)).mono ?_
    rintro e w2 ⟨m, ok2, rfl, hd2, hb2⟩
    obtain ⟨rfl, rfl⟩ := hd.same hd2
    go_wp2_with fail
    go_ret
    exact ⟨rfl, hb.trans (hb2.mono hb.size)⟩
  · have g1 : (1048576 : Int) < (s.size : Int) := by omega
    go_enter Tryd.func7, Tryd.ntmps7
    go_wp2_with fail
    go_ret
    exact ⟨rfl, Below.refl _ _⟩
end Go.Proofs.YtdbcajiagjeplaaDoor
