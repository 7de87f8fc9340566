/- Complex numbers whose parts hold integers: products, powers, quotients. -/
import Derived.Test.YtdbcajiagjeplaaGreatDoorZFIntC
import Derived.Test.YtdbcajiagjeplaaGreatDoorZFAng
import Derived.Laws.Cover3
import Derived.Test.YtdbcajiagjeplaaGreatDoorZWCsrc
set_option linter.unusedVariables false
set_option linter.unusedSimpArgs false
namespace Go.Proofs.YtdbcajiagjeplaaGreatDoor
open Ieee Go.RowKit near

theorem b64 : 2 * FloatKind.f64.format.binade = 9007199254740992 := rfl
theorem b32 : 2 * FloatKind.f32.format.binade = 16777216 := rfl
theorem wideI {x : Nat} {n : Int} (hx : IsI .f32 x n) (hb : n.natAbs < 9007199254740992) : ∃ A, IsI .f64 A n ∧ A = FloatKind.f64.encode (FloatKind.f32.decode x) ∧ ∀ W, (convert 24 44 (.float .f32 x)).run Tryz.prog W = .ok (.float .f64 A) W :=
  ⟨_, hx.conv (by rw [b64]; exact hb), rfl, fun W => run_convert_float_float W 24 44 .f32 .f64 x _ (by kernel_rfl) (by kernel_rfl) (wide_bits hx.num)⟩
theorem narrowI {x : Nat} {n : Int} (hx : IsI .f64 x n) (hb : n.natAbs < 16777216) : ∃ A, IsI .f32 A n ∧ ∀ W, (convert 44 24 (.float .f64 x)).run Tryz.prog W = .ok (.float .f32 A) W := by
  refine ⟨_, hx.conv (by rw [b32]; exact hb), fun W => run_convert_float_float W 44 24 .f64 .f32 x _ (by kernel_rfl) (by kernel_rfl) (narrow_bits hx.num ?_)⟩
  have := hx.fits (by rw [b32]; exact hb)
  rw [hx.val] at this
  exact this
theorem mulI {x y : Nat} {m n : Int} (hx : IsI .f64 x m) (hy : IsI .f64 y n) (hb : (m * n).natAbs < 9007199254740992) : ∃ r, IsI .f64 r (m * n) ∧ floatBits .mul .f64 x y = some r ∧ ∀ W, (binOp .mul 44 (.float .f64 x) (.float .f64 y)).run Tryz.prog W = .ok (.float .f64 r) W := by
  obtain ⟨r, h, hi⟩ := hx.mul hy (by rw [b64]; exact hb)
  exact ⟨r, hi, h, fun W => run_float_arith W .mul 44 .f64 x y r h⟩
theorem addI {x y : Nat} {m n : Int} (hx : IsI .f64 x m) (hy : IsI .f64 y n) (hb : (m + n).natAbs < 9007199254740992) : ∃ r, IsI .f64 r (m + n) ∧ floatBits .add .f64 x y = some r ∧ ∀ W, (binOp .add 44 (.float .f64 x) (.float .f64 y)).run Tryz.prog W = .ok (.float .f64 r) W := by
  obtain ⟨r, h, hi⟩ := hx.add hy (by rw [b64]; exact hb)
  exact ⟨r, hi, h, fun W => run_float_arith W .add 44 .f64 x y r h⟩
theorem subI {x y : Nat} {m n : Int} (hx : IsI .f64 x m) (hy : IsI .f64 y n) (hb : (m - n).natAbs < 9007199254740992) : ∃ r, IsI .f64 r (m - n) ∧ ∀ W, (binOp .sub 44 (.float .f64 x) (.float .f64 y)).run Tryz.prog W = .ok (.float .f64 r) W := by
  obtain ⟨r, h, hi⟩ := hx.sub hy (by rw [b64]; exact hb)
  exact ⟨r, hi, fun W => run_float_arith W .sub 44 .f64 x y r h⟩
theorem quoI {x y : Nat} {q n : Int} (hx : IsI .f64 x (q * n)) (hy : IsI .f64 y n) (hn : n ≠ 0) (hb : q.natAbs < 9007199254740992) : ∃ r, IsI .f64 r q ∧ ∀ W, (binOp .quo 44 (.float .f64 x) (.float .f64 y)).run Tryz.prog W = .ok (.float .f64 r) W := by
  obtain ⟨r, h, hi⟩ := hx.quo hy hn (by rw [b64]; exact hb)
  exact ⟨r, hi, fun W => run_float_arith W .quo 44 .f64 x y r h⟩
/-- A product of two numbers of at most M and N is at most M N. -/
theorem abs_mul_le {m n : Int} {M N : Nat} (hm : m.natAbs ≤ M) (hn : n.natAbs ≤ N) : (m * n).natAbs ≤ M * N := by
  rw [Int.natAbs_mul]; exact Nat.mul_le_mul hm hn
theorem times_int {xr xi yr yi : Nat} {a b c d : Int} (h1 : IsI .f32 xr a) (h2 : IsI .f32 xi b) (h3 : IsI .f32 yr c) (h4 : IsI .f32 yi d) (ha : a.natAbs ≤ 100000) (hb : b.natAbs ≤ 100000) (hc : c.natAbs ≤ 100000) (hd : d.natAbs ≤ 100000) :
    ∃ r s, IsI .f64 r (a * c - b * d) ∧ IsI .f64 s (a * d + b * c) ∧ ∀ w : World, Calls Tryz.prog 61 #[.complex .f32 xr xi, .complex .f32 yr yi] w fun e w' => e = .returned (.tuple #[.float .f64 r, .float .f64 s]) ∧ w = w' := by
  obtain ⟨A, hA, -, cA⟩ := wideI h1 (by omega)
  obtain ⟨B, hB, -, cB⟩ := wideI h2 (by omega)
  obtain ⟨C, hC, -, cC⟩ := wideI h3 (by omega)
  obtain ⟨D, hD, -, cD⟩ := wideI h4 (by omega)
  have m1 := abs_mul_le ha hc
  have m2 := abs_mul_le hb hd
  have m3 := abs_mul_le ha hd
  have m4 := abs_mul_le hb hc
  obtain ⟨p1, q1, -, r1⟩ := mulI hA hC (by omega)
  obtain ⟨p2, q2, -, r2⟩ := mulI hB hD (by omega)
  obtain ⟨p3, q3, -, r3⟩ := mulI hA hD (by omega)
  obtain ⟨p4, q4, -, r4⟩ := mulI hB hC (by omega)
  obtain ⟨r, hr, r5⟩ := subI q1 q2 (by omega)
  obtain ⟨s, hs, -, r6⟩ := addI q3 q4 (by omega)
  refine ⟨r, s, hr, hs, fun w => ?_⟩
  clear h1 h2 h3 h4 ha hb hc hd hA hB hC hD m1 m2 m3 m4 q1 q2 q3 q4 hr hs
  go_enter Tryz.func61, Tryz.ntmps61
  go_wp2
  go_ret2
  exact ⟨rfl, rfl⟩
theorem mul_int {xr xi yr yi : Nat} {a b c d : Int} (h1 : IsI .f32 xr a) (h2 : IsI .f32 xi b) (h3 : IsI .f32 yr c) (h4 : IsI .f32 yi d) (ha : a.natAbs ≤ 200) (hb : b.natAbs ≤ 200) (hc : c.natAbs ≤ 200) (hd : d.natAbs ≤ 200) :
    ∃ r s, IsI .f32 r (a * c - b * d) ∧ IsI .f32 s (a * d + b * c) ∧ ∀ w : World, Calls Tryz.prog 22 #[.complex .f32 xr xi, .complex .f32 yr yi] w fun e w' => e = .returned (.complex .f32 r s) ∧ w = w' := by
  obtain ⟨r0, s0, hr0, hs0, ht⟩ := times_int h1 h2 h3 h4 (by omega) (by omega) (by omega) (by omega)
  have m1 := abs_mul_le ha hc
  have m2 := abs_mul_le hb hd
  have m3 := abs_mul_le ha hd
  have m4 := abs_mul_le hb hc
  obtain ⟨r, hr, cr⟩ := narrowI hr0 (by omega)
  obtain ⟨s, hs, cs⟩ := narrowI hs0 (by omega)
  refine ⟨r, s, hr, hs, fun w => ?_⟩
  have HT := Lib.hid ht
  clear h1 h2 h3 h4 ha hb hc hd m1 m2 m3 m4 hr hs hr0 hs0 ht
  go_enter Tryz.func22, Tryz.ntmps22
  go_wp2_with fail
  refine (HT.out _).mono ?_
  rintro e w' ⟨rfl, rfl⟩
  go_wp2_with fail
  go_ret
  exact ⟨rfl, rfl⟩
/-- The power as a 64-bit number: its word has the sign of a positive one. -/
theorem power_int {xr xi : Nat} {a b : Int} (h1 : IsI .f32 xr a) (h2 : IsI .f32 xi b) (ha : a.natAbs ≤ 100000) (hb : b.natAbs ≤ 100000) :
    ∃ p, IsI .f64 p (a * a + b * b) ∧ sgn FloatKind.f64.format p = false ∧ ∀ w : World, Calls Tryz.prog 62 #[.complex .f32 xr xi] w fun e w' => e = .returned (.float .f64 p) ∧ w = w' := by
  obtain ⟨A, hA, -, cA⟩ := wideI h1 (by omega)
  obtain ⟨B, hB, -, cB⟩ := wideI h2 (by omega)
  have m1 := abs_mul_le ha ha
  have m2 := abs_mul_le hb hb
  obtain ⟨p1, q1, e1, r1⟩ := mulI hA hA (by omega)
  obtain ⟨p2, q2, e2, r2⟩ := mulI hB hB (by omega)
  obtain ⟨p, hp, e3, r3⟩ := addI q1 q2 (by omega)
  have s1 := mul_self_sgn hA.fin e1
  have s2 := mul_self_sgn hB.fin e2
  refine ⟨p, hp, (add_pos q1.fin q2.fin s1 s2 e3).1, fun w => ?_⟩
  clear h1 h2 ha hb hA hB m1 m2 q1 q2 hp e1 e2 e3 s1 s2
  go_enter Tryz.func62, Tryz.ntmps62
  go_wp2
  skip
  go_ret
  exact ⟨rfl, rfl⟩
theorem powerOf_int {xr xi : Nat} {a b : Int} (h1 : IsI .f32 xr a) (h2 : IsI .f32 xi b) (ha : a.natAbs ≤ 200) (hb : b.natAbs ≤ 200) :
    ∃ p, IsI .f32 p (a * a + b * b) ∧ ∀ w : World, Calls Tryz.prog 23 #[.complex .f32 xr xi] w fun e w' => e = .returned (.float .f32 p) ∧ w = w' := by
  obtain ⟨p0, hp0, -, ht⟩ := power_int h1 h2 (by omega) (by omega)
  have m1 := abs_mul_le ha ha
  have m2 := abs_mul_le hb hb
  obtain ⟨p, hp, cp⟩ := narrowI hp0 (by omega)
  refine ⟨p, hp, fun w => ?_⟩
  have HT := Lib.hid ht
  clear h1 h2 ha hb m1 m2 hp hp0 ht
  go_enter Tryz.func23, Tryz.ntmps23
  go_wp2_with fail
  refine (HT.out _).mono ?_
  rintro e w' ⟨rfl, rfl⟩
  go_wp2_with fail
  go_ret
  exact ⟨rfl, rfl⟩
end Go.Proofs.YtdbcajiagjeplaaGreatDoor
set_option linter.unusedVariables false
set_option linter.unusedSimpArgs false
namespace Go.Proofs.YtdbcajiagjeplaaGreatDoor
open Ieee Go.RowKit near

theorem conj_any (xr xi : Nat) (w : World) : Calls Tryz.prog 24 #[.complex .f32 xr xi] w fun e w' => e = .returned (.complex .f32 xr (Op.negFloat .f32 xi)) ∧ w = w' := by
  have hneg : ∀ W, (Op.unary UnOp.neg (Value.float .f32 xi)).run Tryz.prog W = .ok (.float .f32 (Op.negFloat .f32 xi)) W := fun _ => rfl
  go_enter Tryz.func24, Tryz.ntmps24
  go_wp2
  go_ret
  exact ⟨rfl, rfl⟩
theorem quo_ring1 (a b c d : Int) : (a * c - b * d) * c - (a * d + b * c) * (-d) = a * (c * c + d * d) := by grind
theorem quo_ring2 (a b c d : Int) : (a * c - b * d) * (-d) + (a * d + b * c) * c = b * (c * c + d * d) := by grind
theorem sq_pos {c d : Int} (h : ¬ (c = 0 ∧ d = 0)) : c * c + d * d ≠ 0 := by
  have h1 : 0 ≤ c * c := by
    rcases Int.le_total 0 c with h | h
    · exact Int.mul_nonneg h h
    · exact Int.mul_nonneg_of_nonpos_of_nonpos h h
  have h2 : 0 ≤ d * d := by
    rcases Int.le_total 0 d with h | h
    · exact Int.mul_nonneg h h
    · exact Int.mul_nonneg_of_nonpos_of_nonpos h h
  intro h0
  have h3 : c * c = 0 := by omega
  have h4 : d * d = 0 := by omega
  exact h ⟨by simpa using Int.mul_eq_zero.1 h3, by simpa using Int.mul_eq_zero.1 h4⟩
theorem quot_int {pr pi yr yi : Nat} {a b c d : Int} (h1 : IsI .f32 pr (a * c - b * d)) (h2 : IsI .f32 pi (a * d + b * c)) (h3 : IsI .f32 yr c) (h4 : IsI .f32 yi d) (ha : a.natAbs ≤ 200) (hb : b.natAbs ≤ 200) (hc : c.natAbs ≤ 200) (hd : d.natAbs ≤ 200) (h0 : ¬ (c = 0 ∧ d = 0)) :
    ∃ r s, IsI .f32 r a ∧ IsI .f32 s b ∧ ∀ w : World, Calls Tryz.prog 27 #[.complex .f32 pr pi, .complex .f32 yr yi] w fun e w' => e = .returned (.complex .f32 r s) ∧ w = w' := by
  have m1 := abs_mul_le ha hc
  have m2 := abs_mul_le hb hd
  have m3 := abs_mul_le ha hd
  have m4 := abs_mul_le hb hc
  have hneg := h4.neg
  obtain ⟨r0, s0, hr0, hs0, ht⟩ := times_int h1 h2 h3 hneg (by omega) (by omega) (by omega) (by omega)
  obtain ⟨n, hn, -, hp⟩ := power_int h3 h4 (by omega) (by omega)
  rw [quo_ring1] at hr0
  rw [quo_ring2] at hs0
  have hne := sq_pos h0
  obtain ⟨r1, hr1, c1⟩ := quoI hr0 hn hne (by omega)
  obtain ⟨s1, hs1, c2⟩ := quoI hs0 hn hne (by omega)
  obtain ⟨r, hr, c3⟩ := narrowI hr1 (by omega)
  obtain ⟨s, hs, c4⟩ := narrowI hs1 (by omega)
  refine ⟨r, s, hr, hs, fun w => ?_⟩
  have HT := Lib.hid (And.intro ht hp)
  clear h1 h2 h3 h4 ha hb hc hd h0 m1 m2 m3 m4 hneg hr0 hs0 hn hne hr1 hs1 hr hs ht hp
  go_enter Tryz.func27, Tryz.ntmps27
  go_wp2_with fail
  refine (conj_any yr yi _).mono ?_
  rintro e w' ⟨rfl, rfl⟩
  go_wp2_with fail
  refine (HT.out.1 _).mono ?_
  rintro e w' ⟨rfl, rfl⟩
  go_wp2_with fail
  refine (HT.out.2 _).mono ?_
  rintro e w' ⟨rfl, rfl⟩
  go_wp2_with fail
  go_ret
  exact ⟨rfl, rfl⟩
theorem long_int {xr xi pw : Nat} {a b : Int} (h1 : IsI .f32 xr a) (h2 : IsI .f32 xi b) (ha : a.natAbs ≤ 200) (hb : b.natAbs ≤ 200) (hw : IsI .f32 pw (a * a + b * b)) (hs : sgn FloatKind.f32.format pw = false) (w : World) :
    Calls Tryz.prog 25 #[.complex .f32 xr xi] w fun e w' => RetF .f32 (fnarrow (fsqrt (fwide (val .f32 pw)))) w e w' := by
  obtain ⟨p, hp, hsp, ht⟩ := power_int h1 h2 (by omega) (by omega)
  have m1 := abs_mul_le ha ha
  have m2 := abs_mul_le hb hb
  have hww : IsI .f64 (FloatKind.f64.encode (FloatKind.f32.decode pw)) (a * a + b * b) := hw.conv (by rw [b64]; omega)
  have hsw : sgn FloatKind.f64.format (FloatKind.f64.encode (FloatKind.f32.decode pw)) = false := by
    obtain ⟨q, hq, hlt, _⟩ := wide_number (b := pw) (by have := hw.fin; rw [inf32] at this; exact this)
    have hsgw : FloatKind.f64.format.signWeight = 9223372036854775808 := rfl
    rw [hq, sgn_word .f64 _ q (by rw [hsgw]; omega), hs]
  have hpe : p = FloatKind.f64.encode (FloatKind.f32.decode pw) := hp.word_eq hww (hsp.trans hsw.symm)
  have hval : val .f64 p = fwide (val .f32 pw) := by
    rw [hp.val, hw.val, hpe]; rfl
  have HT := Lib.hid ht
  have HV := Lib.hid hval
  have HF := Lib.hid (fits_sqrt pw)
  clear h1 h2 ha hb m1 m2 hw hs hp hsp hww hsw hpe ht hval
  go_enter Tryz.func25, Tryz.ntmps25
  go_wp2_with fail
  refine (HT.out _).mono ?_
  rintro e w' ⟨rfl, rfl⟩
  go_wp2_with fail
  refine (mathSqrt_any p _).mono ?_
  rintro e w1 ⟨r, q, rfl, hr, rfl⟩
  rw [HV.out] at hr
  have HR := Lib.hid hr
  clear hr
  go_wp2_with (refine wpList_narrow rfl _ _ _ rfl (by kernel_rfl) (by kernel_rfl) _ rfl (by rw [HR.out.out]; exact HF.out) ?_; intro r2 n2 hr2)
  go_ret
  rw [HR.out.out] at hr2
  exact ⟨_, _, rfl, hr2, rfl⟩
theorem two_f32 : IsI .f32 1073741824 2 := by
  have h := isI_of .f32 2 (by rw [b32]; omega)
  rwa [show FloatKind.f32.nearest 2 = 1073741824 by decide +kernel] at h
theorem scale_int {xr xi : Nat} {a b : Int} (h1 : IsI .f32 xr a) (h2 : IsI .f32 xi b) (ha : a.natAbs ≤ 200) (hb : b.natAbs ≤ 200) :
    ∃ r s, IsI .f32 r (a * 2) ∧ IsI .f32 s (b * 2) ∧ ∀ w : World, Calls Tryz.prog 28 #[.complex .f32 xr xi, .float .f32 1073741824] w fun e w' => e = .returned (.complex .f32 r s) ∧ w = w' := by
  obtain ⟨r, c1, hr⟩ := h1.mul two_f32 (by rw [b32]; omega)
  obtain ⟨s, c2, hs⟩ := h2.mul two_f32 (by rw [b32]; omega)
  have k1 := fun W => run_float_arith (P := Tryz.prog) W .mul 24 .f32 xr 1073741824 r c1
  have k2 := fun W => run_float_arith (P := Tryz.prog) W .mul 24 .f32 xi 1073741824 s c2
  refine ⟨r, s, hr, hs, fun w => ?_⟩
  clear h1 h2 ha hb c1 c2 hr hs
  go_enter Tryz.func28, Tryz.ntmps28
  go_wp2
  go_ret
  exact ⟨rfl, rfl⟩
/-- A sum of a complex number with itself. -/
theorem twice_int {xr xi : Nat} {a b : Int} (h1 : IsI .f32 xr a) (h2 : IsI .f32 xi b) (ha : a.natAbs ≤ 200) (hb : b.natAbs ≤ 200) : ∃ r s, IsI .f32 r (a + a) ∧ IsI .f32 s (b + b) ∧ floatBits .add .f32 xr xr = some r ∧ floatBits .add .f32 xi xi = some s := by
  obtain ⟨r, c1, hr⟩ := h1.add h1 (by rw [b32]; omega)
  obtain ⟨s, c2, hs⟩ := h2.add h2 (by rw [b32]; omega)
  exact ⟨r, s, hr, hs, c1, c2⟩
/-- Equal as complex numbers. -/
theorem cx_eq {r s r' s' : Nat} {m n : Int} (h1 : IsI .f32 r m) (h2 : IsI .f32 s n) (h3 : IsI .f32 r' m) (h4 : IsI .f32 s' n) : ((FloatKind.f32.format.order r r' == some .eq) && (FloatKind.f32.format.order s s' == some .eq)) = true := by
  rw [h1.order h3, h2.order h4]; simp
end Go.Proofs.YtdbcajiagjeplaaGreatDoor
set_option linter.unusedVariables false
set_option linter.unusedSimpArgs false
namespace Go.Proofs.YtdbcajiagjeplaaGreatDoor
open Ieee Go.RowKit near

/-- A row of one complex number of integers. -/
def RetW (w : World) (e : Ending) (w' : World) : Prop := ∃ (A : Option Addr) (c : Nat) (a b : Int), a.natAbs ≤ 200 ∧ b.natAbs ≤ 200 ∧ e = .returned (.slice A 1 c) ∧ Row w' w'.heap.size A 1 (fun _ => .complex .f32 (FloatKind.f32.nearest a) (FloatKind.f32.nearest b)) ∧ Below w.heap.size w w'
set_option maxRecDepth 20000 in
set_option maxHeartbeats 1600000 in
theorem b10Whole_any (A : Option Addr) (n c : Nat) (f : Nat → Int) (w : World) (hr : Bytes w w.heap.size A n f) : Calls Tryz.prog 21 #[.slice A n c, .int .i64 1, .int .i64 200] w fun e w' => RetW w e w' := by
  obtain ⟨i0, hi0, hz0, hz1, hz2⟩ := info_parts info_cx
  go_enter Tryz.func21, Tryz.ntmps21
  go_wp2_with fail
  refine (from_any A n c _).mono ?_
  rintro e w1 ⟨rfl, hs1, hb1, hz1'⟩
  go_wp2_with fail
  have hb0 : Below w1.heap.size w1 (w1.alloc (.cells #[] 42)) := (Below.refl _ _).alloc (Nat.le_refl _) _
  have hs0 := hs1.below hb0 hs1.block
  have hb2 : Below w.heap.size w (w1.alloc (.cells #[] 42)) := hb1.trans (hb0.mono (by omega))
  have hr2 := hr.below hb2
  have ho0 := own_empty w1 42
  have hsz0 : w.heap.size ≤ (w1.alloc (.cells #[] 42)).heap.size := hb2.size
  clear hr2 hb0 hb1 hs1
  go_loopw [1, 8] (fun nv ov wr => ∃ j : Nat, nv = .int .i64 (1 - (j : Int)) ∧ j ≤ 1 ∧ (j = 0 → wr.ownsRow w1.heap.size 42 1 ov 0 []) ∧ (j = 1 → ∃ a b : Int, a.natAbs ≤ 200 ∧ b.natAbs ≤ 200 ∧ wr.ownsRow w1.heap.size 42 1 ov 1 [.complex .f32 (FloatKind.f32.nearest a) (FloatKind.f32.nearest b)]) ∧ Below w.heap.size w wr ∧ w1.heap.size ≤ wr.heap.size ∧ Src wr w.heap.size A n c (4 * j)) (fun nv _ _ => (Go.RowKit.intOf nv).toNat)
  case atStart => exact ⟨0, rfl, by omega, (fun _ => by simpa only [hz1'] using ho0), (fun h => by cases h), hb2, by simp, hs0⟩
  case round =>
    obtain ⟨j, rfl, hj, h0, h1, hb, hz, hsr⟩ := hrel
    by_cases hlt : j = 0
    · subst hlt
      have ho := h0 rfl
      have hblk : w.heap.size < w1.heap.size := by omega
      clear h0 h1 hs0 hb2 ho0
      have hrr := hr.below hb
      go_wp2_with fail
      refine (pick_any w.heap.size A n c 0 w.heap.size 401 f _ (by omega) (by omega) hsr (by omega) hrr (Nat.le_refl _)).mono ?_
      rintro e w2 ⟨x, rfl, hx, hs2, hg2⟩
      have ho2 := own_src ho hg2 (own_ne ho hblk)
      have hb3 := hb.trans (below_src hg2 (by omega) (Nat.le_refl _))
      have hr3 := hr.below hb3
      have hx1 : (x : Int) < 401 := by omega
      have hzs2 := hg2.size
      clear hsr hrr hg2 hb ho
      go_wp2_with fail
      refine (pick_any w.heap.size A n c 2 w.heap.size 401 f _ (by omega) (by omega) hs2 (by omega) hr3 (Nat.le_refl _)).mono ?_
      rintro e w3 ⟨y, rfl, hy, hs3, hg3⟩
      have ho3 := own_src ho2 hg3 (own_ne ho2 hblk)
      have hb4 := hb3.trans (below_src hg3 (by omega) (Nat.le_refl _))
      have hy1 : (y : Int) < 401 := by omega
      have hzs3 := hg3.size
      have hblk3 := hs3.block
      clear hs2 hr3 hg3 hb3 ho2
      go_wp2_with (at_builtin; go_must (refine wpList_append_own_at _ rfl (.tmp 25) (.tmp 36) 45 rfl w1.heap.size 42 i0 (.complex .f32 0 0) 1 8 Tryz.underlying45 hi0 hz0 hz1 hz2 rfl (by decide) _ 0 [] rfl (ho3.alloc _) ⟨w3.heap.size, 0, none⟩ 1 1 [.complex .f32 (FloatKind.f32.nearest ((x : Int) - 200)) (FloatKind.f32.nearest ((y : Int) - 200))] rfl rfl (new_one _ _ _) (cx_one _ _) (by unfold maxLen; omega) (by omega) (by simp; omega) ?_); intro v' w4 hown4 hgr4 _ hblk4)
      have hal : Below w3.heap.size w3 (w3.alloc (.cells #[.complex .f32 (FloatKind.f32.nearest ((x : Int) - 200)) (FloatKind.f32.nearest ((y : Int) - 200))] 42)) := (Below.refl _ _).alloc (Nat.le_refl _) _
      have hb5 : Below w.heap.size w w4 := (hb4.trans (hal.mono (by omega))).grown hgr4 (by simp; omega) (fun k hk => by have := (ho3.lt k hk).1; omega)
      have hs4 : Src w4 w.heap.size A n c (4 * (0 + 1)) := (((hs3.below hal hblk3).grown hgr4 (own_ne ho3 hblk))).mono (by omega)
      have hsz4 := hgr4.size
      simp at hsz4
      go_roundw
      case rel => exact ⟨0 + 1, rfl, by omega, (fun h => by cases h), fun _ => ⟨_, _, by omega, by omega, hown4⟩, hb5, by omega, hs4⟩
      case measure => simp [Go.RowKit.intOf]
    · obtain rfl : j = 1 := by omega
      obtain ⟨a, b, ha, hb', ho⟩ := h1 rfl
      clear h0 h1 hs0 hb2 ho0
      obtain ⟨A', c', rfl, hrow⟩ := own_row ho
      go_wp2_with fail
      go_ret
      have hrow2 : Row wr wr.heap.size A' 1 (fun _ => .complex .f32 (FloatKind.f32.nearest a) (FloatKind.f32.nearest b)) := hrow.congr (fun j hj => by
        obtain rfl : j = 0 := by omega
        rfl)
      exact ⟨A', c', a, b, ha, hb', rfl, hrow2, hb⟩
end Go.Proofs.YtdbcajiagjeplaaGreatDoor
