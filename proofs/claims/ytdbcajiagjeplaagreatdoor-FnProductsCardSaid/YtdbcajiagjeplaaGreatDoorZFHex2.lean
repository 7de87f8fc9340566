/- Hexadecimal numerals. -/
import Derived.Test.YtdbcajiagjeplaaGreatDoorZBase
import Derived.Lib.Repeat
set_option linter.unusedVariables false
set_option linter.unusedSimpArgs false
namespace Go.Proofs.YtdbcajiagjeplaaGreatDoor

/-- A hexadecimal digit. -/
def hdig (d : Nat) : UInt8 := ([48, 49, 50, 51, 52, 53, 54, 55, 56, 57, 97, 98, 99, 100, 101, 102] : List UInt8).getD d 0
/-- A number's hexadecimal numeral. -/
def hexU (n : Nat) : List UInt8 := if _h : n < 16 then [hdig n] else hexU (n / 16) ++ [hdig (n % 16)]
termination_by n
decreasing_by omega
/-- The last k hexadecimal digits of a number. -/
def hexN : Nat → Nat → List UInt8
  | 0, _ => []
  | k + 1, n => hexN k (n / 16) ++ [hdig (n % 16)]
theorem hexN_len : ∀ k n, (hexN k n).length = k
  | 0, _ => rfl
  | k + 1, n => by simp [hexN, hexN_len k]
theorem hexN_zero : ∀ k, hexN k 0 = List.replicate k 48
  | 0 => rfl
  | k + 1 => by
    show hexN k (0 / 16) ++ [hdig (0 % 16)] = _
    rw [Nat.zero_div, hexN_zero k, List.replicate_succ']
    rfl
theorem hexU_small {n : Nat} (h : n < 16) : hexU n = [hdig n] := by rw [hexU, dif_pos h]
theorem hexU_big {n : Nat} (h : ¬ n < 16) : hexU n = hexU (n / 16) ++ [hdig (n % 16)] := by rw [hexU, dif_neg h]
theorem hexU_pad : ∀ (k n : Nat), n < 16 ^ (k + 1) → 1 ≤ (hexU n).length ∧ (hexU n).length ≤ k + 1 ∧ List.replicate (k + 1 - (hexU n).length) 48 ++ hexU n = hexN (k + 1) n := by
  intro k
  induction k with
  | zero =>
    intro n h
    have h16 : n < 16 := by simpa using h
    rw [hexU_small h16]
    refine ⟨by simp, by simp, ?_⟩
    simp [hexN, Nat.mod_eq_of_lt h16]
  | succ k ih =>
    intro n h
    by_cases h16 : n < 16
    · rw [hexU_small h16]
      refine ⟨by simp, by simp, ?_⟩
      show List.replicate (k + 1 + 1 - 1) 48 ++ [hdig n] = hexN (k + 1) (n / 16) ++ [hdig (n % 16)]
      rw [Nat.div_eq_of_lt h16, Nat.mod_eq_of_lt h16, hexN_zero]
      rfl
    · obtain ⟨h1, h2, h3⟩ := ih (n / 16) (by rw [Nat.pow_succ] at h; omega)
      rw [hexU_big h16]
      refine ⟨by simp, by simp; omega, ?_⟩
      show _ = hexN (k + 1) (n / 16) ++ [hdig (n % 16)]
      rw [← h3, ← List.append_assoc]
      congr 3
      simp
theorem hexN_step (j n : Nat) (h : j < 8) : hexN (j + 1) (n / 16 ^ (7 - j)) = hexN j (n / 16 ^ (8 - j)) ++ [hdig (n / 16 ^ (7 - j) % 16)] := by
  show hexN j (n / 16 ^ (7 - j) / 16) ++ _ = _
  rw [Nat.div_div_eq_div_mul, show 16 ^ (7 - j) * 16 = 16 ^ (8 - j) by rw [← Nat.pow_succ]; congr 1; omega]
end Go.Proofs.YtdbcajiagjeplaaGreatDoor
set_option linter.unusedVariables false
set_option linter.unusedSimpArgs false
namespace Go.Proofs.YtdbcajiagjeplaaGreatDoor

/-- What a byte is to strconv.ParseUint at base 16. -/
def hv (c : UInt8) : Option Nat := if 48 ≤ c.toNat ∧ c.toNat ≤ 57 then some (c.toNat - 48) else if 97 ≤ (c ||| 32).toNat ∧ (c ||| 32).toNat ≤ 102 then some ((c ||| 32).toNat - 87) else none
/-- strconv.ParseUint at base 16 and 32 bits: the number and the error's number (0: none). -/
def pu : Nat → List UInt8 → Nat × Nat
  | acc, [] => (acc, 0)
  | acc, c :: l => match hv c with
    | none => (0, 2)
    | some d => if 4294967295 < 16 * acc + d then (4294967295, 1) else pu (16 * acc + d) l
theorem pu_le : ∀ (l : List UInt8) (acc : Nat), acc ≤ 4294967295 → (pu acc l).1 ≤ 4294967295 ∧ (pu acc l).2 ≤ 2
  | [], acc, h => ⟨h, by simp [pu]⟩
  | c :: l, acc, h => by
    unfold pu
    cases hv c with
    | none => simp
    | some d =>
      dsimp only
      split
      · simp
      · exact pu_le l _ (by omega)
theorem hv_hdig : ∀ d : Nat, d < 16 → hv (hdig d) = some d := by
  have key : ∀ d : Fin 16, hv (hdig d.val) = some d.val := by decide
  exact fun d h => key ⟨d, h⟩
theorem pu_app : ∀ (a b : List UInt8) (acc n : Nat), pu acc a = (n, 0) → pu acc (a ++ b) = pu n b
  | [], b, acc, n, h => by
    have : acc = n := congrArg Prod.fst h
    subst this; rfl
  | c :: a, b, acc, n, h => by
    rw [List.cons_append]
    rw [pu] at h ⊢
    cases hc : hv c with
    | none => rw [hc] at h; cases (congrArg Prod.snd h)
    | some d =>
      rw [hc] at h
      dsimp only at h ⊢
      split at h
      · cases (congrArg Prod.snd h)
      · rename_i hle
        rw [if_neg hle]
        exact pu_app a b _ n h
theorem pu_hexN : ∀ (k n acc : Nat), n < 16 ^ k → acc * 16 ^ k + n ≤ 4294967295 → pu acc (hexN k n) = (acc * 16 ^ k + n, 0)
  | 0, n, acc, h, h2 => by
    have : n = 0 := by simpa using h
    subst this
    simp [hexN, pu]
  | k + 1, n, acc, h, h2 => by
    have e0 : 16 ^ (k + 1) = 16 ^ k * 16 := Nat.pow_succ 16 k
    have e1 : acc * 16 ^ (k + 1) = acc * 16 ^ k * 16 := by rw [e0, Nat.mul_assoc]
    have e2 : n = 16 * (n / 16) + n % 16 := by omega
    have h3 : n / 16 < 16 ^ k := by omega
    have ih := pu_hexN k (n / 16) acc h3 (by omega)
    show pu acc (hexN k (n / 16) ++ [hdig (n % 16)]) = _
    rw [pu_app _ _ _ _ ih]
    unfold pu
    rw [hv_hdig _ (by omega)]
    dsimp only
    rw [if_neg (by omega)]
    unfold pu
    rw [e1]
    congr 1
    omega
theorem pu_hex8 (n : Nat) (h : n < 4294967296) : pu 0 (hexN 8 n) = (n, 0) := by
  have := pu_hexN 8 n 0 (by omega) (by omega)
  simpa using this

/-- What a byte is as a small hexadecimal digit. -/
def hs (c : UInt8) : Option Nat := if 48 ≤ c.toNat ∧ c.toNat ≤ 57 then some (c.toNat - 48) else if 97 ≤ c.toNat ∧ c.toNat ≤ 102 then some (c.toNat - 87) else none
theorem hs_hdig : ∀ d : Nat, d < 16 → hs (hdig d) = some d := by
  have key : ∀ d : Fin 16, hs (hdig d.val) = some d.val := by decide
  exact fun d h => key ⟨d, h⟩
theorem hdig_hs {c : UInt8} {d : Nat} (h : hs c = some d) : d < 16 ∧ c = hdig d := by
  unfold hs at h
  have h2 := c.toNat_lt
  split at h
  · rename_i h1
    obtain rfl := Option.some.inj h
    refine ⟨by omega, UInt8.toNat_inj.1 ?_⟩
    have key : ∀ k : Fin 10, 48 + k.val = (hdig k.val).toNat := by decide
    have := key ⟨c.toNat - 48, by omega⟩
    simp only at this
    omega
  · split at h
    · rename_i h1
      obtain rfl := Option.some.inj h
      refine ⟨by omega, UInt8.toNat_inj.1 ?_⟩
      have key : ∀ k : Fin 6, 97 + k.val = (hdig (10 + k.val)).toNat := by decide
      have := key ⟨c.toNat - 97, by omega⟩
      simp only at this
      rw [show c.toNat - 87 = 10 + (c.toNat - 97) by omega]
      omega
    · cases h
theorem hexN_mem : ∀ (k n : Nat) (c : UInt8), c ∈ hexN k n → ∃ d, d < 16 ∧ c = hdig d
  | 0, n, c, h => by simp [hexN] at h
  | k + 1, n, c, h => by
    rw [hexN, List.mem_append] at h
    rcases h with h | h
    · exact hexN_mem k _ c h
    · exact ⟨n % 16, by omega, by simpa using h⟩
/-- The value of a numeral. -/
def hval (l : List UInt8) : Nat := l.foldl (fun a c => 16 * a + (hs c).getD 0) 0
theorem hval_hexN : ∀ (k n a : Nat), n < 16 ^ k → (hexN k n).foldl (fun a c => 16 * a + (hs c).getD 0) a = a * 16 ^ k + n
  | 0, n, a, h => by
    have : n = 0 := by simpa using h
    subst this; simp [hexN]
  | k + 1, n, a, h => by
    have e0 : 16 ^ (k + 1) = 16 ^ k * 16 := Nat.pow_succ 16 k
    have e1 : a * 16 ^ (k + 1) = a * 16 ^ k * 16 := by rw [e0, Nat.mul_assoc]
    rw [hexN, List.foldl_append, hval_hexN k (n / 16) a (by omega)]
    show 16 * (a * 16 ^ k + n / 16) + (hs (hdig (n % 16))).getD 0 = _
    rw [hs_hdig _ (by omega), e1]
    show 16 * (a * 16 ^ k + n / 16) + n % 16 = _
    omega
theorem hval_hex8 (n : Nat) (h : n < 4294967296) : hval (hexN 8 n) = n := by
  have := hval_hexN 8 n 0 (by omega)
  simpa [hval] using this
/-- The first k bytes are digits, of the value v. -/
def HexTo (l : List UInt8) (k v : Nat) : Prop := k ≤ l.length ∧ v < 16 ^ k ∧ l.take k = hexN k v
theorem HexTo.start (l : List UInt8) : HexTo l 0 0 := ⟨by omega, by decide, rfl⟩
theorem HexTo.on {l : List UInt8} {k v : Nat} (h : HexTo l k v) (hk : k < l.length) {d : Nat} (hd : hs l[k] = some d) : HexTo l (k + 1) (16 * v + d) := by
  obtain ⟨h1, h2⟩ := hdig_hs hd
  have h3 := h.2.1
  refine ⟨by omega, by rw [Nat.pow_succ]; omega, ?_⟩
  rw [List.take_add_one, h.2.2, List.getElem?_eq_getElem hk, hexN, show (16 * v + d) / 16 = v by omega, show (16 * v + d) % 16 = d by omega, ← h2]
  rfl
theorem HexTo.no {l : List UInt8} {k : Nat} (hk : k < l.length) (hd : hs l[k] = none) (N : Nat) : l ≠ hexN 8 N := by
  intro e
  obtain ⟨d, h1, h2⟩ := hexN_mem 8 N l[k] (by rw [← e]; exact List.getElem_mem hk)
  rw [h2, hs_hdig d h1] at hd
  cases hd
end Go.Proofs.YtdbcajiagjeplaaGreatDoor
