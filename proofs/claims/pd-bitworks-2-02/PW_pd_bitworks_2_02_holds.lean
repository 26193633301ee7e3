import PyProof.Rows.All
import Wide.All
import OpenK.AllK
import Wide.FinOn
import PySem.Challenge.RW_pd_bitworks_2_02
open PySem PySem.W PyProof.Rows PySem.Calls
set_option Elab.async false
namespace Mine
/-- the number spelled by w bits -/
def spell (f : Nat → Bool) : Nat → Nat
  | 0 => 0
  | w + 1 => spell f w + (f w).toNat * 2 ^ w
theorem spell_lt (f : Nat → Bool) : ∀ w, spell f w < 2 ^ w
  | 0 => by simp [spell]
  | w + 1 => by
    have h := spell_lt f w
    have hb : (f w).toNat ≤ 1 := by cases f w <;> decide
    have : (f w).toNat * 2 ^ w ≤ 1 * 2 ^ w := Nat.mul_le_mul_right _ hb
    rw [spell, Nat.pow_succ]; omega
theorem spell_testBit (f : Nat → Bool) : ∀ w i, (spell f w).testBit i = (decide (i < w) && f i)
  | 0, i => by simp [spell]
  | w + 1, i => by
    have h := spell_testBit f w i
    have hl := spell_lt f w
    rw [spell, Nat.add_comm, Nat.mul_comm, Nat.testBit_two_pow_mul_add _ hl]
    by_cases hi : i < w
    · rw [if_pos hi, h]
      have : i < w + 1 := by omega
      simp [hi, this]
    · rw [if_neg hi]
      by_cases e : i = w
      · subst e
        cases f i <;> simp
      · have h1 : ¬ i < w + 1 := by omega
        have h2 : i - w ≠ 0 := by omega
        have : (f w).toNat.testBit (i - w) = false := by
          refine Nat.testBit_lt_two_pow ?_
          have : 2 ^ 1 ≤ 2 ^ (i - w) := Nat.pow_le_pow_right (by decide) (by omega)
          cases f w <;> simp <;> omega
        simp [h1, this]
theorem eq_spell {n w : Nat} {f : Nat → Bool} (h : n < 2 ^ w) (hf : ∀ i, i < w → n.testBit i = f i) : n = spell f w := by
  refine Nat.eq_of_testBit_eq fun i => ?_
  rw [spell_testBit]
  by_cases hi : i < w
  · simp [hi, hf i hi]
  · have : n.testBit i = false := Nat.testBit_lt_two_pow (Nat.lt_of_lt_of_le h (Nat.pow_le_pow_right (by decide) (by omega)))
    simp [hi, this]
theorem spell_congr {f g : Nat → Bool} : ∀ {w : Nat}, (∀ i, i < w → f i = g i) → spell f w = spell g w
  | 0, _ => rfl
  | w + 1, h => by rw [spell, spell, spell_congr fun i hi => h i (by omega), h w (by omega)]

/-- a bit as an int -/
def ib (b : Bool) : Int := (b.toNat : Int)
theorem ib_range (b : Bool) : 0 ≤ ib b ∧ ib b ≤ 1 := by cases b <;> decide
theorem bit_of (N i : Nat) : Int.fmod (Int.fdiv (N : Int) (2 ^ i)) 2 = ib (N.testBit i) := by
  have h2 : ((2 : Int) ^ i) = ((2 ^ i : Nat) : Int) := by simp
  rw [h2, Int.fdiv_eq_ediv_of_nonneg _ (Int.natCast_nonneg _), Int.fmod_eq_emod_of_nonneg _ (by decide), ib, Nat.testBit_eq_decide_div_mod_eq]
  have : ((N : Int) / ((2 ^ i : Nat) : Int)) % 2 = ((N / 2 ^ i % 2 : Nat) : Int) := by simp
  rw [this]
  have : N / 2 ^ i % 2 < 2 := Nat.mod_lt _ (by decide)
  by_cases h : N / 2 ^ i % 2 = 1
  · simp [h]
  · have : N / 2 ^ i % 2 = 0 := by omega
    simp [this]
theorem sum_spell (f : Nat → Bool) : ∀ w, ((List.range w).map fun i => ib (f i) * (2 : Int) ^ i).sum = (spell f w : Int)
  | 0 => rfl
  | w + 1 => by
    rw [List.range_succ, List.map_append, List.sum_append, sum_spell f w, spell]
    simp [ib]

theorem and_nat (a b : Nat) : Builtin.bitAnd (a : Int) (b : Int) = ((a &&& b : Nat) : Int) := by
  rw [bitAnd_pp (by omega) (by omega)]; simp
theorem or_nat (a b : Nat) : Builtin.bitOr (a : Int) (b : Int) = ((a ||| b : Nat) : Int) := by
  have h := nat_or_add_and a b
  rw [bitOr_and, and_nat]; omega
theorem xor_add (a : Nat) : ∀ b : Nat, (a ^^^ b) + 2 * (a &&& b) = a + b := by
  induction a using Nat.strongRecOn with
  | ind m ih =>
    intro n
    by_cases h0 : m = 0
    · subst h0; simp
    · have ih' := ih (m / 2) (by omega) (n / 2)
      rw [← Nat.xor_div_two, ← Nat.and_div_two] at ih'
      have o1 := @Nat.xor_mod_two_eq_one m n
      have a1 := @Nat.and_mod_two_eq_one m n
      omega
theorem xor_nat (a b : Nat) : Builtin.bitXor (a : Int) (b : Int) = ((a ^^^ b : Nat) : Int) := by
  have h := xor_add a b
  have h2 := nat_or_add_and a b
  unfold Builtin.bitXor
  rw [bitOr_and, and_nat]; omega
theorem shl_nat (a k : Nat) : (a : Int) * 2 ^ k = ((a <<< k : Nat) : Int) := by
  rw [Nat.shiftLeft_eq]; simp
theorem shr_nat (a k : Nat) : Int.fdiv (a : Int) (2 ^ k) = ((a >>> k : Nat) : Int) := by
  have h2 : ((2 : Int) ^ k) = ((2 ^ k : Nat) : Int) := by simp
  rw [h2, Int.fdiv_eq_ediv_of_nonneg _ (Int.natCast_nonneg _), Nat.shiftRight_eq_div_pow]
  simp
/-- the bit of N at a place taken round the width W -/
def B (N W : Nat) (z : Int) : Bool := N.testBit (z % (W : Int)).toNat
theorem emod_range {W : Nat} (hW : 0 < W) (z : Int) : 0 ≤ z % (W : Int) ∧ z % (W : Int) < W :=
  ⟨Int.emod_nonneg _ (by omega), Int.emod_lt_of_pos _ (by omega)⟩
theorem B_congr {N W : Nat} {y z : Int} (h : y % (W : Int) = z % (W : Int)) : B N W y = B N W z := by
  unfold B; rw [h]
theorem B_small {N W : Nat} {i : Nat} (h : i < W) : B N W i = N.testBit i := by
  unfold B
  have : ((i : Int) % (W : Int)).toNat = i := by
    rw [Int.emod_eq_of_lt (by omega) (by omega)]; rfl
  rw [this]
theorem B_emod {N W : Nat} {z : Int} : B N W (z % W) = B N W z := B_congr (Int.emod_emod _ _)
theorem B_spell {W : Nat} (hW : 0 < W) (g : Int → Bool) (hg : ∀ z, g (z % (W : Int)) = g z) (z : Int) : B (spell (fun i => g i) W) W z = g z := by
  have h := emod_range hW z
  unfold B
  rw [spell_testBit]
  have h1 : (z % (W : Int)).toNat < W := by omega
  have h2 : (((z % (W : Int)).toNat : Nat) : Int) = z % W := by omega
  rw [h2, hg]
  simp [h1]
theorem self_spell {N W : Nat} (h : N < 2 ^ W) : N = spell (fun i => B N W i) W :=
  eq_spell h fun i hi => (B_small hi).symm

def rotlN (N k W : Nat) : Nat := ((N <<< k) ||| (N >>> (W - k))) &&& (2 ^ W - 1)
def rotrN (N k W : Nat) : Nat := ((N >>> k) ||| (N <<< (W - k))) &&& (2 ^ W - 1)
theorem mask_lt (x W : Nat) : x &&& (2 ^ W - 1) < 2 ^ W := by
  rw [Nat.and_two_pow_sub_one_eq_mod]
  exact Nat.mod_lt _ (Nat.two_pow_pos W)
theorem high_bit {N W i : Nat} (h : N < 2 ^ W) (hi : W ≤ i) : N.testBit i = false :=
  Nat.testBit_lt_two_pow (Nat.lt_of_lt_of_le h (Nat.pow_le_pow_right (by decide) hi))
theorem rotlN_spell {N k W : Nat} (h : N < 2 ^ W) (hk : k < W) : rotlN N k W = spell (fun i => B N W ((i : Int) - k)) W := by
  refine eq_spell (mask_lt _ _) fun i hi => ?_
  unfold rotlN B
  rw [Nat.testBit_and, Nat.testBit_or, Nat.testBit_shiftLeft, Nat.testBit_shiftRight, Nat.testBit_two_pow_sub_one]
  by_cases hik : k ≤ i
  · have e : (((i : Int) - k) % (W : Int)).toNat = i - k := by
      rw [Int.emod_eq_of_lt (by omega) (by omega)]; omega
    rw [e, high_bit h (show W ≤ W - k + i by omega)]
    simp [hik, hi]
  · have e : (((i : Int) - k) % (W : Int)).toNat = W - k + i := by
      have : ((i : Int) - k) % (W : Int) = ((i : Int) - k + W) % (W : Int) := by simp
      rw [this, Int.emod_eq_of_lt (by omega) (by omega)]; omega
    rw [e]
    simp [hik, hi]
theorem rotrN_spell {N k W : Nat} (h : N < 2 ^ W) (hk : k < W) : rotrN N k W = spell (fun i => B N W ((i : Int) + k)) W := by
  refine eq_spell (mask_lt _ _) fun i hi => ?_
  unfold rotrN B
  rw [Nat.testBit_and, Nat.testBit_or, Nat.testBit_shiftLeft, Nat.testBit_shiftRight, Nat.testBit_two_pow_sub_one]
  by_cases hik : i + k < W
  · have e : (((i : Int) + k) % (W : Int)).toNat = k + i := by
      rw [Int.emod_eq_of_lt (by omega) (by omega)]; omega
    have h2 : ¬ (W - k ≤ i) := by omega
    rw [e]
    simp [h2, hi]
  · have e : (((i : Int) + k) % (W : Int)).toNat = i - (W - k) := by
      have : ((i : Int) + k) % (W : Int) = ((i : Int) + k - W) % (W : Int) := by simp
      rw [this, Int.emod_eq_of_lt (by omega) (by omega)]; omega
    have h2 : W - k ≤ i := by omega
    rw [e, high_bit h (show W ≤ k + i by omega)]
    simp [h2, hi]

def rotl (n k w : Int) : Int := Builtin.bitAnd (Builtin.bitOr (n * 2 ^ (k.fmod w).toNat) (n.fdiv (2 ^ (w - k.fmod w).toNat))) (1 * 2 ^ w.toNat - 1)
def rotr (n k w : Int) : Int := Builtin.bitAnd (Builtin.bitOr (n.fdiv (2 ^ (k.fmod w).toNat)) (n * 2 ^ (w - k.fmod w).toNat)) (1 * 2 ^ w.toNat - 1)
theorem mask_nat (W : Nat) : (1 : Int) * 2 ^ W - 1 = ((2 ^ W - 1 : Nat) : Int) := by
  have := Nat.two_pow_pos W
  rw [Int.one_mul, Int.ofNat_sub (by omega)]; simp
theorem fmod_nat {W : Nat} (k : Int) (hW : 0 < W) : ∃ K : Nat, k.fmod (W : Int) = (K : Int) ∧ K < W ∧ k % (W : Int) = K := by
  have h := emod_range hW k
  refine ⟨(k % (W : Int)).toNat, ?_, by omega, by omega⟩
  rw [Int.fmod_eq_emod_of_nonneg _ (by omega)]; omega
theorem rotl_spell {N W : Nat} (k : Int) (hW : 0 < W) (h : N < 2 ^ W) : rotl N k W = (spell (fun i => B N W ((i : Int) - k)) W : Nat) := by
  obtain ⟨K, e, hK, e2⟩ := fmod_nat k hW
  unfold rotl
  have e3 : ((W : Int) - K).toNat = W - K := by omega
  rw [e, Int.toNat_natCast, Int.toNat_natCast, e3, shl_nat, shr_nat, or_nat, mask_nat, and_nat]
  have := rotlN_spell h hK
  unfold rotlN at this
  rw [this]
  refine congrArg _ (spell_congr fun i _ => B_congr ?_)
  rw [Int.sub_emod, Int.sub_emod (i : Int) k, e2]
  congr 2
  exact Int.emod_eq_of_lt (by omega) (by omega)
theorem rotr_spell {N W : Nat} (k : Int) (hW : 0 < W) (h : N < 2 ^ W) : rotr N k W = (spell (fun i => B N W ((i : Int) + k)) W : Nat) := by
  obtain ⟨K, e, hK, e2⟩ := fmod_nat k hW
  unfold rotr
  have e3 : ((W : Int) - K).toNat = W - K := by omega
  rw [e, Int.toNat_natCast, Int.toNat_natCast, e3, shl_nat, shr_nat, or_nat, mask_nat, and_nat]
  have := rotrN_spell h hK
  unfold rotrN at this
  rw [this]
  refine congrArg _ (spell_congr fun i _ => B_congr ?_)
  rw [Int.add_emod, Int.add_emod (i : Int) k, e2]
  congr 2
  exact Int.emod_eq_of_lt (by omega) (by omega)

/-- reversed_bits: the loop's state after t turns (result, rest) -/
def revStep (p : Int × Int) : Int × Int := (Builtin.bitOr (p.1 * 2 ^ (1 : Int).toNat) (Builtin.bitAnd p.2 1), p.2.fdiv (2 ^ (1 : Int).toNat))
def revN (N : Nat) : Nat → Nat
  | 0 => 0
  | t + 1 => 2 * revN N t + (N.testBit t).toNat
theorem revN_lt (N : Nat) : ∀ t, revN N t < 2 ^ t
  | 0 => by simp [revN]
  | t + 1 => by
    have h := revN_lt N t
    have hb : (N.testBit t).toNat ≤ 1 := by cases N.testBit t <;> decide
    rw [revN, Nat.pow_succ]; omega
theorem revN_testBit (N : Nat) : ∀ t i, i < t → (revN N t).testBit i = N.testBit (t - 1 - i)
  | 0, i, h => by omega
  | t + 1, i, h => by
    have hb : (N.testBit t).toNat < 2 ^ 1 := by cases N.testBit t <;> decide
    rw [revN]
    have := Nat.testBit_two_pow_mul_add (i := 1) (revN N t) hb i
    rw [Nat.pow_one] at this
    rw [this]
    by_cases hi : i = 0
    · subst hi
      cases hN : N.testBit t <;> simp [hN]
    · have h1 : ¬ i < 1 := by omega
      rw [if_neg h1, revN_testBit N t (i - 1) (by omega)]
      congr 1; omega
theorem revN_spell (N W : Nat) (hW : 0 < W) : revN N W = spell (fun i => B N W (-1 - (i : Int))) W := by
  refine eq_spell (revN_lt _ _) fun i hi => ?_
  rw [revN_testBit N W i hi]
  unfold B
  have : (-1 - (i : Int)) % (W : Int) = (-1 - (i : Int) + W) % (W : Int) := by simp
  rw [this, Int.emod_eq_of_lt (by omega) (by omega)]
  congr 1; omega
theorem rev_step (N t : Nat) : revStep ((revN N t : Int), ((N >>> t : Nat) : Int)) = ((revN N (t + 1) : Int), ((N >>> (t + 1) : Nat) : Int)) := by
  unfold revStep
  have e1 : (1 : Int).toNat = 1 := rfl
  have e2 : (1 : Int) = ((1 : Nat) : Int) := rfl
  refine Prod.ext ?_ ?_
  · show Builtin.bitOr ((revN N t : Int) * 2 ^ (1 : Int).toNat) (Builtin.bitAnd ((N >>> t : Nat) : Int) 1) = _
    rw [e1, shl_nat, e2, and_nat, or_nat]
    congr 1
    rw [revN, Nat.and_one_is_mod, Nat.shiftLeft_eq, Nat.pow_one, Nat.mul_comm]
    have hb : (N >>> t) % 2 < 2 ^ 1 := Nat.mod_lt _ (by decide)
    have := (Nat.two_pow_add_eq_or_of_lt hb (revN N t)).symm
    rw [Nat.pow_one] at this
    rw [this]
    congr 1
    rw [Nat.testBit_eq_decide_div_mod_eq, Nat.shiftRight_eq_div_pow]
    have : N / 2 ^ t % 2 < 2 := Nat.mod_lt _ (by decide)
    by_cases h : N / 2 ^ t % 2 = 1
    · simp [h]
    · have : N / 2 ^ t % 2 = 0 := by omega
      simp [this]
  · show (((N >>> t : Nat) : Int)).fdiv (2 ^ (1 : Int).toNat) = _
    rw [e1, shr_nat]
    congr 1
def rev (n w : Int) : Int := (Nat.repeat revStep w.toNat (0, n)).1
theorem rev_rep (N : Nat) : ∀ t, Nat.repeat revStep t ((0 : Int), (N : Int)) = ((revN N t : Int), ((N >>> t : Nat) : Int))
  | 0 => by simp [Nat.repeat, revN]
  | t + 1 => by rw [Nat.repeat, rev_rep N t, rev_step]
theorem rev_nat (N W : Nat) : rev N W = (revN N W : Int) := by
  unfold rev; rw [Int.toNat_natCast, rev_rep]
theorem rev_spell (N W : Nat) (hW : 0 < W) : rev N W = (spell (fun i => B N W (-1 - (i : Int))) W : Nat) := by rw [rev_nat, revN_spell N W hW]

theorem B_sub {W : Nat} (N : Nat) (c : Int) (z : Int) : B N W (z % (W : Int) - c) = B N W (z - c) := B_congr (by rw [Int.sub_emod, Int.emod_emod, ← Int.sub_emod])
theorem B_add {W : Nat} (N : Nat) (c : Int) (z : Int) : B N W (z % (W : Int) + c) = B N W (z + c) := B_congr (by rw [Int.add_emod, Int.emod_emod, ← Int.add_emod])
theorem B_neg {W : Nat} (N : Nat) (c : Int) (z : Int) : B N W (c - z % (W : Int)) = B N W (c - z) := B_congr (by rw [Int.sub_emod, Int.emod_emod, ← Int.sub_emod])

theorem two_rotl {N W : Nat} (j k : Int) (hW : 0 < W) (h : N < 2 ^ W) : rotl (rotl N j W) k W = (spell (fun i => B N W ((i : Int) - j - k)) W : Nat) := by
  rw [rotl_spell j hW h, rotl_spell k hW (spell_lt _ _)]
  congr 1
  refine spell_congr fun i _ => ?_
  rw [B_spell hW (fun z => B N W (z - j)) (fun z => B_sub N j z)]
  exact B_congr (congrArg (· % (W : Int)) (by omega))
theorem sum_rotl {N W : Nat} (j k : Int) (hW : 0 < W) (h : N < 2 ^ W) : rotl N (j + k) W = (spell (fun i => B N W ((i : Int) - j - k)) W : Nat) := by
  rw [rotl_spell _ hW h]
  congr 1
  exact spell_congr fun i _ => B_congr (congrArg (· % (W : Int)) (by omega))
theorem mirror_rot {N W : Nat} (k : Int) (hW : 0 < W) (h : N < 2 ^ W) : rev (rotl (rev N W) k W) W = rotr N k W := by
  rw [rev_spell N W hW, rotl_spell k hW (spell_lt _ _), rev_spell _ W hW, rotr_spell k hW h]
  congr 1
  refine spell_congr fun i _ => ?_
  rw [B_spell hW (fun z => B (spell (fun i => B N W (-1 - (i : Int))) W) W (z - k)) (fun z => B_sub _ k z)]
  rw [B_spell hW (fun z => B N W (-1 - z)) (fun z => B_neg N (-1) z)]
  exact B_congr (congrArg (· % (W : Int)) (by omega))
theorem rot_back {N W : Nat} (k : Int) (hW : 0 < W) (h : N < 2 ^ W) : rotr (rotl N k W) k W = N := by
  rw [rotl_spell k hW h, rotr_spell k hW (spell_lt _ _)]
  congr 1
  conv => rhs; rw [self_spell h]
  refine spell_congr fun i _ => ?_
  rw [B_spell hW (fun z => B N W (z - k)) (fun z => B_sub N k z)]
  exact B_congr (congrArg (· % (W : Int)) (by omega))
theorem rev_rev {N W : Nat} (hW : 0 < W) (h : N < 2 ^ W) : rev (rev N W) W = N := by
  rw [rev_spell N W hW, rev_spell _ W hW]
  congr 1
  conv => rhs; rw [self_spell h]
  refine spell_congr fun i _ => ?_
  rw [B_spell hW (fun z => B N W (-1 - z)) (fun z => B_neg N (-1) z)]
  exact B_congr (congrArg (· % (W : Int)) (by omega))

/-- the list of bits, as the law builds it -/
def bitsOf (n w : Int) : List Int := (List.range w.toNat).map fun (i : Nat) => (n.fdiv (2 ^ i)).fmod 2
theorem bitsOf_get {N W i : Nat} (h : i < W) : (bitsOf N W).getD i 0 = ib (N.testBit i) := by
  unfold bitsOf
  rw [List.getD_eq_getElem?_getD, List.getElem?_map, List.getElem?_range (by simpa using h)]
  exact bit_of N i
theorem bitsOf_len (n : Int) (W : Nat) : (bitsOf n W).length = W := by simp [bitsOf]
/-- a list of W places spelled -/
theorem spelled_of {N W : Nat} (hW : 0 < W) (g : Int → Int) : ((List.range W).map fun (i : Nat) => (bitsOf N W).getD ((g i).fmod W).toNat 0 * (2 : Int) ^ i).sum = (spell (fun i => B N W (g i)) W : Nat) := by
  rw [← sum_spell]
  congr 1
  refine List.map_congr_left fun i _ => ?_
  have h := emod_range hW (g i)
  rw [Int.fmod_eq_emod_of_nonneg _ (by omega), bitsOf_get (by omega)]
  rfl
theorem spelled_rev {N W : Nat} (hW : 0 < W) : ((List.range W).map fun (i : Nat) => (bitsOf N W).getD ((W : Int) - 1 - i).toNat 0 * (2 : Int) ^ i).sum = (spell (fun i => B N W (-1 - (i : Int))) W : Nat) := by
  rw [← sum_spell]
  congr 1
  refine List.map_congr_left fun i hi => ?_
  have hi := List.mem_range.mp hi
  rw [bitsOf_get (by omega)]
  unfold B
  have : (-1 - (i : Int)) % (W : Int) = (-1 - (i : Int) + W) % (W : Int) := by simp
  rw [this, Int.emod_eq_of_lt (by omega) (by omega)]
  congr 3; omega
def cell5 (ns : List Int) (i : Int) : Int := if i < ns.length then ns.getD i.toNat 0 else i * 5 + 3
def word2 (kind a b w : Int) : Int :=
  if kind = 0 then 1 else if kind = 1 then 2 ^ (w - 1).toNat else if kind = 2 then ((2 : Int) ^ (a.fmod w).toNat + 2 ^ (b.fmod w).toNat).fmod (2 ^ w.toNat)
  else if kind = 3 then 2 ^ w.toNat - 1 - 2 ^ (a.fmod w).toNat else if kind = 4 then a.fmod (2 ^ w.toNat)
  else (a.fmod (2 ^ (64 : Int).toNat) * 11400714819323198485 + b).fmod (2 ^ w.toNat)
def dist2 (kind a w : Int) : Int :=
  if kind = 0 then 0 else if kind = 1 then w else if kind = 2 then w * a.fmod ((100 : Int).fdiv w + 1) else if kind = 3 then w + a.fmod (101 - w) else if kind = 4 then a.fmod w else a.fmod 101
theorem fmod_range (y : Int) {m : Int} (hm : 0 < m) : 0 ≤ y.fmod m ∧ y.fmod m < m := by
  rw [Int.fmod_eq_emod_of_nonneg _ (by omega)]
  exact ⟨Int.emod_nonneg _ (by omega), Int.emod_lt_of_pos _ hm⟩
theorem pw_pos (k : Nat) : (0 : Int) < 2 ^ k := Int.pow_pos (by decide)
theorem pw_lt {a b : Nat} (h : a < b) : (2 : Int) ^ a < 2 ^ b := by
  have := Nat.pow_lt_pow_right (a := 2) (by decide) h
  exact_mod_cast this
theorem pw_le {a b : Nat} (h : a ≤ b) : (2 : Int) ^ a ≤ 2 ^ b := by
  have := Nat.pow_le_pow_right (n := 2) (by decide) h
  exact_mod_cast this
theorem word2_range (kind a b : Int) {w : Int} (h1 : 1 ≤ w) : 0 ≤ word2 kind a b w ∧ word2 kind a b w < 2 ^ w.toNat := by
  have hp := pw_pos w.toNat
  unfold word2
  split
  · exact ⟨by decide, by have := pw_le (show 1 ≤ w.toNat by omega); omega⟩
  split
  · exact ⟨Int.le_of_lt (pw_pos _), pw_lt (by omega)⟩
  split
  · exact fmod_range _ hp
  split
  · have h := fmod_range a (show 0 < w by omega)
    have := pw_lt (show (a.fmod w).toNat < w.toNat by omega)
    have := pw_pos (a.fmod w).toNat
    omega
  split
  · exact fmod_range _ hp
  · exact fmod_range _ hp
theorem gen_n {kind a b w : Int} {R : Int → Prop} (h1 : 1 ≤ w) (h : ∀ N : Int, 0 ≤ N → N < 2 ^ w.toNat → R N) : R (word2 kind a b w) :=
  h _ (word2_range kind a b h1).1 (word2_range kind a b h1).2
theorem gen_d {kind a w : Int} {R : Int → Prop} (h : ∀ D : Int, R D) : R (dist2 kind a w) := h _
theorem gen_w {i : Int} {R : Int → Prop} (h0 : 0 ≤ i) (h8 : i < 8) (h : ∀ W : Int, 1 ≤ W → W ≤ 64 → R W) : R (([1, 2, 3, 5, 8, 13, 32, 64] : List Int).getD i.toNat 0) := by
  have hi : i.toNat < 8 := by omega
  have key : ∀ n : Nat, n < 8 → 1 ≤ ([1, 2, 3, 5, 8, 13, 32, 64] : List Int).getD n 0 ∧ ([1, 2, 3, 5, 8, 13, 32, 64] : List Int).getD n 0 ≤ 64 := by decide
  exact h _ (key _ hi).1 (key _ hi).2
theorem fdiv_one_pos {w : Int} (h : 1 ≤ w) : (100 : Int).fdiv w + 1 ≠ 0 := by
  rw [Int.fdiv_eq_ediv_of_nonneg _ (by omega)]
  have := Int.ediv_nonneg (show (0 : Int) ≤ 100 by decide) (show 0 ≤ w by omega)
  omega
/-- reversed_bits -/
def revI (n w : Int) : Int := (revN n.toNat w.toNat : Int)
theorem revI_range (n w : Int) : 0 ≤ revI n w ∧ revI n w < 2 ^ w.toNat := by
  unfold revI
  have := revN_lt n.toNat w.toNat
  refine ⟨by omega, ?_⟩
  exact_mod_cast this
theorem rotl_range (n k : Int) {w : Int} (h1 : 1 ≤ w) (h0 : 0 ≤ n) (h : n < 2 ^ w.toNat) : 0 ≤ rotl n k w ∧ rotl n k w < 2 ^ w.toNat := by
  obtain ⟨N, rfl⟩ := Int.eq_ofNat_of_zero_le h0
  obtain ⟨W, rfl⟩ := Int.eq_ofNat_of_zero_le (show 0 ≤ w by omega)
  rw [rotl_spell k (by omega) (by exact_mod_cast h)]
  have := spell_lt (fun i => B N W ((i : Int) - k)) W
  refine ⟨by omega, ?_⟩
  exact_mod_cast this
theorem rotr_range (n k : Int) {w : Int} (h1 : 1 ≤ w) (h0 : 0 ≤ n) (h : n < 2 ^ w.toNat) : 0 ≤ rotr n k w ∧ rotr n k w < 2 ^ w.toNat := by
  obtain ⟨N, rfl⟩ := Int.eq_ofNat_of_zero_le h0
  obtain ⟨W, rfl⟩ := Int.eq_ofNat_of_zero_le (show 0 ≤ w by omega)
  rw [rotr_spell k (by omega) (by exact_mod_cast h)]
  have := spell_lt (fun i => B N W ((i : Int) + k)) W
  refine ⟨by omega, ?_⟩
  exact_mod_cast this
/-- the loop of reversed_bits: start and turn -/
theorem rev_start {n : Int} (h : 0 ≤ n) : (0 : Int) = (revN n.toNat ([] : List Int).length : Int) ∧ n = ((n.toNat >>> ([] : List Int).length : Nat) : Int) := by
  refine ⟨rfl, ?_⟩
  show n = ((n.toNat >>> 0 : Nat) : Int)
  rw [Nat.shiftRight_zero]; omega
theorem rev_turn {n0 r n i : Int} {pre : List Int} (h : r = (revN n0.toNat pre.length : Int) ∧ n = ((n0.toNat >>> pre.length : Nat) : Int)) :
    Builtin.bitOr (r * 2 ^ (1 : Int).toNat) (Builtin.bitAnd n 1) = (revN n0.toNat (pre ++ [i]).length : Int) ∧ n.fdiv (2 ^ (1 : Int).toNat) = ((n0.toNat >>> (pre ++ [i]).length : Nat) : Int) := by
  have e := rev_step n0.toNat pre.length
  rw [List.length_append, h.1, h.2]
  exact ⟨congrArg Prod.fst e, congrArg Prod.snd e⟩
theorem rev_small {n0 r n : Int} {pre : List Int} (h : r = (revN n0.toNat pre.length : Int) ∧ n = ((n0.toNat >>> pre.length : Nat) : Int)) (hp : pre.length ≤ 64) : r.natAbs < 2 ^ 64 := by
  have := revN_lt n0.toNat pre.length
  have h2 := Nat.pow_le_pow_right (n := 2) (by decide) hp
  rw [h.1]; omega
theorem small_of {n w : Int} (h0 : 0 ≤ n) (h : n < 2 ^ w.toNat) (hw : w ≤ 64) : n.natAbs < 2 ^ 64 := by
  have h2 := pw_le (show w.toNat ≤ 64 by omega)
  have : (n.natAbs : Int) < 2 ^ 64 := by omega
  exact_mod_cast this

/-! the ends -/
theorem nn {n w : Int} (h1 : 1 ≤ w) (h0 : 0 ≤ n) (h : n < 2 ^ w.toNat) : ∃ N W : Nat, n = N ∧ w = W ∧ 0 < W ∧ N < 2 ^ W := by
  obtain ⟨N, rfl⟩ := Int.eq_ofNat_of_zero_le h0
  obtain ⟨W, rfl⟩ := Int.eq_ofNat_of_zero_le (show 0 ≤ w by omega)
  exact ⟨N, W, rfl, rfl, by omega, by exact_mod_cast h⟩
theorem revI_nat (N W : Nat) : revI N W = (revN N W : Int) := rfl
theorem e_mirror {n k w : Int} (h1 : 1 ≤ w) (h0 : 0 ≤ n) (h : n < 2 ^ w.toNat) : revI (rotl (revI n w) k w) w = rotr n k w := by
  obtain ⟨N, W, rfl, rfl, hW, hN⟩ := nn h1 h0 h
  have e := mirror_rot k hW hN
  rw [rev_nat] at e
  have e2 : revI N W = (revN N W : Int) := rfl
  rw [e2, rotl_spell k hW (revN_lt _ _)]
  rw [rotl_spell k hW (revN_lt _ _), rev_nat] at e
  exact e
theorem e_back {n k w : Int} (h1 : 1 ≤ w) (h0 : 0 ≤ n) (h : n < 2 ^ w.toNat) : rotr (rotl n k w) k w = n := by
  obtain ⟨N, W, rfl, rfl, hW, hN⟩ := nn h1 h0 h
  exact rot_back k hW hN
theorem e_revrev {n w : Int} (h1 : 1 ≤ w) (h0 : 0 ≤ n) (h : n < 2 ^ w.toNat) : revI (revI n w) w = n := by
  obtain ⟨N, W, rfl, rfl, hW, hN⟩ := nn h1 h0 h
  have e := rev_rev hW hN
  rw [rev_nat, rev_nat] at e
  exact e
theorem e_two {n j k w : Int} (h1 : 1 ≤ w) (h0 : 0 ≤ n) (h : n < 2 ^ w.toNat) : rotl (rotl n j w) k w = rotl n (j + k) w := by
  obtain ⟨N, W, rfl, rfl, hW, hN⟩ := nn h1 h0 h
  rw [two_rotl j k hW hN, sum_rotl j k hW hN]
theorem sub_fmod (k : Int) {w : Int} (h : 1 ≤ w) : 0 ≤ w - k.fmod w ∧ w - k.fmod w ≤ w := by
  have := fmod_range k (show 0 < w by omega)
  omega
/-! the lists, as the walk writes them -/
def rk (a : Int) (n : Nat) : List Int := (List.range n).map fun (i : Nat) => a + (i : Int)
theorem rk_map (f : Int → Int) (n : Nat) : (rk 0 n).map f = (List.range n).map fun (i : Nat) => f i := by
  unfold rk
  rw [List.map_map]
  refine List.map_congr_left fun i _ => ?_
  show f (0 + (i : Int)) = f i
  rw [Int.zero_add]
theorem rk_get (f : Int → Int) {n i : Nat} (h : i < n) : ((rk 0 n).map f).getD i 0 = f i := by
  rw [rk_map, List.getD_eq_getElem?_getD, List.getElem?_map, List.getElem?_range h]; rfl
/-- the sum of a list of places, spelled -/
theorem spelled_rk (f : Int → Int) (n : Nat) : ((rk 0 n).map fun i => ((rk 0 n).map f).getD i.toNat 0 * (2 : Int) ^ i.toNat).sum = ((List.range n).map fun (i : Nat) => f i * (2 : Int) ^ i).sum := by
  rw [rk_map]
  congr 1
  refine List.map_congr_left fun i hi => ?_
  rw [Int.toNat_natCast, rk_get f (List.mem_range.mp hi)]
theorem bits_rk (n : Int) (W : Nat) : ((rk 0 W).map fun k => (n.fdiv (2 ^ k.toNat)).fmod 2) = bitsOf n W := by
  rw [rk_map]
  unfold bitsOf
  rw [Int.toNat_natCast]
  simp only [Int.toNat_natCast]
theorem and_range (x : Int) (m : Nat) : 0 ≤ Builtin.bitAnd x (m : Int) ∧ Builtin.bitAnd x (m : Int) ≤ m := by
  have hm : decide ((0 : Int) ≤ (m : Int)) = true := by simp
  unfold Builtin.bitAnd
  rw [hm]
  cases decide (0 ≤ x) with
  | true =>
    have := @Nat.and_le_right x.toNat ((m : Int)).toNat
    show 0 ≤ ((x.toNat &&& ((m : Int)).toNat : Nat) : Int) ∧ ((x.toNat &&& ((m : Int)).toNat : Nat) : Int) ≤ m
    rw [Int.toNat_natCast] at *
    omega
  | false =>
    have := @Nat.and_le_left ((m : Int)).toNat (Builtin.bitNot x).toNat
    show 0 ≤ (m : Int) - ((((m : Int)).toNat &&& (Builtin.bitNot x).toNat : Nat) : Int) ∧ (m : Int) - ((((m : Int)).toNat &&& (Builtin.bitNot x).toNat : Nat) : Int) ≤ m
    rw [Int.toNat_natCast] at *
    omega
theorem mask_range (x w : Int) : 0 ≤ Builtin.bitAnd x (1 * 2 ^ w.toNat - 1) ∧ Builtin.bitAnd x (1 * 2 ^ w.toNat - 1) < 2 ^ w.toNat := by
  have h := and_range x (2 ^ w.toNat - 1)
  rw [← mask_nat] at h
  omega
theorem rotl_range' (n k w : Int) : 0 ≤ rotl n k w ∧ rotl n k w < 2 ^ w.toNat := mask_range _ w
theorem rotr_range' (n k w : Int) : 0 ≤ rotr n k w ∧ rotr n k w < 2 ^ w.toNat := mask_range _ w
def RevInv (n0 : Int) (k : Nat) (r n : Int) : Prop := r = (revN n0.toNat k : Int) ∧ n = ((n0.toNat >>> k : Nat) : Int)
theorem ri_start {n : Int} (h : 0 ≤ n) : RevInv n ([] : List Int).length 0 n := rev_start h
theorem ri_turn {n0 r n i : Int} {pre : List Int} (h : RevInv n0 pre.length r n) : RevInv n0 (pre ++ [i]).length (Builtin.bitOr (r * 2 ^ (1 : Int).toNat) (Builtin.bitAnd n 1)) (n.fdiv (2 ^ (1 : Int).toNat)) := rev_turn h
theorem ri_small {n0 r n : Int} {pre : List Int} (h : RevInv n0 pre.length r n) (hp : pre.length ≤ 64) : r.natAbs < 2 ^ 64 := rev_small h hp
theorem ri_end {n0 w r n : Int} {k : Nat} (h : RevInv n0 k r n) (hk : k = w.toNat) : r = revI n0 w := by
  rw [h.1, hk]; rfl
/-- a spelled list of moved places -/
def spl (n : Int) (W : Nat) (g : Int → Int) : Int :=
  ((rk 0 W).map fun i => ((rk 0 W).map fun i => (((rk 0 W).map fun k => (n.fdiv (2 ^ k.toNat)).fmod 2)).getD (g i).toNat 0).getD i.toNat 0 * (2 : Int) ^ i.toNat).sum
theorem spl_eq (n : Int) (W : Nat) (g : Int → Int) : spl n W g = ((List.range W).map fun (i : Nat) => (bitsOf n W).getD (g i).toNat 0 * (2 : Int) ^ i).sum := by
  unfold spl
  rw [spelled_rk, bits_rk]
theorem s_rev {n w : Int} (h1 : 1 ≤ w) (h0 : 0 ≤ n) (h : n < 2 ^ w.toNat) : spl n w.toNat (fun i => w - 1 - i) = revI n w := by
  obtain ⟨N, W, rfl, rfl, hW, hN⟩ := nn h1 h0 h
  rw [Int.toNat_natCast, spl_eq, spelled_rev hW, revI_nat, revN_spell N W hW]
theorem s_left {n w : Int} (d : Int) (h1 : 1 ≤ w) (h0 : 0 ≤ n) (h : n < 2 ^ w.toNat) : spl n w.toNat (fun i => (i - d).fmod w) = rotl n d w := by
  obtain ⟨N, W, rfl, rfl, hW, hN⟩ := nn h1 h0 h
  rw [Int.toNat_natCast, spl_eq, spelled_of hW (fun i => i - d), rotl_spell d hW hN]
theorem s_right {n w : Int} (d : Int) (h1 : 1 ≤ w) (h0 : 0 ≤ n) (h : n < 2 ^ w.toNat) : spl n w.toNat (fun i => (i + d).fmod w) = rotr n d w := by
  obtain ⟨N, W, rfl, rfl, hW, hN⟩ := nn h1 h0 h
  rw [Int.toNat_natCast, spl_eq, spelled_of hW (fun i => i + d), rotr_spell d hW hN]
theorem s_moved {n w : Int} (j k : Int) (h1 : 1 ≤ w) (h0 : 0 ≤ n) (h : n < 2 ^ w.toNat) : spl n w.toNat (fun i => (i - j - k).fmod w) = rotl n (j + k) w := by
  obtain ⟨N, W, rfl, rfl, hW, hN⟩ := nn h1 h0 h
  rw [Int.toNat_natCast, spl_eq, spelled_of hW (fun i => i - j - k), sum_rotl j k hW hN]
theorem s_two {n w : Int} (j k : Int) (h1 : 1 ≤ w) (h0 : 0 ≤ n) (h : n < 2 ^ w.toNat) : spl n w.toNat (fun i => (i - j - k).fmod w) = rotl (rotl n j w) k w := by
  rw [s_moved j k h1 h0 h, e_two h1 h0 h]
theorem mul_pow (a : Int) {k : Int} (h : k < 64) : IntMulOk a ((2 : Int) ^ k.toNat) := by
  refine IntMulOk.of_right (intBits_le_64 ?_ ?_)
  · have := pw_pos k.toNat; omega
  · exact pw_lt (by omega)
/-- _law_spelled -/
def splI (l : List Int) : Int := ((rk 0 ((l.length : Int) - 0).toNat).map fun i => l.getD i.toNat 0 * (2 : Int) ^ i.toNat).sum
theorem splI_map (n : Int) (W : Nat) (g : Int → Int) : splI ((rk 0 W).map fun i => (((rk 0 W).map fun k => (n.fdiv (2 ^ k.toNat)).fmod 2)).getD (g i).toNat 0) = spl n W g := by
  unfold splI spl
  have e : ((((rk 0 W).map fun i => (((rk 0 W).map fun k => (n.fdiv (2 ^ k.toNat)).fmod 2)).getD (g i).toNat 0).length : Int) - 0).toNat = W := by
    rw [List.length_map]
    unfold rk
    rw [List.length_map, List.length_range]; omega
  rw [e]
/-- what a call's cut hands on: an int with P, the frame and the ledger as they stood -/
def CutI (P : Int → Prop) (h₀ : Heap) (L : Addr) (m : Str → Option Value) (news : List (Addr × Obj)) (s : Shared) (v : Value) (s₂ : Shared) : Prop :=
  ∃ (x : Int) (t : Tok) (h : Heap) (tk : Nat), v = .int x t ∧ s₂ = { s with heap := h, toks := tk } ∧ P x ∧ Fr h₀ L h m ∧ News h₀ L h news
theorem cutI_end {P : Int → Prop} {h₀ h : Heap} {L : Addr} {m : Str → Option Value} {news news' : List (Addr × Obj)} {s : Shared} {x : Int} {t : Tok} {tk : Nat}
    (hP : P x) (F : Fr h₀ L h m) (N : News h₀ L h news') (hs : ∀ p ∈ news, p ∈ news') : CutI P h₀ L m news s (.int x t) { s with heap := h, toks := tk } :=
  ⟨x, t, h, tk, rfl, rfl, hP, F, fun p hp => N p (hs p hp)⟩
theorem cutI (P : Int → Prop) {M : Model} {A : Around} {E : Value → Shared → Prop} {Q : Value → Shared → Prop} {s : Shared} {h₀ : Heap} {L : Addr} {m : Str → Option Value} {news : List (Addr × Obj)} {cm : Sem Value}
    (_F : Fr h₀ L s.heap m) (_N : News h₀ L s.heap news)
    (hk : ∀ (x : Int) (t : Tok) (h : Heap) (tk : Nat), P x → Fr h₀ L h m → News h₀ L h news → Q (.int x t) { s with heap := h, toks := tk })
    (hc : wpAny M A cm (fun v s₂ => CutI P h₀ L m news s v s₂) E s) : wpAny M A cm Q E s := by
  refine wpAny_mono hc (fun v s₂ hq => ?_) fun _ _ h => h
  obtain ⟨x, t, h, tk, hv, hs, hP, F, N⟩ := hq
  subst hv
  subst hs
  exact hk x t h tk hP F N
/-- a call of one int that hands back a function of it -/
theorem cutF1 (g : Int → Int) {M : Model} {A : Around} {E : Value → Shared → Prop} {Q : Value → Shared → Prop} {s : Shared} {h₀ : Heap} {L : Addr} {m : Str → Option Value} {news : List (Addr × Obj)} {f : Addr} {x : Int} {tx : Tok}
    (F : Fr h₀ L s.heap m) (N : News h₀ L s.heap news)
    (hk : ∀ (t : Tok) (h : Heap) (tk : Nat), Fr h₀ L h m → News h₀ L h news → Q (.int (g x) t) { s with heap := h, toks := tk })
    (hc : wpAny M A (call (.ref f) [.int x tx]) (fun v s₂ => CutI (fun r => r = g x) h₀ L m news s v s₂) E s) : wpAny M A (call (.ref f) [.int x tx]) Q E s :=
  cutI (fun r => r = g x) F N (fun r t h tk e F' N' => by subst e; exact hk t h tk F' N') hc
theorem cutF2 (g : Int → Int) {M : Model} {A : Around} {E : Value → Shared → Prop} {Q : Value → Shared → Prop} {s : Shared} {h₀ : Heap} {L : Addr} {m : Str → Option Value} {news : List (Addr × Obj)} {f : Addr} {x : Int} {tx : Tok} {v₂ : Value}
    (F : Fr h₀ L s.heap m) (N : News h₀ L s.heap news)
    (hk : ∀ (t : Tok) (h : Heap) (tk : Nat), Fr h₀ L h m → News h₀ L h news → Q (.int (g x) t) { s with heap := h, toks := tk })
    (hc : wpAny M A (call (.ref f) [.int x tx, v₂]) (fun v s₂ => CutI (fun r => r = g x) h₀ L m news s v s₂) E s) : wpAny M A (call (.ref f) [.int x tx, v₂]) Q E s :=
  cutI (fun r => r = g x) F N (fun r t h tk e F' N' => by subst e; exact hk t h tk F' N') hc
/-- «if test: x op= e», joined: the new value is an if -/
theorem join_aug {M : Model} {A : Around} {E : Value → Shared → Prop} {s : Shared} {env : Env} {h₀ : Heap} {L : Addr} {m : Str → Option Value} {news : List (Addr × Obj)} {test : Expr} {x : Str} {p q pos : Pos} {o : Operator} {e : Expr} {c : Bool} {a v : Int} {t₀ : Tok} {Q : Flow → Shared → Prop} (F : Fr h₀ L s.heap m) (N : News h₀ L s.heap news)
    (hold : m x = some (.int a t₀))
    (hc : wpAny M A (isTrue test env (eval test env)) (fun k s₂ => KJoinC c h₀ L m news s k s₂) E s)
    (hv : KJoinB1 (c = true → ∀ s₂, KJoinAt h₀ L m news s s₂ → wpAny M A (exec (.AugAssign (.Name x p) o e q) env) (fun f s₃ => KJoinV x v h₀ L m news s f s₃) E s₂))
    (hk : KCtDone (∀ (t : Tok) (h : Heap) (tk : Nat), Fr h₀ L h (fun y => if y = x then some (.int (if c = true then v else a) t) else m y) → News h₀ L h news → Q .next { s with heap := h, toks := tk })) :
    wpAny M A (exec (.If test [.AugAssign (.Name x p) o e q] [] pos) env) Q E s := by
  refine kj_if_aug F N hold hc hv (fun r t s₃ hr hJ => ?_)
  obtain ⟨h, tk, e', F', N'⟩ := hJ.at_
  subst e'
  have er : r = if c = true then v else a := by
    rcases hr with ⟨h1, h2⟩ | ⟨h1, h2⟩
    · rw [if_pos h1, h2]
    · rw [h1, if_neg (by simp), h2]
  subst er
  exact hk t h tk F' N'
def JoinDone (P : Prop) : Prop := P
theorem join_aug' {M : Model} {A : Around} {E : Value → Shared → Prop} {s : Shared} {env : Env} {h₀ : Heap} {L : Addr} {m : Str → Option Value} {news : List (Addr × Obj)} {test : Expr} {x : Str} {p q pos : Pos} {o : Operator} {e : Expr} {c : Bool} {a v : Int} {t₀ : Tok} {Q : Flow → Shared → Prop} (F : Fr h₀ L s.heap m) (N : News h₀ L s.heap news)
    (hold : m x = some (.int a t₀))
    (hc : wpAny M A (isTrue test env (eval test env)) (fun k s₂ => KJoinC c h₀ L m news s k s₂) E s)
    (hv : KJoinB1 (c = true → ∀ s₂, KJoinAt h₀ L m news s s₂ → wpAny M A (exec (.AugAssign (.Name x p) o e q) env) (fun f s₃ => KJoinV x v h₀ L m news s f s₃) E s₂))
    (hk : JoinDone (∀ (t : Tok) (h : Heap) (tk : Nat), Fr h₀ L h (fun y => if y = x then some (.int (if c = true then v else a) t) else m y) → News h₀ L h news → Q .next { s with heap := h, toks := tk })) :
    wpAny M A (exec (.If test [.AugAssign (.Name x p) o e q] [] pos) env) Q E s := join_aug F N hold hc hv hk
/-- a call upon a value and an int W that hands back an int below 2 ^ W -/
theorem cutW {M : Model} {A : Around} {E : Value → Shared → Prop} {Q : Value → Shared → Prop} {s : Shared} {h₀ : Heap} {L : Addr} {m : Str → Option Value} {news : List (Addr × Obj)} {f : Addr} {a : Value} {W : Int} {tW : Tok}
    (F : Fr h₀ L s.heap m) (N : News h₀ L s.heap news)
    (hk : ∀ (x : Int) (t : Tok) (h : Heap) (tk : Nat), 0 ≤ x → x < 2 ^ W.toNat → Fr h₀ L h m → News h₀ L h news → Q (.int x t) { s with heap := h, toks := tk })
    (hc : wpAny M A (call (.ref f) [a, .int W tW]) (fun v s₂ => CutI (fun x => 0 ≤ x ∧ x < 2 ^ W.toNat) h₀ L m news s v s₂) E s) : wpAny M A (call (.ref f) [a, .int W tW]) Q E s :=
  cutI (fun x => 0 ≤ x ∧ x < 2 ^ W.toNat) F N (fun x t h tk hP F' N' => hk x t h tk hP.1 hP.2 F' N') hc
/-- what a call's cut hands on: a text with P -/
def CutS (P : Str → Prop) (h₀ : Heap) (L : Addr) (m : Str → Option Value) (news : List (Addr × Obj)) (s : Shared) (v : Value) (s₂ : Shared) : Prop :=
  ∃ (x : Str) (t : Tok) (h : Heap) (tk : Nat), v = .str x t ∧ s₂ = { s with heap := h, toks := tk } ∧ P x ∧ Fr h₀ L h m ∧ News h₀ L h news
theorem cutS_end {P : Str → Prop} {h₀ h : Heap} {L : Addr} {m : Str → Option Value} {news news' : List (Addr × Obj)} {s : Shared} {x : Str} {t : Tok} {tk : Nat}
    (hP : P x) (F : Fr h₀ L h m) (N : News h₀ L h news') (hs : ∀ p ∈ news, p ∈ news') : CutS P h₀ L m news s (.str x t) { s with heap := h, toks := tk } :=
  ⟨x, t, h, tk, rfl, rfl, hP, F, fun p hp => N p (hs p hp)⟩
theorem cutS_ (P : Str → Prop) {M : Model} {A : Around} {E : Value → Shared → Prop} {Q : Value → Shared → Prop} {s : Shared} {h₀ : Heap} {L : Addr} {m : Str → Option Value} {news : List (Addr × Obj)} {cm : Sem Value}
    (_F : Fr h₀ L s.heap m) (_N : News h₀ L s.heap news)
    (hk : ∀ (x : Str) (t : Tok) (h : Heap) (tk : Nat), P x → Fr h₀ L h m → News h₀ L h news → Q (.str x t) { s with heap := h, toks := tk })
    (hc : wpAny M A cm (fun v s₂ => CutS P h₀ L m news s v s₂) E s) : wpAny M A cm Q E s := by
  refine wpAny_mono hc (fun v s₂ hq => ?_) fun _ _ h => h
  obtain ⟨x, t, h, tk, hv, hs, hP, F, N⟩ := hq
  subst hv
  subst hs
  exact hk x t h tk hP F N
theorem rangeKs_rk (a : Int) (n : Nat) : rangeKs a n = rk a n := rfl
abbrev BITS (n w : Int) : List Int := List.map (fun k' => (n.fdiv (2 ^ k'.toNat)).fmod 2) (rangeKs 0 (w - 0).toNat)
abbrev MOVED (n w : Int) (g : Int → Int) : List Int := List.map (fun k' => (BITS n w).getD (g k').toNat 0) (rangeKs 0 (w - 0).toNat)
abbrev SPL (n w : Int) (g : Int → Int) : Int := (List.map (fun k' => (MOVED n w g).getD k'.toNat 0 * 2 ^ k'.toNat) (rangeKs 0 (((MOVED n w g).length : Int) - 0).toNat)).sum
theorem SPL_eq {n w : Int} (g : Int → Int) : SPL n w g = spl n w.toNat g := by
  have e : (w - 0).toNat = w.toNat := by rw [Int.sub_zero]
  have := splI_map n w.toNat g
  unfold splI at this
  unfold SPL MOVED BITS
  rw [e]
  exact this
section
variable {n w j k d : Int} (h1 : 1 ≤ w) (h0 : 0 ≤ n) (h : n < 2 ^ w.toNat)
theorem end1 (hne : revI n w ≠ SPL n w (fun i => w - 1 - i)) (h : n < 2 ^ w.toNat) (h0 : 0 ≤ n) (h1 : 1 ≤ w) : False := hne (by rw [SPL_eq, s_rev h1 h0 h])
theorem end2 (hne : rotl n d w ≠ SPL n w (fun i => (i - d).fmod w)) (h : n < 2 ^ w.toNat) (h0 : 0 ≤ n) (h1 : 1 ≤ w) : False := hne (by rw [SPL_eq, s_left d h1 h0 h])
theorem end3 (hne : rotr n d w ≠ SPL n w (fun i => (i + d).fmod w)) (h : n < 2 ^ w.toNat) (h0 : 0 ≤ n) (h1 : 1 ≤ w) : False := hne (by rw [SPL_eq, s_right d h1 h0 h])
theorem end4 (hne : rotl (rotl n j w) k w ≠ SPL n w (fun i => (i - j - k).fmod w)) (h : n < 2 ^ w.toNat) (h0 : 0 ≤ n) (h1 : 1 ≤ w) : False := hne (by rw [SPL_eq, s_two j k h1 h0 h])
theorem end5 (hne : rotl n (j + k) w ≠ SPL n w (fun i => (i - j - k).fmod w)) (h : n < 2 ^ w.toNat) (h0 : 0 ≤ n) (h1 : 1 ≤ w) : False := hne (by rw [SPL_eq, s_moved j k h1 h0 h])
theorem end6 (hne : revI (rotl (revI n w) k w) w ≠ rotr n k w) (h : n < 2 ^ w.toNat) (h0 : 0 ≤ n) (h1 : 1 ≤ w) : False := hne (e_mirror h1 h0 h)
theorem end7 (hne : rotr (rotl n k w) k w ≠ n) (h : n < 2 ^ w.toNat) (h0 : 0 ≤ n) (h1 : 1 ≤ w) : False := hne (e_back h1 h0 h)
theorem end8 (hne : revI (revI n w) w ≠ n) (h : n < 2 ^ w.toNat) (h0 : 0 ≤ n) (h1 : 1 ≤ w) : False := hne (e_revrev h1 h0 h)
end
theorem small_c {n w : Int} {P : Prop} (h : (0 ≤ n ∧ n < 2 ^ w.toNat ∧ 1 ≤ w ∧ w ≤ 64) ∧ P) : n.natAbs < 2 ^ 64 := small_of h.1.1 h.1.2.1 h.1.2.2.2
/-- a term's evaluation, cut at its value -/
theorem cutV (v : Int) {M : Model} {A : Around} {E : Value → Shared → Prop} {Q : Value → Shared → Prop} {s : Shared} {h₀ : Heap} {L : Addr} {m : Str → Option Value} {news : List (Addr × Obj)} {cm : Sem Value}
    (F : Fr h₀ L s.heap m) (N : News h₀ L s.heap news)
    (hk : ∀ (t : Tok) (h : Heap) (tk : Nat), Fr h₀ L h m → News h₀ L h news → Q (.int v t) { s with heap := h, toks := tk })
    (hc : wpAny M A cm (fun v' s₂ => CutI (fun x => x = v) h₀ L m news s v' s₂) E s) : wpAny M A cm Q E s :=
  cutI (fun x => x = v) F N (fun x t h tk hP F' N' => by subst hP; exact hk t h tk F' N') hc
section
variable {M : Model} {A : Around} {E : Value → Shared → Prop} {Q : Value → Shared → Prop} {s : Shared} {h₀ : Heap} {L : Addr} {m : Str → Option Value} {news : List (Addr × Obj)} {cm : Sem Value} {n w d : Int}
theorem cut_rev (_c : 0 ≤ revI n w ∧ revI n w < 2 ^ w.toNat) (F : Fr h₀ L s.heap m) (N : News h₀ L s.heap news)
    (hk : ∀ (t : Tok) (h : Heap) (tk : Nat), Fr h₀ L h m → News h₀ L h news → Q (.int (revI n w) t) { s with heap := h, toks := tk })
    (hc : wpAny M A cm (fun v' s₂ => CutI (fun x => x = revI n w) h₀ L m news s v' s₂) E s) : wpAny M A cm Q E s := cutV _ F N hk hc
theorem cut_left (_c : 0 ≤ rotl n d w ∧ rotl n d w < 2 ^ w.toNat) (F : Fr h₀ L s.heap m) (N : News h₀ L s.heap news)
    (hk : ∀ (t : Tok) (h : Heap) (tk : Nat), Fr h₀ L h m → News h₀ L h news → Q (.int (rotl n d w) t) { s with heap := h, toks := tk })
    (hc : wpAny M A cm (fun v' s₂ => CutI (fun x => x = rotl n d w) h₀ L m news s v' s₂) E s) : wpAny M A cm Q E s := cutV _ F N hk hc
theorem cut_right (_c : 0 ≤ rotr n d w ∧ rotr n d w < 2 ^ w.toNat) (F : Fr h₀ L s.heap m) (N : News h₀ L s.heap news)
    (hk : ∀ (t : Tok) (h : Heap) (tk : Nat), Fr h₀ L h m → News h₀ L h news → Q (.int (rotr n d w) t) { s with heap := h, toks := tk })
    (hc : wpAny M A cm (fun v' s₂ => CutI (fun x => x = rotr n d w) h₀ L m news s v' s₂) E s) : wpAny M A cm Q E s := cutV _ F N hk hc
end
theorem c_rev {n w : Int} (h : n < 2 ^ w.toNat) (h0 : 0 ≤ n) (h1 : 1 ≤ w) : SPL n w (fun i => w - 1 - i) = revI n w := by rw [SPL_eq, s_rev h1 h0 h]
theorem c_left {n w d : Int} (h : n < 2 ^ w.toNat) (h0 : 0 ≤ n) (h1 : 1 ≤ w) : SPL n w (fun i => (i - d).fmod w) = rotl n d w := by rw [SPL_eq, s_left d h1 h0 h]
theorem c_right {n w d : Int} (h : n < 2 ^ w.toNat) (h0 : 0 ≤ n) (h1 : 1 ≤ w) : SPL n w (fun i => (i + d).fmod w) = rotr n d w := by rw [SPL_eq, s_right d h1 h0 h]
end Mine
open Mine
local macro_rules | `(tactic| k_room) => `(tactic| ((simp only [depth_under_make, depth_under_kw, depth_in1, depth_deeper, depth_caller]); omega))
local macro_rules | `(tactic| ktr_room) => `(tactic| ((simp only [depth_under_make, depth_under_kw, depth_in1, depth_deeper, depth_caller]); omega))
local macro_rules | `(tactic| walk_at "eval Call") => `(tactic| (k_here; (with_reducible show wpAny _ _ (eval (Expr.Call (Expr.Name (Str.ofString "_law_cell") _) _ [] _) _) _ _ _); refine Call_ ?_))
local macro_rules | `(tactic| walk_at "eval Call") => `(tactic| (k_here; (with_reducible show wpAny _ _ (eval (Expr.Call (Expr.Name (Str.ofString "_law_word") _) _ [] _) _) _ _ _); refine Call_ ?_))
local macro_rules | `(tactic| walk_at "eval Call") => `(tactic| (k_here; (with_reducible show wpAny _ _ (eval (Expr.Call (Expr.Name (Str.ofString "_law_distance") _) _ [] _) _) _ _ _); refine Call_ ?_))
local macro_rules | `(tactic| walk_at "eval Call") => `(tactic| (k_here; (with_reducible show wpAny _ _ (eval (Expr.Call (Expr.Name (Str.ofString "reversed_bits") _) _ [] _) _) _ _ _); refine Call_ ?_))
local macro_rules | `(tactic| walk_at "eval Call") => `(tactic| (k_here; (with_reducible show wpAny _ _ (eval (Expr.Call (Expr.Name (Str.ofString "rotated_left") _) _ [] _) _) _ _ _); refine Call_ ?_))
local macro_rules | `(tactic| walk_at "eval Call") => `(tactic| (k_here; (with_reducible show wpAny _ _ (eval (Expr.Call (Expr.Name (Str.ofString "rotated_right") _) _ [] _) _) _ _ _); refine Call_ ?_))
local macro_rules | `(tactic| walk_at "CutI") => `(tactic| (refine' cutI_end ?cP ?cF ?cN ?cS; (case cF => k_asm); (case cN => assumption); (case cS => kcj_all); (case cP => k_extra "cut")))
local macro_rules | `(tactic| walk_at "eval Call") => `(tactic| (k_here; (with_reducible show wpAny _ _ (eval (Expr.Call (Expr.Name (Str.ofString "_law_spelled") _) [Expr.ListComp (Expr.Subscript _ (Expr.BinOp (Expr.BinOp _ Operator.Sub _ _) Operator.Sub _ _) _) _ _ _] _ _) _) _ _ _); (fail_if_success (with_reducible show wpAny _ _ _ (fun v s₂ => CutI _ _ _ _ _ _ v s₂) _ _)); (refine' cut_rev (by assumption) ?cF ?cN ?_ ?_; (case cF => k_asm); (case cN => k_asm); (intro t9 h9 tk9 F9 N9); (try dsimp only))))
local macro_rules | `(tactic| walk_at "eval Call") => `(tactic| (k_here; (with_reducible show wpAny _ _ (eval (Expr.Call (Expr.Name (Str.ofString "_law_spelled") _) [Expr.ListComp (Expr.Subscript _ (Expr.BinOp (Expr.BinOp (Expr.Name _ _) Operator.Sub _ _) Operator.Mod _ _) _) _ _ _] _ _) _) _ _ _); (fail_if_success (with_reducible show wpAny _ _ _ (fun v s₂ => CutI _ _ _ _ _ _ v s₂) _ _)); (refine' cut_left (by assumption) ?cF ?cN ?_ ?_; (case cF => k_asm); (case cN => k_asm); (intro t9 h9 tk9 F9 N9); (try dsimp only))))
local macro_rules | `(tactic| walk_at "eval Call") => `(tactic| (k_here; (with_reducible show wpAny _ _ (eval (Expr.Call (Expr.Name (Str.ofString "_law_spelled") _) [Expr.ListComp (Expr.Subscript _ (Expr.BinOp (Expr.BinOp (Expr.Name _ _) Operator.Add _ _) Operator.Mod _ _) _) _ _ _] _ _) _) _ _ _); (fail_if_success (with_reducible show wpAny _ _ _ (fun v s₂ => CutI _ _ _ _ _ _ v s₂) _ _)); (refine' cut_right (by assumption) ?cF ?cN ?_ ?_; (case cF => k_asm); (case cN => k_asm); (intro t9 h9 tk9 F9 N9); (try dsimp only))))
local macro_rules | `(tactic| walk_at "call ref") => `(tactic| (k_here; (with_reducible show wpAny _ _ (call (Value.ref (ktn_at% "_law_cell")) _) _ _ _); (k_call_by "_law_cell" cell5 (fun _ i => 0 ≤ i))))
local macro_rules | `(tactic| walk_at "binaryOp Pow int int") => `(tactic| (k_here; (with_reducible refine' pow_int_small ?a ?b ?c ?_); (case a => (first | ((with_reducible refine (fmod_range _ ?_).1); k_extra "om") | ((with_reducible refine (sub_fmod _ ?_).1); k_extra "om") | k_extra "om")); (case b => (first | ((with_reducible refine Int.le_of_lt (Int.lt_of_lt_of_le (fmod_range _ ?_).2 ?_)) <;> k_extra "om") | ((with_reducible refine Int.le_trans (sub_fmod _ ?_).2 ?_) <;> k_extra "om") | k_extra "om")); (case c => decide)))
local macro_rules | `(tactic| walk_at "binaryOp LShift int int") => `(tactic| (k_here; (with_reducible refine' lshift_int_small ?a ?b ?c ?_); (case a => (first | ((with_reducible refine (fmod_range _ ?_).1); k_extra "om") | ((with_reducible refine (sub_fmod _ ?_).1); k_extra "om") | k_extra "om")); (case b => (first | ((with_reducible refine Int.le_of_lt (Int.lt_of_lt_of_le (fmod_range _ ?_).2 ?_)) <;> k_extra "om") | ((with_reducible refine Int.le_trans (sub_fmod _ ?_).2 ?_) <;> k_extra "om") | k_extra "om")); (case c => (first | decide | (exact small_c (by assumption)) | (exact ri_small (by assumption) (by k_extra "om"))))))
local macro_rules | `(tactic| walk_at "binaryOp RShift int int") => `(tactic| (k_here; (with_reducible refine' rshift_int ?a ?_); (case a => (first | ((with_reducible refine (fmod_range _ ?_).1); k_extra "om") | ((with_reducible refine (sub_fmod _ ?_).1); k_extra "om") | k_extra "om"))))
local macro_rules | `(tactic| walk_at "inplaceOp Mod int int") => `(tactic| (k_here; (with_reducible refine' imod_int ?a ?_); (case a => (first | (with_reducible exact Int.ne_of_gt (pow_pos_of (by decide) _)) | decide | ((with_reducible refine fdiv_one_pos ?_); k_extra "om") | k_extra "om"))))
local macro_rules | `(tactic| walk_at "binaryOp Mod int int") => `(tactic| (k_here; (with_reducible refine' mod_int' ?a ?_); (case a => (first | (with_reducible exact Int.ne_of_gt (pow_pos_of (by decide) _)) | decide | ((with_reducible refine fdiv_one_pos ?_); k_extra "om") | k_extra "om"))))
local macro_rules | `(tactic| walk_at "subscriptTail Name BinOp ref int") => `(tactic| (k_here; (with_reducible show wpAny _ _ (subscriptTail _ _ (Value.ref _) (Value.int _ _)) _ _ _); (with_unfolding_all refine' item_list_ints ?k1 ?k2 ?k3 ?k4 ?k5 ?_; (case k1 => is_list); (case k2 => l_ints); (case k3 => k_dflt (first | ((with_reducible refine (fmod_range _ ?_).1); k_extra "om") | ((with_reducible refine (sub_fmod _ ?_).1); k_extra "om") | k_extra "om")); (case k4 => k_dflt ((try simp only [List.length_map, List.length_append, List.length_drop, List.length_cons, List.length_nil, rangeKs_length]); (first | ((with_reducible refine Int.lt_of_lt_of_le (fmod_range _ ?_).2 ?_) <;> k_extra "om") | k_extra "om"))); (case k5 => k_dflt (first | ((with_reducible refine Int.lt_of_lt_of_le (fmod_range _ ?_).2 ?_) <;> k_extra "om") | k_extra "om")); k_whole); intro _))
local macro_rules | `(tactic| walk_at "subscriptTail Name Name ref int") => `(tactic| (k_here; (with_reducible show wpAny _ _ (subscriptTail _ _ (Value.ref _) (Value.int _ _)) _ _ _); (with_unfolding_all refine' item_list_ints ?k1 ?k2 ?k3 ?k4 ?k5 ?_; (case k1 => is_list); (case k2 => l_ints); (case k3 => k_dflt (first | ((with_reducible refine (fmod_range _ ?_).1); k_extra "om") | ((with_reducible refine (sub_fmod _ ?_).1); k_extra "om") | k_extra "om")); (case k4 => k_dflt ((try simp only [List.length_map, List.length_append, List.length_drop, List.length_cons, List.length_nil, rangeKs_length]); (first | ((with_reducible refine Int.lt_of_lt_of_le (fmod_range _ ?_).2 ?_) <;> k_extra "om") | k_extra "om"))); (case k5 => k_dflt (first | ((with_reducible refine Int.lt_of_lt_of_le (fmod_range _ ?_).2 ?_) <;> k_extra "om") | k_extra "om")); k_whole); intro _))
local macro_rules | `(tactic| walk_at "binaryOp Mult int int") => `(tactic| (k_here; (with_reducible refine' mul_int ?_ (mul_pow _ ?m)); (case m => (k_extra "om"))))
local macro_rules | `(tactic| walk_at "storeName") => `(tactic| (k_here; (refine gen_w (R := fun W => wpAny _ _ (storeName _ _ (Value.int W _)) _ _ _) (by first | assumption | exact (fmod_range _ (by decide)).1) (by first | assumption | exact (fmod_range _ (by decide)).2) ?_); intro W' hW1' hW2'))
local macro_rules | `(tactic| walk_at "storeName") => `(tactic| (k_here; (with_reducible refine gen_n (R := fun N => wpAny _ _ (storeName _ _ (Value.int N _)) _ _ _) (by assumption) ?_); intro N' hN1' hN2'))
local macro_rules | `(tactic| walk_at "storeName") => `(tactic| (k_here; (with_reducible refine gen_d (R := fun N => wpAny _ _ (storeName _ _ (Value.int N _)) _ _ _) ?_); intro J'))
set_option maxRecDepth 100000 in
set_option maxHeartbeats 80000000 in
theorem PySem.Challenge.cw_pd_bitworks_2_02_holds : PySem.Challenge.rw_pd_bitworks_2_02.Holds := by
  (k_with "om" => ((repeat ((with_reducible rename ((_ ≠ _) ∧ _) => hz9); clear hz9)); (repeat ((with_reducible rename (((_ ≠ _) ∧ _) ∧ _) => hz9); clear hz9)); (try ((with_reducible rename (_ < (0 : Int) + _) => hq9); (simp only [List.length_map, rangeKs_length] at hq9))); omega))
  (k_with "tree" => first | (unfold splI; rfl) | (unfold rotl; rfl) | (unfold rotr; rfl) | exact ri_end (by assumption) (by first | (rw [rangeKs_length]; omega) | omega) | exact (ri_end (by assumption) (by first | (rw [rangeKs_length]; omega) | omega)).symm | ((first | unfold cell5 | unfold word2 | unfold dist2); (repeat (first | rw [if_pos (by assumption)] | rw [if_neg (by assumption)])); done) )
  (k_with "call ref" => k_call_by "_law_cell" cell5 (fun _ i => 0 ≤ i))
  (k_with "call ref" => k_call_by "_law_word" word2 (fun _ _ _ w => 1 ≤ w ∧ w ≤ 64))
  (k_with "call ref" => k_call_by "_law_distance" dist2 (fun _ _ w => 1 ≤ w ∧ w ≤ 64))
  (k_with "call ref" => k_call_by "reversed_bits" revI (fun n w => 0 ≤ n ∧ n < 2 ^ w.toNat ∧ 1 ≤ w ∧ w ≤ 64))
  (k_with "call ref" => k_call_rec "rotated_left" rotl (fun n _ w => 0 ≤ n ∧ n < 2 ^ w.toNat ∧ 1 ≤ w ∧ w ≤ 64) (fun _ _ _ => 2))
  (k_with "call ref" => k_call_rec "rotated_right" rotr (fun n _ w => 0 ≤ n ∧ n < 2 ^ w.toNat ∧ 1 ≤ w ∧ w ≤ 64) (fun _ _ _ => 2))
  (k_with "fact reversed_bits" => exact revI_range)
  (k_with "fact rotated_left" => exact rotl_range')
  (k_with "fact rotated_right" => exact rotr_range')
  (k_with "pyIter ref" => (k_of "_" => k_state_given ["n!"] (fun n0 pre r n => RevInv n0 pre.length r n) "result" "n"))
  (k_with "state" => first | exact ri_start (by omega) | exact ri_turn (by assumption))
  (k_with "cut" => first | (with_reducible exact c_rev (by assumption) (by assumption) (by assumption)) | (with_reducible exact c_left (by assumption) (by assumption) (by assumption)) | (with_reducible exact c_right (by assumption) (by assumption) (by assumption)))
  (k_with "end" => ((with_reducible show (false == true) = true); exfalso; (first | (with_reducible exact absurd rfl (by assumption)) | (with_reducible exact end1 (by assumption) (by assumption) (by assumption) (by assumption)) | (with_reducible exact end2 (by assumption) (by assumption) (by assumption) (by assumption)) | (with_reducible exact end3 (by assumption) (by assumption) (by assumption) (by assumption)) | (with_reducible exact end4 (by assumption) (by assumption) (by assumption) (by assumption)) | (with_reducible exact end5 (by assumption) (by assumption) (by assumption) (by assumption)) | (with_reducible exact end6 (by assumption) (by assumption) (by assumption) (by assumption)) | (with_reducible exact end7 (by assumption) (by assumption) (by assumption) (by assumption)) | (with_reducible exact end8 (by assumption) (by assumption) (by assumption) (by assumption)) | k_extra "om")))
  open_k
