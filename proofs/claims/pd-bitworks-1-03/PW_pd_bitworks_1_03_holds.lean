import PyProof.Rows.All
import Wide.All
import OpenK.AllK
import Wide.FinOn
import PySem.Challenge.RW_pd_bitworks_1_03
open PySem PySem.W PyProof.Rows
set_option Elab.async false
namespace Mine
/-- what a call's cut hands on: an int with P, the frame and the ledger as they stood -/
def CutI (P : Int → Prop) (h₀ : Heap) (L : Addr) (m : Str → Option Value) (news : List (Addr × Obj)) (s : Shared) (v : Value) (s₂ : Shared) : Prop :=
  ∃ (x : Int) (t : Tok) (h : Heap) (tk : Nat), v = .int x t ∧ s₂ = { s with heap := h, toks := tk } ∧ P x ∧ Fr h₀ L h m ∧ News h₀ L h news
theorem cutI_end {P : Int → Prop} {h₀ h : Heap} {L : Addr} {m : Str → Option Value} {news news' : List (Addr × Obj)} {s : Shared} {x : Int} {t : Tok} {tk : Nat}
    (hP : P x) (F : Fr h₀ L h m) (N : News h₀ L h news') (hs : ∀ p ∈ news, p ∈ news') : CutI P h₀ L m news s (.int x t) { s with heap := h, toks := tk } :=
  ⟨x, t, h, tk, rfl, rfl, hP, F, fun p hp => N p (hs p hp)⟩
theorem cutI (P : Int → Prop) {M : Model} {A : Around} {E : Value → Shared → Prop} {Q : Value → Shared → Prop} {s : Shared} {h₀ : Heap} {L : Addr} {m : Str → Option Value} {news : List (Addr × Obj)} {cm : Sem Value}
    (_F : Fr h₀ L s.heap m) (_N : News h₀ L s.heap news)
    (hk : ∀ (x : Int) (t : Tok) (h : Heap) (tk : Nat), P x → Fr h₀ L h m → News h₀ L h news → Q (.int x t) { s with heap := h, toks := tk })
    (hc : wpAny M A cm (fun v s₂ => CutI P h₀ L m news s v s₂) E s) : wpAny M A cm Q E s := by
  refine wpAny_mono hc (fun v s₂ hq => ?_) fun _ _ h => h
  obtain ⟨x, t, h, tk, hv, hs, hP, F, N⟩ := hq
  subst hv
  subst hs
  exact hk x t h tk hP F N
/-- a call whose first argument is an int that hands back a function of it -/
theorem cutF2 (g : Int → Int) {M : Model} {A : Around} {E : Value → Shared → Prop} {Q : Value → Shared → Prop} {s : Shared} {h₀ : Heap} {L : Addr} {m : Str → Option Value} {news : List (Addr × Obj)} {f : Addr} {x : Int} {tx : Tok} {v₂ : Value}
    (F : Fr h₀ L s.heap m) (N : News h₀ L s.heap news)
    (hk : ∀ (t : Tok) (h : Heap) (tk : Nat), Fr h₀ L h m → News h₀ L h news → Q (.int (g x) t) { s with heap := h, toks := tk })
    (hc : wpAny M A (call (.ref f) [.int x tx, v₂]) (fun v s₂ => CutI (fun r => r = g x) h₀ L m news s v s₂) E s) : wpAny M A (call (.ref f) [.int x tx, v₂]) Q E s :=
  cutI (fun r => r = g x) F N (fun r t h tk e F' N' => by subst e; exact hk t h tk F' N') hc
theorem sum_nonneg : ∀ {l : List Int}, (∀ y ∈ l, 0 ≤ y) → 0 ≤ l.sum
  | [], _ => by simp
  | a :: r, h => by
    have h1 := h a (List.mem_cons_self ..)
    have h2 := sum_nonneg fun y hy => h y (List.mem_cons_of_mem _ hy)
    rw [List.sum_cons]; omega
theorem pick_sum : ∀ (l : List Int) (i : Nat), i < l.length → (l.take i ++ l.drop (i + 1)).sum + l.getD i 0 = l.sum ∧ (l.take i ++ l.drop (i + 1)).length + 1 = l.length
  | [], i, h => by simp at h
  | a :: r, 0, _ => by simp; omega
  | a :: r, i + 1, h => by
    have ih := pick_sum r i (by simpa using h)
    rw [List.take_succ_cons, List.drop_succ_cons, List.cons_append, List.sum_cons, List.sum_cons, List.getD_cons_succ, List.length_cons, List.length_cons]
    omega
theorem pick_mem {l : List Int} {i : Nat} {y : Int} (h : y ∈ l.take i ++ l.drop (i + 1)) : y ∈ l := by
  rcases List.mem_append.mp h with h | h
  · exact List.mem_of_mem_take h
  · exact List.mem_of_mem_drop h
theorem getD_nonneg {l : List Int} (h : ∀ y ∈ l, 0 ≤ y) (i : Nat) : 0 ≤ l.getD i 0 := by
  by_cases hi : i < l.length
  · rw [List.getD_eq_getElem?_getD, List.getElem?_eq_getElem hi]
    exact h _ (List.getElem_mem hi)
  · rw [List.getD_eq_getElem?_getD, List.getElem?_eq_none (by omega)]
    exact Int.le_refl 0
section
variable {prog : Program} {w : World} {A : Around} {E : Value → Shared → Prop} {s : Shared} {h₀ : Heap} {L a b : Addr} {m : Str → Option Value} {news : List (Addr × Obj)} {vs ws : List Value} {l : List Int} {Q : Value → Shared → Prop}
/-- left[:at] + left[at + 1:], its ints forgotten but for their number and sum -/
theorem add_pick {x S : Int} {c : Nat} (F : Fr h₀ L s.heap m) (N : News h₀ L s.heap news) (ha : s.heap.IsList a vs.toArray) (hb : s.heap.IsList b ws.toArray) (hi : IntsAre vs (l.take x.toNat)) (hj : IntsAre ws (l.drop (x + 1).toNat))
    (hl : ∀ y ∈ l, 0 ≤ y) (hS : l.sum = S) (hc : l.length = c) (hx : 0 ≤ x) (hx2 : x < c) (hc7 : c ≤ 7)
    (h : ∀ D us h' r, Fr h₀ L h' m → News h₀ L h' ((D, listOf (List.toArray us) 0) :: news) → (∀ p ∈ news, p.1 < D) → IntsAre us r → r.length = c - 1 → (∀ y ∈ r, 0 ≤ y) → r.sum + l.getD x.toNat 0 = S → 0 ≤ l.getD x.toNat 0 → 0 ≤ r.sum → Q (.ref D) { s with heap := h' }) :
    wpAny (model prog w) A (binaryOp .Add (.ref a) (.ref b)) Q E s := by
  have e : (x + 1).toNat = x.toNat + 1 := by omega
  rw [e] at hj
  have hp := pick_sum l x.toNat (by omega)
  refine kmk_add_ints F N ha hb hi hj (fun D us h' F' N' l1 hI => h D us h' _ F' N' l1 hI (by omega) (fun y hy => hl y (pick_mem hy)) (by omega) (getD_nonneg hl _) (sum_nonneg fun y hy => hl y (pick_mem hy))) ?_
  rw [sizeLine_eq]
  have h1 : (l.take x.toNat).length ≤ l.length := by rw [List.length_take]; omega
  have h2 : (l.drop (x.toNat + 1)).length ≤ l.length := by rw [List.length_drop]; omega
  omega
end
/-- hamming_syndrome -/
def syn (w : Int) : Int := (rangeKs 1 7).foldl (fun s p => if Builtin.bitAnd (w.fdiv (2 ^ (p - 1 : Int).toNat)) 1 = 1 then Builtin.bitXor s p else s) 0
/-- hamming_encode -/
def enc (n : Int) : Int :=
  let word := Builtin.bitOr (Builtin.bitAnd n 1 * 2 ^ (2 : Int).toNat) (Builtin.bitAnd n 14 * 2 ^ (3 : Int).toNat)
  let checks := syn word
  Builtin.bitOr (Builtin.bitOr word (Builtin.bitAnd checks 3)) (Builtin.bitAnd checks 4 * 2 ^ (1 : Int).toNat)
/-- the law's own code word -/
def cw (n : Int) : Int :=
  let a := n.fmod 2
  let b := (n.fdiv 2).fmod 2
  let c := (n.fdiv 4).fmod 2
  let d := (n.fdiv 8).fmod 2
  (a + b + d).fmod 2 + 2 * (a + c + d).fmod 2 + 4 * a + 8 * (b + c + d).fmod 2 + 16 * b + 32 * c + 64 * d
/-- the law's odd counts -/
def oddc (e : Int) (ws : List Int) : Int := (ws.foldl (fun c x => if (e.fdiv x).fmod 2 = 1 then c + 1 else c) (0 : Int)).fmod 2
def due (e : Int) : Int := oddc e [1, 4, 16, 64] + 2 * oddc e [2, 4, 32, 64] + 4 * oddc e [8, 16, 32, 64]
theorem ham1N : ∀ n : Nat, n < 16 → enc n = cw n ∧ syn (enc n) = 0 := by decide +kernel
theorem ham2a : ∀ n : Nat, n < 16 → ∀ e : Nat, e < 32 → syn (Builtin.bitXor (enc n) e) = due e := by decide +kernel
theorem ham2b : ∀ n : Nat, n < 16 → ∀ e : Nat, e < 32 → syn (Builtin.bitXor (enc n) ((e + 32 : Nat) : Int)) = due ((e + 32 : Nat) : Int) := by decide +kernel
theorem ham2c : ∀ n : Nat, n < 16 → ∀ e : Nat, e < 32 → syn (Builtin.bitXor (enc n) ((e + 64 : Nat) : Int)) = due ((e + 64 : Nat) : Int) := by decide +kernel
theorem ham2d : ∀ n : Nat, n < 16 → ∀ e : Nat, e < 32 → syn (Builtin.bitXor (enc n) ((e + 96 : Nat) : Int)) = due ((e + 96 : Nat) : Int) := by decide +kernel
theorem ham2N {e n : Nat} (he : e < 128) (hn : n < 16) : syn (Builtin.bitXor (enc n) e) = due e := by
  by_cases h1 : e < 32
  · exact ham2a n hn e h1
  · by_cases h2 : e < 64
    · have h := ham2b n hn (e - 32) (by omega)
      rw [show e - 32 + 32 = e by omega] at h; exact h
    · by_cases h3 : e < 96
      · have h := ham2c n hn (e - 64) (by omega)
        rw [show e - 64 + 64 = e by omega] at h; exact h
      · have h := ham2d n hn (e - 96) (by omega)
        rw [show e - 96 + 96 = e by omega] at h; exact h
theorem ham3N : ∀ e : Nat, e < 128 → ((due e == 0) = ((List.map (fun k' => cw k') (rangeKs 0 16)).any fun x => x == (e : Int))) := by decide +kernel
theorem words_getD : ∀ n : Nat, n < 16 → (List.map (fun k' => cw k') (rangeKs 0 16)).getD n 0 = cw n := by decide +kernel
theorem fmod_range (y : Int) {m : Int} (hm : 0 < m) : 0 ≤ y.fmod m ∧ y.fmod m < m := by
  rw [Int.fmod_eq_emod_of_nonneg _ (by omega)]
  exact ⟨Int.emod_nonneg _ (by omega), Int.emod_lt_of_pos _ hm⟩
theorem nat_of {x m : Int} (h : 0 ≤ x ∧ x < m) : ∃ n : Nat, x = n ∧ (n : Int) < m := ⟨x.toNat, by omega, by omega⟩
theorem cw_range (n : Int) : 0 ≤ cw n ∧ cw n < 128 := by
  have h := fun y => fmod_range y (show (0 : Int) < 2 by decide)
  unfold cw
  have h1 := h n
  have h2 := h (n.fdiv 2)
  have h3 := h (n.fdiv 4)
  have h4 := h (n.fdiv 8)
  have h5 := h (n.fmod 2 + (n.fdiv 2).fmod 2 + (n.fdiv 8).fmod 2)
  have h6 := h (n.fmod 2 + (n.fdiv 4).fmod 2 + (n.fdiv 8).fmod 2)
  have h7 := h ((n.fdiv 2).fmod 2 + (n.fdiv 4).fmod 2 + (n.fdiv 8).fmod 2)
  dsimp only
  omega
section
variable {y e : Int}
theorem end1 (h : enc (y.fmod 16) ≠ (List.map (fun k' => cw k') (rangeKs 0 (16 - 0 : Int).toNat)).getD (y.fmod 16).toNat 0) : False := by
  obtain ⟨n, en, hn⟩ := nat_of (fmod_range y (show (0 : Int) < 16 by decide))
  rw [en] at h
  refine h ((ham1N n (by omega)).1.trans ?_)
  exact (words_getD n (by omega)).symm
theorem end2 (h : syn (enc (y.fmod 16)) ≠ 0) : False := by
  obtain ⟨n, en, hn⟩ := nat_of (fmod_range y (show (0 : Int) < 16 by decide))
  rw [en] at h
  exact h (ham1N n (by omega)).2
theorem got_due (he : 0 ≤ e ∧ e < 128) : syn (Builtin.bitXor (enc (y.fmod 16)) e) = due e := by
  obtain ⟨n, en, hn⟩ := nat_of (fmod_range y (show (0 : Int) < 16 by decide))
  obtain ⟨d, ed, hd⟩ := nat_of he
  rw [en, ed]
  exact ham2N (by omega) (by omega)
theorem end3 (he : 0 ≤ e ∧ e < 128) (h : syn (Builtin.bitXor (enc (y.fmod 16)) e) ≠ oddc e [1, 4, 16, 64] + 2 * oddc e [2, 4, 32, 64] + 4 * oddc e [8, 16, 32, 64]) : False := h (got_due he)
theorem in_due (he : 0 ≤ e ∧ e < 128) : (due e == 0) = ((List.map (fun k' => cw k') (rangeKs 0 (16 - 0 : Int).toNat)).any fun x => x == e) := by
  obtain ⟨d, ed, hd⟩ := nat_of he
  rw [ed]
  exact ham3N d (by omega)
theorem end4 (he : 0 ≤ e ∧ e < 128) (h1 : ((List.map (fun k' => cw k') (rangeKs 0 (16 - 0 : Int).toNat)).any fun x => x == e) = true) (h2 : syn (Builtin.bitXor (enc (y.fmod 16)) e) ≠ 0) : False := by
  rw [got_due he] at h2
  rw [← in_due he] at h1
  exact h2 (beq_iff_eq.mp h1)
theorem end5 (he : 0 ≤ e ∧ e < 128) (h1 : ((List.map (fun k' => cw k') (rangeKs 0 (16 - 0 : Int).toNat)).any fun x => x == e) = false) (h2 : syn (Builtin.bitXor (enc (y.fmod 16)) e) = 0) : False := by
  rw [got_due he] at h2
  rw [← in_due he, h2] at h1
  exact absurd h1 (by decide)
end
theorem sum127 : List.sum ([1, 2, 4, 8, 16, 32, 64] : List Int) = 127 := rfl
theorem pick1 {a s1 : Int} (h1 : s1 + a = 127) (ha : 0 ≤ a) (hs : 0 ≤ s1) : 0 ≤ 0 + a ∧ 0 + a < 128 := by omega
theorem pick2 {a b s1 s2 : Int} (h1 : s1 + a = 127) (h2 : s2 + b = s1) (ha : 0 ≤ a) (hb : 0 ≤ b) (hs : 0 ≤ s2) : 0 ≤ 0 + a + b ∧ 0 + a + b < 128 := by omega
theorem pick3 {a b c s1 s2 s3 : Int} (h1 : s1 + a = 127) (h2 : s2 + b = s1) (h3 : s3 + c = s2) (ha : 0 ≤ a) (hb : 0 ≤ b) (hc : 0 ≤ c) (hs : 0 ≤ s3) : 0 ≤ 0 + a + b + c ∧ 0 + a + b + c < 128 := by omega
theorem and_small {x y : Int} (hy : 0 ≤ y) (hy2 : y < 2 ^ 63) : (Builtin.bitAnd x y).natAbs < 2 ^ 64 := by
  have h := bitAnd_range x hy
  have e1 : (2 : Int) ^ 63 = 9223372036854775808 := by decide
  have e2 : (2 : Nat) ^ 64 = 18446744073709551616 := by decide
  rw [e1] at hy2
  rw [e2]
  omega
end Mine
open Mine
local macro_rules | `(tactic| k_room) => `(tactic| ((simp only [depth_under_make, depth_under_kw, depth_in1, depth_deeper, depth_caller]); omega))
local macro_rules | `(tactic| ktr_room) => `(tactic| ((simp only [depth_under_make, depth_under_kw, depth_in1, depth_deeper, depth_caller]); omega))
local macro_rules | `(tactic| walk_at "CutI") => `(tactic| (refine' cutI_end ?cP ?cF ?cN ?cS; (case cF => k_asm); (case cN => assumption); (case cS => kcj_all); (case cP => k_extra "cut")))
local macro_rules | `(tactic| walk_at "binaryOp LShift int int") => `(tactic| ((with_reducible show wpAny _ _ (binaryOp Operator.LShift (Value.int (Builtin.bitAnd _ _) _) (Value.int _ _)) _ _ _); (with_reducible refine' lshift_int_small ?a ?b ?c ?_); (case a => decide); (case b => decide); (case c => exact and_small (by decide) (by decide))))
local macro_rules | `(tactic| walk_at "subscriptTail Name Slice ref ref") => `(tactic| (k_here; (with_reducible show wpAny _ _ (subscriptTail _ (PySem.Expr.Slice _ _ none _) (Value.ref _) (Value.ref _)) _ _ _); k_dflt (refine' kmk_slice_ints ?F ?N ?l ?p ?q ?i ?m ?c ?_ ?s ?t ?z; (case F => k_asm); (case N => k_asm); (case l => kmk_list); (case p => kmk_part); (case q => kmk_part); (case i => l_ints); (case m => first | exact kmk_upto (by l_ints) (fmod_range _ (by omega)).1 | exact kmk_from (by l_ints) (Int.le_add_one (fmod_range _ (by omega)).1)); (case c => rfl); (case s => with_unfolding_all rfl); (case t => kmk_pure); (case z => exact kmk_sz (by l_ints) (by rw [sizeLine_eq]; first | (exact Nat.le_of_ble_eq_true rfl) | omega))); intro D' ws' h' F' N' l1 hI' hC' hL'; (try k_lt l1); (try k_sweep)))
local macro_rules | `(tactic| walk_at "binaryOp Add ref ref") => `(tactic| (k_here; (with_reducible show wpAny _ _ (binaryOp _ (Value.ref _) (Value.ref _)) _ _ _); k_dflt (refine' add_pick ?F ?N ?a ?b ?i ?j ?hl ?hS ?hc ?hx ?hx2 ?hc7 ?_; (case F => k_asm); (case N => k_asm); (case a => kmk_list); (case b => kmk_list); (case i => assumption); (case j => assumption); (case hl => first | assumption | decide); (case hS => first | exact sum127 | rfl); (case hc => first | assumption | exact (rfl : _ = 7)); (case hx => exact (fmod_range _ (by omega)).1); (case hx2 => first | exact (fmod_range _ (by omega)).2 | (refine Int.lt_of_lt_of_le (fmod_range _ (by omega)).2 ?_; omega)); (case hc7 => omega)); intro D' ws' h' r' F' N' l1 hI' hl' hp' hs' hg' hn'; (try k_lt l1); (try k_sweep)))
local macro_rules | `(tactic| walk_at "call ref") => `(tactic| (k_here; (with_reducible show wpAny _ _ (call (Value.ref (ktn_at% "_law_damage")) _) _ _ _); (fail_if_success (with_reducible show wpAny _ _ _ (fun v s₂ => CutI _ _ _ _ _ _ v s₂) _ _)); (refine' cutI (fun e => 0 ≤ e ∧ e < 128) ?cF ?cN ?_ ?_; (case cF => k_asm); (case cN => k_asm); (intro x9 t9 h9 tk9 hP9 F9 N9); (try dsimp only))))
local macro_rules | `(tactic| walk_at "call ref") => `(tactic| (k_here; (with_reducible show wpAny _ _ (call (Value.ref (ktn_at% "_law_odd")) _) _ _ _); (fail_if_success (with_reducible show wpAny _ _ _ (fun v s₂ => CutI _ _ _ _ _ _ v s₂) _ _)); (first
  | ((with_reducible show wpAny _ _ (call _ [_, Value.ref (ktn_at% "_law_group_one")]) _ _ _); (refine' cutF2 (fun e => oddc e [1, 4, 16, 64]) ?cF ?cN ?_ ?_))
  | ((with_reducible show wpAny _ _ (call _ [_, Value.ref (ktn_at% "_law_group_two")]) _ _ _); (refine' cutF2 (fun e => oddc e [2, 4, 32, 64]) ?cF ?cN ?_ ?_))
  | ((with_reducible show wpAny _ _ (call _ [_, Value.ref (ktn_at% "_law_group_four")]) _ _ _); (refine' cutF2 (fun e => oddc e [8, 16, 32, 64]) ?cF ?cN ?_ ?_))); (case cF => k_asm); (case cN => k_asm); (intro t9 h9 tk9 F9 N9); (try dsimp only)))
local macro_rules | `(tactic| walk_at "exec For Name Name cons nil") => `(tactic| (k_of "p" => ((rename Fr _ _ _ _ => lF'); (with_unfolding_all refine' For_turns lF' ?_; k_whole))))
set_option maxRecDepth 100000 in
set_option maxHeartbeats 80000000 in
theorem PySem.Challenge.cw_pd_bitworks_1_03_holds : PySem.Challenge.rw_pd_bitworks_1_03.Holds := by
  (k_with "tree" => first | simp only [cw] | (unfold syn; rfl) | (unfold enc; rfl))
  (k_with "call ref" => k_call_by "bit_at" (fun n i : Int => Builtin.bitAnd (n.fdiv (2 ^ i.toNat)) 1) (fun n i : Int => 0 ≤ i))
  (k_with "call ref" => k_call_by "_law_word" cw)
  (k_with "call ref" => k_call_rec "hamming_syndrome" syn (fun _ => True) (fun _ => 1))
  (k_with "call ref" => k_call_rec "hamming_encode" enc (fun _ => True) (fun _ => 3))
  (k_with "exec For Name Call cons nil" => (k_of "position" => kpr_for))
  (k_with "pyIter ref" => (k_of "position" => kpr_short))
  (k_with "cut" => first | decide | exact cw_range _ | exact fmod_range _ (by decide) | (unfold oddc; simp only [List.foldl_cons, List.foldl_nil]; (repeat (first | rw [if_pos (by assumption)] | rw [if_neg (by assumption)])); done) | (with_reducible first | exact pick1 (by assumption) (by assumption) (by assumption) | exact pick2 (by assumption) (by assumption) (by assumption) (by assumption) (by assumption) | exact pick3 (by assumption) (by assumption) (by assumption) (by assumption) (by assumption) (by assumption) (by assumption)))
  (k_with "end" => (exfalso; with_reducible first | exact end1 (by assumption) | exact end2 (by assumption) | exact end3 (by assumption) (by assumption) | exact end4 (by assumption) (by assumption) (by assumption) | exact end5 (by assumption) (by assumption) (by assumption)))
  (k_with "storeName" => k_sizes)
  open_k
