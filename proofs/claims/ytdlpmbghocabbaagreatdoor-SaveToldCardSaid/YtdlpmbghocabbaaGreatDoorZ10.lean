/- Part 10 of the texts of this claim, merged: K4, K5, K6, E23, F13, F14, E14, S2, KT, FT, K7. No condition: plain theorems, contracts of functions. -/
import Derived.Test.YtdlpmbghocabbaaGreatDoorZ9
import Derived.ChangeSlices
import Derived.OpenShut
import Derived.SizedLaws
import Derived.Test.YtdlpmbghocabbaaGreatDoorRows
import Derived.Lib.LaidTab
import Derived.Lib.LaidU8
import Derived.LaidMore
import Derived.Lay
import Derived.ProofKit
import Derived.Test.YtdlpmbghocabbaaGreatDoorProg
import Derived.KernelRfl

set_option linter.unusedSimpArgs false
set_option linter.unusedVariables false
/- Snapshots: the RAM's pages, there and back. Plain theorems. -/
namespace Go.Anv
open Go
theorem blankN_iff {p : Nat → B8} : ∀ {w : Nat}, Go.Proofs.YtdlpmbghocabbaaGreatDoor.blankN p w = true ↔ ∀ t, t < w → p t = 0#8
  | 0 => ⟨fun _ t h => by omega, fun _ => rfl⟩
  | w + 1 => by
    rw [Go.Proofs.YtdlpmbghocabbaaGreatDoor.blankN, Bool.and_eq_true, blankN_iff (w := w), beq_iff_eq]
    refine ⟨fun h t ht => ?_, fun h => ⟨fun t ht => h t (by omega), h w (by omega)⟩⟩
    by_cases e : t = w
    · subst e; exact h.2
    · exact h.1 t (by omega)
theorem blankN_congr {p q : Nat → B8} {w : Nat} (h : ∀ t, t < w → p t = q t) : Go.Proofs.YtdlpmbghocabbaaGreatDoor.blankN p w = Go.Proofs.YtdlpmbghocabbaaGreatDoor.blankN q w := by
  rw [Bool.eq_iff_iff, blankN_iff, blankN_iff]
  exact ⟨fun e t ht => (h t ht).symm.trans (e t ht), fun e t ht => (h t ht).trans (e t ht)⟩
/-- How long a page is. -/
def pgw (n i : Nat) : Nat := min (256 * i + 256) n - 256 * i
def pageB (p : Nat → B8) (n i : Nat) : List B8 := if Go.Proofs.YtdlpmbghocabbaaGreatDoor.blankN (fun t => p (256 * i + t)) (pgw n i) = true then [] else le (BitVec.ofNat 64 i) 2 ++ lst (fun t => p (256 * i + t)) (pgw n i)
/-- So many pages from here. -/
def pagesF (p : Nat → B8) (n a : Nat) : Nat → List B8
  | 0 => []
  | m + 1 => pageB p n a ++ pagesF p n (a + 1) m
theorem pagesF_snoc (p : Nat → B8) (n : Nat) : ∀ m a, pagesF p n a (m + 1) = pagesF p n a m ++ pageB p n (a + m)
  | 0, a => by simp [pagesF]
  | m + 1, a => by rw [pagesF, pagesF_snoc p n m (a + 1), pagesF, List.append_assoc, Nat.add_assoc, Nat.add_comm 1 m]
theorem pagesN_F (p : Nat → B8) (n : Nat) : ∀ m, Go.Proofs.YtdlpmbghocabbaaGreatDoor.pagesN p n m = pagesF p n 0 m
  | 0 => rfl
  | m + 1 => by rw [Go.Proofs.YtdlpmbghocabbaaGreatDoor.pagesN, pagesN_F p n m, pagesF_snoc, Nat.zero_add]; rfl
theorem pagesF_app (p : Nat → B8) (n : Nat) : ∀ m a k, pagesF p n a (m + k) = pagesF p n a m ++ pagesF p n (a + m) k
  | 0, a, k => by simp [pagesF]
  | m + 1, a, k => by rw [Nat.add_right_comm, pagesF, pagesF_app p n m (a + 1) k, pagesF, List.append_assoc, Nat.add_assoc, Nat.add_comm 1 m]
theorem pagesF_blank {p : Nat → B8} {n : Nat} : ∀ {m a : Nat}, (∀ j, 256 * a ≤ j → j < 256 * (a + m) → j < n → p j = 0#8) → pagesF p n a m = []
  | 0, _, _ => rfl
  | m + 1, a, h => by
    rw [pagesF, pagesF_blank fun j h1 h2 h3 => h j (by omega) (by omega) h3]
    unfold pageB
    rw [if_pos (blankN_iff.2 fun t ht => h _ (by omega) (by unfold pgw at ht; omega) (by unfold pgw at ht; omega))]
    rfl
theorem pagesF_congr {p q : Nat → B8} {n : Nat} : ∀ {m a : Nat}, (∀ j, 256 * a ≤ j → j < n → p j = q j) → pagesF p n a m = pagesF q n a m
  | 0, _, _ => rfl
  | m + 1, a, h => by
    have e : ∀ t, t < pgw n a → p (256 * a + t) = q (256 * a + t) := fun t ht => h _ (by omega) (by unfold pgw at ht; omega)
    rw [pagesF, pagesF, pagesF_congr fun j h1 h2 => h j (by omega) h2]
    unfold pageB
    rw [blankN_congr e]
    congr 1
    split
    · rfl
    · congr 1
      unfold lst
      exact List.map_congr_left fun t ht => e t (List.mem_range.1 ht)
theorem ofNat_lt16 {i : Nat} (h : i < 65536) : (BitVec.ofNat 64 i).toNat = i := by rw [BitVec.toNat_ofNat]; omega
theorem ram_fw {p ram : Nat → B8} {N n : Nat} {r : List B8} (hn : n ≤ 65536) : ∀ (m F a least : Nat) (s : Rs) (mem : Nat → B8), a + m = (n + 255) / 256 → least ≤ a → m + 1 ≤ F → s.bad = false →
    Has p s.at_ (pagesF ram n a m ++ (le 65535#64 2 ++ r)) → s.at_ + (pagesF ram n a m).length + 2 ≤ N → (∀ j, j < n → mem j = if j < 256 * a then ram j else 0#8) →
    ∃ mem', ramGo p N n F least s mem = some (⟨s.at_ + (pagesF ram n a m).length + 2, false⟩, mem') ∧ (∀ j, j < n → mem' j = ram j) ∧ Has p (s.at_ + (pagesF ram n a m).length + 2) r
  | 0, F + 1, a, least, s, mem, hP, hl, hF, hb, h, hN, hmem => by
    rw [pagesF, List.nil_append] at h
    rw [pagesF, List.length_nil, Nat.add_zero] at hN ⊢
    obtain ⟨h1, h2, h3⟩ := take_fw (N := N) hb (by decide) hN (by decide) h
    refine ⟨mem, ?_, fun j hj => by rw [hmem j hj, if_pos (by omega)], h3⟩
    unfold ramGo
    rw [h2, h1]
    rfl
  | m + 1, F + 1, a, least, s, mem, hP, hl, hF, hb, h, hN, hmem => by
    rw [pagesF] at h hN ⊢
    rw [List.length_append] at hN ⊢
    cases hbl : Go.Proofs.YtdlpmbghocabbaaGreatDoor.blankN (fun t => ram (256 * a + t)) (pgw n a) with
    | true =>
      have e : pageB ram n a = [] := by unfold pageB; rw [if_pos hbl]
      rw [e] at h hN ⊢
      rw [List.nil_append] at h
      rw [List.length_nil, Nat.zero_add] at hN ⊢
      refine ram_fw hn m (F + 1) (a + 1) least s mem (by omega) (by omega) (by omega) hb h hN fun j hj => ?_
      rw [hmem j hj]
      by_cases h1 : j < 256 * a
      · rw [if_pos h1, if_pos (by omega)]
      · rw [if_neg h1]
        by_cases h2 : j < 256 * (a + 1)
        · rw [if_pos h2]
          have := blankN_iff.1 hbl (j - 256 * a) (by unfold pgw; omega)
          rw [show 256 * a + (j - 256 * a) = j from by omega] at this
          exact this.symm
        · rw [if_neg h2]
    | false =>
      have e : pageB ram n a = le (BitVec.ofNat 64 a) 2 ++ lst (fun t => ram (256 * a + t)) (pgw n a) := by unfold pageB; rw [if_neg (by rw [hbl]; decide)]
      have el : (pageB ram n a).length = 2 + pgw n a := by rw [e, List.length_append, le_len, lst_len]
      rw [el] at hN ⊢
      rw [e, List.append_assoc, List.append_assoc] at h
      have ha : a < 256 := by omega
      obtain ⟨h1, h2, h3⟩ := take_fw (N := N) hb (by decide) (by omega) (by rw [ofNat_lt16 (by omega)]; omega) h
      have hpg := has_list h3.left
      have h4 := h3.right
      rw [lst_len] at h4
      have nb : Go.Proofs.YtdlpmbghocabbaaGreatDoor.blankN (fun t => p (s.at_ + 2 + t)) (pgw n a) = false := by rw [blankN_congr (q := fun t => ram (256 * a + t)) hpg]; exact hbl
      obtain ⟨mem', g1, g2, g3⟩ := ram_fw hn m F (a + 1) (a + 1) ⟨s.at_ + 2 + pgw n a, false⟩ (putMem mem (256 * a) (pgw n a) p (s.at_ + 2)) (by omega) (by omega) (by omega) rfl h4 (by show s.at_ + 2 + pgw n a + _ + 2 ≤ N; omega) fun j hj => by
        unfold putMem
        by_cases c1 : j < 256 * a
        · rw [if_neg (by omega), hmem j hj, if_pos c1, if_pos (by omega)]
        · by_cases c2 : j < 256 * (a + 1)
          · rw [if_pos (by unfold pgw; omega), if_pos c2]
            have := hpg (j - 256 * a) (by unfold pgw; omega)
            rw [this, show 256 * a + (j - 256 * a) = j from by omega]
          · rw [if_neg (by unfold pgw; omega), hmem j hj, if_neg c1, if_neg c2]
      have ee : s.at_ + 2 + pgw n a + (pagesF ram n (a + 1) m).length + 2 = s.at_ + (2 + pgw n a + (pagesF ram n (a + 1) m).length) + 2 := by omega
      rw [← ee]
      refine ⟨mem', ?_, g2, g3⟩
      rw [ramGo, h2, h1, ofNat_lt16 (by omega)]
      show (if (false = true) then none else if a = 65535 then _ else if a < least ∨ n ≤ 256 * a then none else if N - (s.at_ + 2) < pgw n a then none else if Go.Proofs.YtdlpmbghocabbaaGreatDoor.blankN (fun t => p (s.at_ + 2 + t)) (pgw n a) = true then none else ramGo p N n F (a + 1) ⟨s.at_ + 2 + pgw n a, false⟩ (putMem mem (256 * a) (pgw n a) p (s.at_ + 2))) = _
      rw [if_neg (by decide), if_neg (by omega), if_neg (by omega), if_neg (by omega), nb, if_neg (by decide)]
      exact g1
theorem ram_bw {p : Nat → B8} {N n : Nat} (hn : n ≤ 65536) : ∀ (F least : Nat) (s : Rs) (mem : Nat → B8) (s' : Rs) (mem' : Nat → B8), ramGo p N n F least s mem = some (s', mem') → least ≤ (n + 255) / 256 → (∀ j, 256 * least ≤ j → j < n → mem j = 0#8) →
    s.bad = false ∧ s'.bad = false ∧ (∀ j, j < 256 * least → mem' j = mem j) ∧ lst p s'.at_ = lst p s.at_ ++ (pagesF mem' n least ((n + 255) / 256 - least) ++ le 65535#64 2)
  | F + 1, least, s, mem, s', mem', h, hl, hmem => by
    rw [ramGo] at h
    split at h
    · cases h
    rename_i c1
    have c1 : (takeR N 2 s).bad = false := by cases hb : (takeR N 2 s).bad <;> simp_all
    obtain ⟨b0, _, f, g⟩ := take_bw (p := p) (by decide) c1
    have hv : numV p N 2 s = BitVec.ofNat 64 (numV p N 2 s).toNat := by rw [BitVec.ofNat_toNat, BitVec.setWidth_eq]
    generalize (numV p N 2 s).toNat = q at h hv
    rw [hv] at g
    split at h
    · rename_i c2
      cases h
      subst c2
      refine ⟨b0, c1, fun _ _ => rfl, ?_⟩
      rw [f, pagesF_blank fun j h1 h2 h3 => hmem j h1 h3, List.nil_append]
      exact g
    split at h
    · cases h
    split at h
    · cases h
    split at h
    · cases h
    rename_i c2 c3 c4 c5
    have c3a : least ≤ q := by omega
    have c3b : 256 * q < n := by omega
    rw [f] at h c5
    have ih := ram_bw hn F (q + 1) _ _ s' mem' h (by omega) fun j h1 h2 => by
      unfold putMem
      rw [if_neg (by omega)]
      exact hmem j (by omega) h2
    obtain ⟨_, i2, i3, i4⟩ := ih
    refine ⟨b0, i2, fun j hj => ?_, ?_⟩
    · rw [i3 j (by omega)]
      unfold putMem
      rw [if_neg (by omega)]
    · have e1 : (n + 255) / 256 - least = (q - least) + (1 + ((n + 255) / 256 - (q + 1))) := by omega
      rw [e1, pagesF_app, pagesF_app, show least + (q - least) = q from by omega]
      rw [pagesF_blank (a := least) (m := q - least) fun j h1 h2 h3 => by
        rw [i3 j (by omega)]
        unfold putMem
        rw [if_neg (by omega)]
        exact hmem j h1 h3]
      have pg : ∀ t, t < pgw n q → mem' (256 * q + t) = p (s.at_ + 2 + t) := fun t ht => by
        have ht' : t < min (256 * q + 256) n - 256 * q := ht
        rw [i3 _ (by omega)]
        unfold putMem
        rw [if_pos (by omega), show 256 * q + t - 256 * q = t from by omega]
      have nb : Go.Proofs.YtdlpmbghocabbaaGreatDoor.blankN (fun t => mem' (256 * q + t)) (pgw n q) = false := by
        rw [blankN_congr (q := fun t => p (s.at_ + 2 + t)) pg]
        cases hb : Go.Proofs.YtdlpmbghocabbaaGreatDoor.blankN (fun t => p (s.at_ + 2 + t)) (pgw n q)
        · rfl
        · exact absurd hb c5
      have e2 : pagesF mem' n q 1 = le (BitVec.ofNat 64 q) 2 ++ lst (fun t => p (s.at_ + 2 + t)) (pgw n q) := by
        show pageB mem' n q ++ [] = _
        rw [List.append_nil]
        unfold pageB
        rw [if_neg (by rw [nb]; decide)]
        congr 1
        unfold lst
        exact List.map_congr_left fun t ht => pg t (List.mem_range.1 ht)
      have e3 : lst p (s.at_ + 2 + pgw n q) = lst p (s.at_ + 2) ++ lst (fun t => p (s.at_ + 2 + t)) (pgw n q) := by
        have hh : Has p (s.at_ + 2) (lst (fun t => p (s.at_ + 2 + t)) (pgw n q)) := fun j hj => by
          rw [lst_len] at hj
          rw [lst_get _ _ _ hj]
        have := has_lst hh
        rw [lst_len] at this
        exact this
      rw [i4]
      show lst p (s.at_ + 2 + pgw n q) ++ _ = _
      rw [e3, g, e2]
      simp only [List.append_assoc, List.nil_append]
end Go.Anv

/- The sum over a snapshot tells bits turned within 32 side by side. Plain theorems. -/
namespace Go.Anv
open Go
theorem low_bit (x : BitVec 32) : (x &&& 1#32 == 1#32) = x.getLsbD 0 := by
  rw [BitVec.and_one_eq_setWidth_ofBool_getLsbD]
  cases x.getLsbD 0 <;> rfl
theorem crcBit_eq (x : BitVec 32) : crcBit x = (x >>> 1) ^^^ (if x.getLsbD 0 then 3988292384#32 else 0#32) := by
  unfold crcBit
  rw [low_bit]
  cases x.getLsbD 0
  · simp
  · rfl
theorem crcBit_xor (x y : BitVec 32) : crcBit (x ^^^ y) = crcBit x ^^^ crcBit y := by
  rw [crcBit_eq, crcBit_eq, crcBit_eq, BitVec.getLsbD_xor, BitVec.ushiftRight_xor_distrib]
  apply BitVec.eq_of_getLsbD_eq
  intro i _
  simp only [BitVec.getLsbD_xor]
  generalize (x >>> 1).getLsbD i = a
  generalize (y >>> 1).getLsbD i = b
  generalize x.getLsbD 0 = c
  generalize y.getLsbD 0 = d
  have e : (0#32).getLsbD i = false := BitVec.getLsbD_zero
  cases c <;> cases d <;> simp only [Bool.false_bne, Bool.true_bne, Bool.not_false, Bool.not_true, if_true, if_false, Bool.false_eq_true, e] <;> generalize (3988292384#32).getLsbD i = f <;> cases a <;> cases b <;> cases f <;> rfl
theorem crcBits_xor (x y : BitVec 32) : ∀ n, crcBits (x ^^^ y) n = crcBits x n ^^^ crcBits y n
  | 0 => rfl
  | n + 1 => by rw [crcBits, crcBits, crcBits, crcBits_xor x y n, crcBit_xor]
theorem crcBits_zero : ∀ n, crcBits 0#32 n = 0#32
  | 0 => rfl
  | n + 1 => by rw [crcBits, crcBits_zero n]; rfl
theorem crcBit_inj {x : BitVec 32} (h : crcBit x = 0#32) : x = 0#32 := by
  rw [crcBit_eq] at h
  cases hb : x.getLsbD 0 with
  | true =>
    rw [hb] at h
    have h1 := congrArg (·.getLsbD 31) h
    simp only [BitVec.getLsbD_xor, BitVec.getLsbD_ushiftRight] at h1
    rw [BitVec.getLsbD_of_ge x (1 + 31) (by omega)] at h1
    exact absurd h1 (by decide)
  | false =>
    rw [hb] at h
    apply BitVec.eq_of_getLsbD_eq
    intro i hi
    rcases i with _ | i
    · rw [hb]; rfl
    · have h1 := congrArg (·.getLsbD i) h
      simp only [BitVec.getLsbD_xor, BitVec.getLsbD_ushiftRight] at h1
      rw [Nat.add_comm 1 i] at h1
      simpa using h1
theorem crcBits_inj {x : BitVec 32} : ∀ {n}, crcBits x n = 0#32 → x = 0#32
  | 0, h => h
  | _ + 1, h => crcBits_inj (crcBit_inj h)
def bitW (b : Bool) : BitVec 32 := if b then 1#32 else 0#32
/-- Bits fed one behind the other. -/
def feed (x : BitVec 32) (e : Nat → Bool) : Nat → BitVec 32
  | 0 => x
  | n + 1 => crcBit (feed x e n ^^^ bitW (e n))
theorem feed_lin (x : BitVec 32) (e : Nat → Bool) : ∀ n, feed x e n = crcBits x n ^^^ feed 0#32 e n
  | 0 => by simp [feed, crcBits]
  | n + 1 => by rw [feed, feed_lin x e n, feed, crcBits, BitVec.xor_assoc, crcBit_xor]
theorem feed_app (x : BitVec 32) (e : Nat → Bool) (m : Nat) : ∀ n, feed x e (m + n) = feed (feed x e m) (fun i => e (m + i)) n
  | 0 => rfl
  | n + 1 => by rw [← Nat.add_assoc, feed, feed_app x e m n, feed]
theorem feed_congr {x : BitVec 32} {e f : Nat → Bool} : ∀ {n}, (∀ i, i < n → e i = f i) → feed x e n = feed x f n
  | 0, _ => rfl
  | n + 1, h => by rw [feed, feed, feed_congr fun i hi => h i (by omega), h n (by omega)]
theorem feed_none {x : BitVec 32} {e : Nat → Bool} : ∀ {n}, (∀ i, i < n → e i = false) → feed x e n = crcBits x n
  | 0, _ => rfl
  | n + 1, h => by rw [feed, feed_none fun i hi => h i (by omega), h n (by omega), crcBits]; simp [bitW]
theorem feed_byte : ∀ c : BitVec 8, crcBits (c.setWidth 32) 8 = feed 0#32 (fun i => c.getLsbD i) 8 := by decide +kernel
theorem one_up : ∀ k : Fin 32, crcBits (1#32 <<< k.val) k.val = 1#32 := by decide +kernel
def wordOf (e : Nat → Bool) : Nat → BitVec 32
  | 0 => 0#32
  | k + 1 => wordOf e k ^^^ (bitW (e k) <<< k)
theorem feed_word (e : Nat → Bool) : ∀ k, k ≤ 32 → feed 0#32 e k = crcBits (wordOf e k) k
  | 0, _ => rfl
  | k + 1, h => by
    rw [feed, feed_word e k (by omega), wordOf, crcBits, crcBits_xor]
    congr 2
    cases e k
    · simp [bitW, crcBits_zero]
    · exact (one_up ⟨k, by omega⟩).symm
theorem wordOf_low (e : Nat → Bool) : ∀ k, (wordOf e (k + 1)).getLsbD 0 = e 0
  | 0 => by unfold wordOf wordOf bitW; cases e 0 <;> rfl
  | k + 1 => by
    rw [wordOf, BitVec.getLsbD_xor, wordOf_low e k, BitVec.getLsbD_shiftLeft]
    simp
theorem feed_some {e : Nat → Bool} {k : Nat} (h0 : e 0 = true) (h1 : 0 < k) (h2 : k ≤ 32) : feed 0#32 e k ≠ 0#32 := by
  intro h
  rw [feed_word e k h2] at h
  obtain ⟨k, rfl⟩ : ∃ j, k = j + 1 := ⟨k - 1, by omega⟩
  have := wordOf_low e k
  rw [crcBits_inj h, h0] at this
  cases this
/-- Feeding a number its own bits. -/
theorem feed_self (f : BitVec 32) : ∀ m, m ≤ 32 → feed f (fun i => f.getLsbD i) m = f >>> m
  | 0, _ => by simp [feed]
  | m + 1, h => by
    rw [feed, feed_self f m (by omega), crcBit_eq]
    have e : ((f >>> m) ^^^ bitW (f.getLsbD m)).getLsbD 0 = false := by
      rw [BitVec.getLsbD_xor, BitVec.getLsbD_ushiftRight, Nat.add_zero]
      cases f.getLsbD m <;> rfl
    rw [e]
    apply BitVec.eq_of_getLsbD_eq
    intro i hi
    have e2 : (bitW (f.getLsbD m)).getLsbD (1 + i) = false := by
      unfold bitW
      split
      · rw [BitVec.getLsbD_one]; simp
      · simp
    simp only [BitVec.getLsbD_xor, BitVec.getLsbD_ushiftRight, e2]
    rw [show m + (1 + i) = m + 1 + i from by omega]
    simp
/-- The bits in which two rows of bytes differ. -/
def diff (p q : Nat → B8) (i : Nat) : Bool := (p (i / 8) ^^^ q (i / 8)).getLsbD (i % 8)
theorem crc_diff (p q : Nat → B8) : ∀ n, crcN p n ^^^ crcN q n = feed 0#32 (diff p q) (8 * n)
  | 0 => by simp [crcN, feed]
  | n + 1 => by
    have e : crcN p n ^^^ (p n).setWidth 32 ^^^ (crcN q n ^^^ (q n).setWidth 32) = (crcN p n ^^^ crcN q n) ^^^ (p n ^^^ q n).setWidth 32 := by
      apply BitVec.eq_of_getLsbD_eq
      intro i hi
      simp only [BitVec.getLsbD_xor, BitVec.getLsbD_setWidth]
      cases (crcN p n).getLsbD i <;> cases (crcN q n).getLsbD i <;> cases (p n).getLsbD i <;> cases (q n).getLsbD i <;> simp [hi]
    rw [crcN, crcN, ← crcBits_xor, e, crcBits_xor, feed_byte, Nat.mul_add, Nat.mul_one, feed_app, ← crc_diff p q n, ← feed_lin]
    exact feed_congr fun i hi => by
      show (p n ^^^ q n).getLsbD i = (p ((8 * n + i) / 8) ^^^ q ((8 * n + i) / 8)).getLsbD ((8 * n + i) % 8)
      rw [show (8 * n + i) / 8 = n from by omega, show (8 * n + i) % 8 = i from by omega]
theorem foot_bit (p : Nat → B8) (N i : Nat) (hi : i < 32) : (foot p N).getLsbD i = (p (N + i / 8)).getLsbD (i % 8) := by
  unfold foot
  rw [BitVec.getLsbD_setWidth, hi_bit _ 0 4 4 (by decide) (by decide)]
  simp [hi]
/-- Where both sums are right, what has been fed ends in nothing. -/
theorem feed_end (p q : Nat → B8) (N : Nat) (hp : foot p N = ~~~ crcN p N) (hq : foot q N = ~~~ crcN q N) : feed 0#32 (diff p q) (8 * (N + 4)) = 0#32 := by
  have e : crcN p N ^^^ crcN q N = foot p N ^^^ foot q N := by
    rw [hp, hq]
    apply BitVec.eq_of_getLsbD_eq
    intro i hi
    simp only [BitVec.getLsbD_xor, BitVec.getLsbD_not]
    cases (crcN p N).getLsbD i <;> cases (crcN q N).getLsbD i <;> simp [hi]
  rw [Nat.mul_add, feed_app, ← crc_diff, e]
  rw [feed_congr (f := fun i => (foot p N ^^^ foot q N).getLsbD i) fun i hi => by
    unfold diff
    rw [BitVec.getLsbD_xor, BitVec.getLsbD_xor, foot_bit p N i hi, foot_bit q N i hi, show (8 * N + i) / 8 = N + i / 8 from by omega, show (8 * N + i) % 8 = i % 8 from by omega]]
  rw [feed_self _ 32 (by decide)]
  apply BitVec.eq_of_getLsbD_eq
  intro i hi
  rw [BitVec.getLsbD_ushiftRight, BitVec.getLsbD_of_ge _ _ (by omega)]
  simp
/-- Bits turned within 32 side by side are told. -/
theorem burst (p q : Nat → B8) (N t : Nat) (hp : foot p N = ~~~ crcN p N) (ht : t < 8 * (N + 4)) (h0 : diff p q t = true) (h1 : ∀ i, i < t → diff p q i = false) (h2 : ∀ i, t + 32 ≤ i → i < 8 * (N + 4) → diff p q i = false) : foot q N ≠ ~~~ crcN q N := by
  intro hq
  have hz := feed_end p q N hp hq
  rw [show 8 * (N + 4) = t + (8 * (N + 4) - t) from by omega, feed_app, feed_none h1, crcBits_zero] at hz
  rcases Nat.lt_or_ge 32 (8 * (N + 4) - t) with c | c
  · rw [show 8 * (N + 4) - t = 32 + (8 * (N + 4) - t - 32) from by omega, feed_app, feed_none (fun i hi => h2 _ (by omega) (by omega))] at hz
    exact feed_some (e := fun i => diff p q (t + i)) (k := 32) h0 (by decide) (by decide) (crcBits_inj hz)
  · exact feed_some (e := fun i => diff p q (t + i)) h0 (by omega) c hz
end Go.Anv

/- Snapshots: Load of what Save makes; Save of what Load takes. Plain theorems. -/
namespace Go.Anv
open Go
theorem cpu_eq (c d : CpuV) : (match eqSeg c.segs d.segs with | some b => b | none => false) = true ↔ CpuSame c d := by
  have u : ∀ {w : Nat} {x y : BitVec w}, ((x.toNat : Nat) : Int) = ((y.toNat : Nat) : Int) → x = y := fun e => BitVec.eq_of_toNat_eq (Int.ofNat_inj.1 e)
  constructor
  · intro h
    simp [CpuV.segs, eqSeg, sameK, wfun, bfun] at h
    obtain ⟨h1, h2, h3, h4, h5, h6, h7, h8, h9, h10, h11, h12, h13, h14, h15, h16, h17, h18, h19, h20, h21⟩ := h
    exact ⟨u h1, fun j hj => u (h2 j hj), h3, h4, u h5, u h6, u h7, u h8, u h9, u h10, u h11, u h12, u h13, u h14, u h15, u h16,
      fun j hj => u (h17 j hj), fun j hj => u (h18 j hj), h19, u h20, h21⟩
  · intro h
    simp [CpuV.segs, eqSeg, sameK, wfun, bfun, h.pc, h.mode, h.waiting, h.mstatus, h.mtvec, h.mie, h.mcounteren, h.mcountinhibit, h.menvcfg, h.mscratch, h.mepc, h.mcause, h.mtval, h.mcycle, h.minstret, h.rvalid, h.raddr, h.rsize]
    exact ⟨fun j hj => by rw [h.x j hj], fun j hj => by rw [h.cfg j hj], fun j hj => by rw [h.addr j hj]⟩
theorem CpuSame.refl (c : CpuV) : CpuSame c c := ⟨rfl, fun _ _ => rfl, rfl, rfl, rfl, rfl, rfl, rfl, rfl, rfl, rfl, rfl, rfl, rfl, rfl, rfl, fun _ _ => rfl, fun _ _ => rfl, rfl, rfl, rfl⟩
theorem CpuSame.symm {c d : CpuV} (h : CpuSame c d) : CpuSame d c :=
  ⟨h.pc.symm, fun j hj => (h.x j hj).symm, h.mode.symm, h.waiting.symm, h.mstatus.symm, h.mtvec.symm, h.mie.symm, h.mcounteren.symm, h.mcountinhibit.symm, h.menvcfg.symm, h.mscratch.symm, h.mepc.symm, h.mcause.symm, h.mtval.symm, h.mcycle.symm, h.minstret.symm, fun j hj => (h.cfg j hj).symm, fun j hj => (h.addr j hj).symm, h.rvalid.symm, h.raddr.symm, h.rsize.symm⟩
theorem CpuSame.trans {c d e : CpuV} (h : CpuSame c d) (k : CpuSame d e) : CpuSame c e :=
  ⟨h.pc.trans k.pc, fun j hj => (h.x j hj).trans (k.x j hj), h.mode.trans k.mode, h.waiting.trans k.waiting, h.mstatus.trans k.mstatus, h.mtvec.trans k.mtvec, h.mie.trans k.mie, h.mcounteren.trans k.mcounteren, h.mcountinhibit.trans k.mcountinhibit, h.menvcfg.trans k.menvcfg, h.mscratch.trans k.mscratch, h.mepc.trans k.mepc, h.mcause.trans k.mcause, h.mtval.trans k.mtval, h.mcycle.trans k.mcycle, h.minstret.trans k.minstret, fun j hj => (h.cfg j hj).trans (k.cfg j hj), fun j hj => (h.addr j hj).trans (k.addr j hj), h.rvalid.trans k.rvalid, h.raddr.trans k.raddr, h.rsize.trans k.rsize⟩
theorem CpuSame.proper {c d : CpuV} (h : CpuSame c d) : CpuSame c.proper d.proper where
  pc := by show c.pc &&& _ = d.pc &&& _; rw [h.pc]
  x := fun j hj => by show (if j = 0 then 0#64 else c.x j) = (if j = 0 then 0#64 else d.x j); rw [h.x j hj]
  mode := by show (if c.mode = 3 then (3 : Int) else 0) = (if d.mode = 3 then 3 else 0); rw [h.mode]
  waiting := h.waiting
  mstatus := by show statusOf _ = statusOf _; rw [h.mstatus]
  mtvec := by show c.mtvec &&& _ = d.mtvec &&& _; rw [h.mtvec]
  mie := by show c.mie &&& _ = d.mie &&& _; rw [h.mie]
  mcounteren := by show c.mcounteren &&& _ = d.mcounteren &&& _; rw [h.mcounteren]
  mcountinhibit := by show c.mcountinhibit &&& _ = d.mcountinhibit &&& _; rw [h.mcountinhibit]
  menvcfg := by show c.menvcfg &&& _ = d.menvcfg &&& _; rw [h.menvcfg]
  mscratch := h.mscratch
  mepc := by show c.mepc &&& _ = d.mepc &&& _; rw [h.mepc]
  mcause := h.mcause
  mtval := h.mtval
  mcycle := h.mcycle
  minstret := h.minstret
  cfg := fun j hj => by show cfgOf _ = cfgOf _; rw [h.cfg j hj]
  addr := fun j hj => by show c.addr j &&& _ = d.addr j &&& _; rw [h.addr j hj]
  rvalid := by show resOk _ _ _ = resOk _ _ _; rw [h.rvalid, h.raddr, h.rsize]
  raddr := by show (if resOk _ _ _ then _ else _) = (if resOk _ _ _ then _ else _); rw [h.rvalid, h.raddr, h.rsize]
  rsize := by show (if resOk _ _ _ then _ else _) = (if resOk _ _ _ then _ else _); rw [h.rvalid, h.raddr, h.rsize]
theorem mask_twice (a b : B64) : a &&& b &&& b = a &&& b := by rw [BitVec.and_assoc, BitVec.and_self]
theorem status_twice (m : B64) : statusOf (statusOf m) = statusOf m := by
  have key : ∀ y : B64, y &&& 2228360#64 = y → statusOf (y ||| 6144#64 ||| 8589934592#64) = y ||| 6144#64 ||| 8589934592#64 ∧ statusOf (y ||| 0#64 ||| 8589934592#64) = y ||| 0#64 ||| 8589934592#64 := by
    intro y hy
    have hb : y &&& 6144#64 = 0#64 := by rw [← hy, BitVec.and_assoc]; simp
    have d : ∀ a b c : B64, (a ||| b) &&& c = (a &&& c) ||| (b &&& c) := fun a b c => by
      apply BitVec.eq_of_getLsbD_eq
      intro i _
      simp only [BitVec.getLsbD_and, BitVec.getLsbD_or]
      cases a.getLsbD i <;> cases b.getLsbD i <;> cases c.getLsbD i <;> rfl
    have e1 : (6144#64 &&& 2228360#64 : B64) = 0#64 := by decide
    have e2 : (8589934592#64 &&& 2228360#64 : B64) = 0#64 := by decide
    have e3 : (8589934592#64 &&& 6144#64 : B64) = 0#64 := by decide
    have e4 : (6144#64 &&& 6144#64 : B64) = 6144#64 := by decide
    have e5 : (0#64 &&& 6144#64 : B64) = 0#64 := by decide
    have e6 : (0#64 &&& 2228360#64 : B64) = 0#64 := by decide
    constructor
    · unfold statusOf
      simp only [d, hy, hb, e1, e2, e3, e4, BitVec.or_zero, BitVec.zero_or, if_true]
    · unfold statusOf
      simp only [d, hy, hb, e2, e3, BitVec.or_zero]
      rw [if_neg (by decide), BitVec.or_zero]
  have h1 := key (m &&& 2228360#64) (mask_twice _ _)
  unfold statusOf at h1 ⊢
  by_cases g : m &&& 6144#64 = 6144#64
  · rw [if_pos g]; exact h1.1
  · rw [if_neg g]; exact h1.2
theorem cfg_twice : ∀ c : B8, cfgOf (cfgOf c) = cfgOf c := by decide +kernel
theorem CpuV.proper_twice (c : CpuV) : CpuSame c.proper.proper c.proper where
  pc := mask_twice _ _
  x := fun j _ => by show (if j = 0 then 0#64 else (if j = 0 then 0#64 else c.x j)) = (if j = 0 then 0#64 else c.x j); split <;> rfl
  mode := by show (if (if c.mode = 3 then (3 : Int) else 0) = 3 then (3 : Int) else 0) = (if c.mode = 3 then 3 else 0); split <;> rfl
  waiting := rfl
  mstatus := status_twice _
  mtvec := mask_twice _ _
  mie := mask_twice _ _
  mcounteren := mask_twice _ _
  mcountinhibit := mask_twice _ _
  menvcfg := mask_twice _ _
  mscratch := rfl
  mepc := mask_twice _ _
  mcause := rfl
  mtval := rfl
  mcycle := rfl
  minstret := rfl
  cfg := fun j _ => cfg_twice _
  addr := fun j _ => mask_twice _ _
  rvalid := (res_twice c).1
  raddr := (res_twice c).2.1
  rsize := (res_twice c).2.2
where
  res_twice (c : CpuV) : c.proper.proper.rvalid = c.proper.rvalid ∧ c.proper.proper.raddr = c.proper.raddr ∧ c.proper.proper.rsize = c.proper.rsize := by
    have e0 : c.proper.rvalid = resOk c.rvalid c.raddr c.rsize := rfl
    have e1 : c.proper.raddr = if resOk c.rvalid c.raddr c.rsize then c.raddr else 0#64 := rfl
    have e2 : c.proper.rsize = if resOk c.rvalid c.raddr c.rsize then c.rsize else 0 := rfl
    have f0 : c.proper.proper.rvalid = resOk c.proper.rvalid c.proper.raddr c.proper.rsize := rfl
    have f1 : c.proper.proper.raddr = if resOk c.proper.rvalid c.proper.raddr c.proper.rsize then c.proper.raddr else 0#64 := rfl
    have f2 : c.proper.proper.rsize = if resOk c.proper.rvalid c.proper.raddr c.proper.rsize then c.proper.rsize else 0 := rfl
    rw [f0, f1, f2, e0, e1, e2]
    cases g : resOk c.rvalid c.raddr c.rsize with
    | false => exact ⟨rfl, rfl, rfl⟩
    | true =>
      have g2 : resOk true c.raddr c.rsize = true := by
        unfold resOk at g ⊢
        cases hv : c.rvalid
        · rw [hv] at g; cases g
        · rw [hv] at g; exact g
      simp [g2]
theorem cpuB_congr {c d : CpuV} (h : CpuSame c d) : cpuB c = cpuB d := by
  unfold cpuB
  rw [h.pc, h.mode, h.waiting, h.mstatus, h.mtvec, h.mie, h.mcounteren, h.mcountinhibit, h.menvcfg, h.mscratch, h.mepc, h.mcause, h.mtval, h.mcycle, h.minstret, h.rvalid, h.raddr, h.rsize,
    manyN_congr (n := 32) (fun j hj => by show le (c.x j) 8 = le (d.x j) 8; rw [h.x j hj] : ∀ j, j < 32 → (fun i => le (c.x i) 8) j = (fun i => le (d.x i) 8) j),
    manyN_congr (n := 16) (fun j hj => by show le ((c.cfg j).setWidth 64) 1 = le ((d.cfg j).setWidth 64) 1; rw [h.cfg j hj] : ∀ j, j < 16 → (fun i => le ((c.cfg i).setWidth 64) 1) j = (fun i => le ((d.cfg i).setWidth 64) 1) j),
    manyN_congr (n := 16) (fun j hj => by show le (c.addr j) 8 = le (d.addr j) 8; rw [h.addr j hj] : ∀ j, j < 16 → (fun i => le (c.addr i) 8) j = (fun i => le (d.addr i) 8) j)]
theorem bb_len (b : Bool) : (bb b).length = 1 := rfl
theorem cpuB_len (c : CpuV) : (cpuB c).length = 516 := by
  unfold cpuB
  simp only [List.length_append, le_len, bb_len, manyN_len (fun i => le_len _ _), List.length_nil]
theorem devB_len (b : BusV) (i o : Nat → B8) : (devB b i o).length = 35 + b.ni + b.no := by
  unfold devB
  simp only [List.length_append, le_len, bb_len, lst_len]
  omega
theorem crcN_congr {p q : Nat → B8} : ∀ {n}, (∀ j, j < n → p j = q j) → crcN p n = crcN q n
  | 0, _ => rfl
  | n + 1, h => by rw [crcN, crcN, crcN_congr fun j hj => h j (by omega), h n (by omega)]
theorem proper_bounds (c : CpuV) : (0 ≤ c.proper.mode ∧ c.proper.mode < 256) ∧ (0 ≤ c.proper.rsize ∧ c.proper.rsize < 256) := by
  constructor
  · show 0 ≤ (if c.mode = 3 then (3 : Int) else 0) ∧ (if c.mode = 3 then (3 : Int) else 0) < 256
    split <;> decide
  · show 0 ≤ (if resOk c.rvalid c.raddr c.rsize then c.rsize else 0) ∧ (if resOk c.rvalid c.raddr c.rsize then c.rsize else 0) < 256
    split
    · rename_i g
      unfold resOk at g
      simp at g
      omega
    · decide
/-- The bytes ahead of the sum. -/
def bodyL (cp : CpuV) (s : BusV) (ram inp out : Nat → B8) : List B8 := magic ++ (cpuB cp.proper ++ (devB s inp out ++ (le (BitVec.ofNat 64 s.nr) 4 ++ (pagesF ram s.nr 0 ((s.nr + 255) / 256) ++ le 65535#64 2))))
theorem snap_body (cp : CpuV) (s : BusV) (ram inp out : Nat → B8) : snap cp s ram inp out = sumOn (bodyL cp s ram inp out) := by
  unfold snap ramOn bodyL
  rw [devOn_eq, cpuOn_eq, pagesN_F]
  simp only [List.append_assoc]
theorem pagesF_len (p : Nat → B8) (n : Nat) : ∀ m a, (pagesF p n a m).length ≤ 258 * m
  | 0, _ => Nat.zero_le _
  | m + 1, a => by
    have := pagesF_len p n m (a + 1)
    rw [pagesF, List.length_append]
    unfold pageB
    split
    · simp; omega
    · rw [List.length_append, le_len, lst_len]; unfold pgw; omega
/-- Load of what Save makes. -/
theorem snap_load (cp : CpuV) (s : BusV) (ram inp out : Nat → B8) (hs : s.can = true) (p : Nat → B8) (n : Nat) (hn : n = (snap cp s ram inp out).length) (hp : Has p 0 (snap cp s ram inp out)) :
    12 ≤ n ∧ n ≤ 72000 ∧ (∃ mem, loadOut p n = (0, mem) ∧ ∀ j, j < s.nr → mem j = ram j) ∧ CpuSame (cpuR p (n - 4) startR) cp.proper ∧ loadW p n = s ∧ (∀ j, j < s.ni → inR p (n - 4) startR j = inp j) ∧ (∀ j, j < s.no → outR p (n - 4) startR j = out j) ∧
      foot p (n - 4) = ~~~ crcN p (n - 4) := by
  have hc : (8 ≤ s.nr ∧ s.nr ≤ 65536 ∧ s.nr % 8 = 0) ∧ s.ni ≤ 64 ∧ s.no ≤ 4096 ∧ (0 ≤ s.off ∧ s.off < 256) ∧ (0 ≤ s.code ∧ s.code < 4294967296) := by
    have h := hs
    simp only [BusV.can, decide_eq_true_eq] at h
    refine ⟨h.1, h.2.2.2.2.1, h.2.2.2.2.2.1, ?_, ?_⟩
    · rcases h.2.2.2.2.2.2 with ⟨h | h, _⟩ | ⟨h, _⟩ <;> omega
    · rcases h.2.2.2.2.2.2 with ⟨_, h⟩ | ⟨_, h⟩ <;> omega
  obtain ⟨⟨c1, c2, c3⟩, c4, c5, c6, c7⟩ := hc
  rw [snap_body] at hn hp
  have hbl : (bodyL cp s ram inp out).length = 8 + (516 + ((35 + s.ni + s.no) + (4 + ((pagesF ram s.nr 0 ((s.nr + 255) / 256)).length + 2)))) := by
    unfold bodyL
    simp only [List.length_append, le_len, cpuB_len, devB_len]
    rfl
  have hpl := pagesF_len ram s.nr ((s.nr + 255) / 256) 0
  unfold sumOn at hn hp
  rw [List.length_append, le_len] at hn
  have hB := hp.left
  have hF := hp.right
  rw [Nat.zero_add] at hF
  generalize hN : n - 4 = N
  have hNb : N = (bodyL cp s ram inp out).length := by omega
  rw [← hNb] at hF
  have hcrc : crcN (fun j => (bodyL cp s ram inp out).getD j 0#8) N = crcN p N := by
    exact crcN_congr fun j hj => by rw [← hB j (by omega), Nat.zero_add]
  rw [hcrc] at hF
  have hfoot : foot p N = ~~~ crcN p N := by
    unfold foot
    rw [hi_le (fun j => p (N + j)) 0 4 ((~~~ crcN p N).setWidth 64) (by decide) (wide_lt32 _) (fun j hj => by
      show p (N + (0 + j)) = _
      rw [Nat.zero_add]
      exact hF j hj)]
    exact back32 _
  unfold bodyL at hB
  have hmag := hB.left
  have h8 := hB.right
  rw [show (0 : Nat) + magic.length = 8 from rfl] at h8
  have hm : eqB 8 p magicF = true := by
    unfold eqB
    rw [List.all_eq_true]
    intro j hj
    have hj := List.mem_range.1 hj
    rw [beq_iff_eq]
    have := hmag j hj
    rw [Nat.zero_add] at this
    exact this
  obtain ⟨b1, b2⟩ := proper_bounds cp
  obtain ⟨k1, k2, k3, k4, k5, k6⟩ := both_fw (p := p) (N := N) (s := startR) (cp := cp.proper) (b := s) (inp := inp) (out := out) rfl (by show 8 + 551 + s.ni + s.no ≤ N; omega) b1 b2 c6 c7 c4 c5 h8
  have k6' : Has p (8 + 551 + s.ni + s.no) (le (BitVec.ofNat 64 s.nr) 4 ++ (pagesF ram s.nr 0 ((s.nr + 255) / 256) ++ (le 65535#64 2 ++ []))) := by rw [List.append_nil]; exact k6
  have k5' : bothR p N startR = ⟨8 + 551 + s.ni + s.no, false⟩ := k5
  have e4 : (BitVec.ofNat 64 s.nr).toNat = s.nr := by rw [BitVec.toNat_ofNat]; omega
  obtain ⟨t1, t2, t3⟩ := take_fw (N := N) (s := ⟨8 + 551 + s.ni + s.no, false⟩) rfl (by decide) (by show 8 + 551 + s.ni + s.no + 4 ≤ N; omega) (by rw [e4]; omega) k6'
  obtain ⟨mem, g1, g2, _⟩ := ram_fw (N := N) c2 ((s.nr + 255) / 256) 257 0 0 ⟨8 + 551 + s.ni + s.no + 4, false⟩ (fun _ => 0#8) (by omega) (Nat.le_refl _) (by omega) rfl t3 (by show 8 + 551 + s.ni + s.no + 4 + _ + 2 ≤ N; omega) (fun j _ => by rw [if_neg (by omega)])
  have hrN : ramN p N (bothR p N startR) = s.nr := by unfold ramN; rw [k5', t1, e4]
  have hrR : ramR p N (bothR p N startR) = some (⟨8 + 551 + s.ni + s.no + 4 + (pagesF ram s.nr 0 ((s.nr + 255) / 256)).length + 2, false⟩, mem) := by
    unfold ramR
    have ok : ramOk p N (bothR p N startR) = true := by
      unfold ramOk
      rw [hrN, k5', t2]
      simp; omega
    rw [if_pos ok, hrN, k5', t2]
    exact g1
  have hW : busR (ramN p N (bothR p N startR)) p N startR = s := by rw [hrN]; exact k2
  refine ⟨by omega, by omega, ⟨mem, ?_, g2⟩, k1, ?_, k3, k4, hfoot⟩
  · unfold loadOut
    rw [hN, if_neg (by rw [hm]; simp; omega), if_neg (by rw [hfoot]; simp), hrR]
    show (if 8 + 551 + s.ni + s.no + 4 + (pagesF ram s.nr 0 ((s.nr + 255) / 256)).length + 2 ≠ N then _ else _) = _
    rw [if_neg (by omega), hW, if_pos ⟨(cpu_eq _ _).2 ((k1.proper.trans (CpuV.proper_twice cp)).trans k1.symm), hs⟩]
  · unfold loadW
    rw [hN]
    exact hW
set_option maxRecDepth 100000 in
/-- Save of what Load takes. -/
theorem load_snap {p : Nat → B8} {n : Nat} (h : (loadOut p n).1 = 0) :
    12 ≤ n ∧ n ≤ 72000 ∧ CpuSame (cpuR p (n - 4) startR).proper (cpuR p (n - 4) startR) ∧ (loadW p n).can = true ∧ snap (cpuR p (n - 4) startR) (loadW p n) (loadOut p n).2 (inR p (n - 4) startR) (outR p (n - 4) startR) = lst p n := by
  unfold loadOut at h ⊢
  split at h
  · cases h
  rename_i g1
  rw [if_neg g1]
  split at h
  · cases h
  rename_i g2
  rw [if_neg g2]
  split at h
  · cases h
  rename_i s' mem hr
  split at h
  · cases h
  rename_i g3
  split at h
  rotate_left
  · cases h
  rename_i g4
  rw [if_neg g3, if_pos g4]
  have a1 : 12 ≤ n ∧ n ≤ 72000 := by
    rcases Nat.lt_or_ge n 12 with c | c
    · exact absurd (.inl c) g1
    · rcases Nat.lt_or_ge 72000 n with d | d
      · exact absurd (.inr (.inl d)) g1
      · exact ⟨c, d⟩
  have a2 : eqB 8 p magicF = true := by
    cases hm : eqB 8 p magicF
    · exact absurd (.inr (.inr hm)) g1
    · rfl
  have a3 : foot p (n - 4) = ~~~ crcN p (n - 4) := Decidable.not_not.1 g2
  have a4 : s'.at_ = n - 4 := Decidable.not_not.1 g3
  have pr := (cpu_eq _ _).1 g4.1
  refine ⟨a1.1, a1.2, pr, g4.2, ?_⟩
  unfold ramR at hr
  split at hr
  rotate_left
  · cases hr
  rename_i ok
  have okb : (takeR (n - 4) 4 (bothR p (n - 4) startR)).bad = false ∧ ramN p (n - 4) (bothR p (n - 4) startR) ≤ 65536 := by
    unfold ramOk at ok
    simp at ok
    exact ⟨ok.1, ok.2.1.2⟩
  obtain ⟨q1, _, q2, q3⟩ := take_bw (p := p) (by decide) okb.1
  obtain ⟨u1, u2, _, u3⟩ := ram_bw okb.2 257 0 _ _ s' mem hr (Nat.zero_le _) (fun _ _ _ => rfl)
  obtain ⟨w1, _, _⟩ := both_bw (p := p) (N := n - 4) (n := ramN p (n - 4) (bothR p (n - 4) startR)) q1
  have hmg : lst p startR.at_ = magic := by
    show lst p 8 = magic
    have hall : ∀ j, j < 8 → p j = magicF j := by
      intro j hj
      unfold eqB at a2
      exact beq_iff_eq.1 (List.all_eq_true.1 a2 j (List.mem_range.2 hj))
    have : Has p 0 magic := fun j hj => by rw [Nat.zero_add]; exact hall j hj
    exact has_lst this
  have body : ramOn (loadW p n).nr mem (devOn (loadW p n) (inR p (n - 4) startR) (outR p (n - 4) startR) (cpuOn (cpuR p (n - 4) startR).proper magic)) = lst p (n - 4) := by
    rw [a4] at u3
    rw [u3, q2, q3, w1, hmg]
    unfold ramOn
    rw [devOn_eq, devOn_eq, cpuOn_eq, cpuOn_eq, cpuB_congr pr, pagesN_F]
    have e : (loadW p n).nr = ramN p (n - 4) (bothR p (n - 4) startR) := rfl
    have e5 : le (BitVec.ofNat 64 (loadW p n).nr) 4 = le (numV p (n - 4) 4 (bothR p (n - 4) startR)) 4 := by
      rw [e]
      unfold ramN
      rw [BitVec.ofNat_toNat, BitVec.setWidth_eq]
    rw [e5, e, Nat.sub_zero]
    simp only [List.append_assoc]
    rfl
  unfold snap sumOn
  rw [body, lst_len, crcN_congr (q := p) (fun j hj => lst_get p _ j hj), ← a3]
  have hf : Has p (n - 4) (le ((foot p (n - 4)).setWidth 64) 4) := by
    have h1 := le_hi (fun j => p (n - 4 + j)) 0 4 (by decide)
    unfold foot
    rw [le_cut32]
    intro j hj
    have := h1 j hj
    rw [← this, Nat.zero_add]
  have := has_lst hf
  rw [le_len, show n - 4 + 4 = n from by omega] at this
  exact this.symm
end Go.Anv

/- A call's answer that says less. Plain theorem. -/
namespace Go.Anv
open Go
/-- An answer that says less, over a heap that says less. -/
theorem Does.res {T : Tbl} {f : FuncId} {args : List EV} {h : List Blk} {Q Q' : EV → List Blk → Prop} (d : Does T f args h Q) (e : ∀ v h', Q v h' → ∃ v2 h2, eqvE v v2 ∧ eqvH h' h2 ∧ Q' v2 h2) : Does T f args h Q' := by
  have key : ∀ {E : Emb} {w w' : World} {x : Ending}, Post E h w Q x w' → Post E h w Q' x w' := fun {E w w' x} p => by
    obtain ⟨v, y, h', E'', h1, h2, h3, h4, h5⟩ := p
    obtain ⟨v2, k2, e1, e2, e3⟩ := e _ _ h5
    exact ⟨v, v2, k2, E'', h1, eqvE_den _ _ _ e1 h2, h3.eqv e2, h4.eqv e2, e3⟩
  refine ⟨?_⟩
  rcases d.go with ⟨h1, h2⟩ | h1
  · exact .inl ⟨h1, fun E w vs S Z ha => (h2 E w vs S Z ha).mono fun x w' p => key p⟩
  · refine .inr fun E w vs S ha => ?_
    obtain ⟨u, w', h2, h3⟩ := h1 E w vs S ha
    exact ⟨u, w', h2, key h3⟩
end Go.Anv

/- A whole that must be saved: it is saved and loaded; no bytes are no snapshot. Contracts of functions. -/
namespace Go.Anv
open Go
def smallC : CpuV := { cpu0 with mstatus := 0#64 }
theorem smallC_proper : smallC.proper = cpu0 := by
  have h1 : (fun j => if j = 0 then 0#64 else smallC.x j) = cpu0.x := by funext j; show (if j = 0 then 0#64 else 0#64) = 0#64; split <;> rfl
  have h2 : (fun j => cfgOf (smallC.cfg j)) = cpu0.cfg := by funext j; show cfgOf 0#8 = 0#8; decide
  have h3 : (fun j => smallC.addr j &&& addrBits) = cpu0.addr := by funext j; show 0#64 &&& addrBits = 0#64; decide
  unfold CpuV.proper
  rw [h1, h2, h3]
  rfl
def ramB (j : Nat) : B8 := BitVec.ofInt 8 (ramF j)
def zB : Nat → B8 := fun _ => 0#8
theorem s0_can : s0.can = true := by decide
theorem snap0_len : (snap smallC s0 ramB zB zB).length = 579 := by
  rw [snap_body]
  unfold sumOn bodyL
  simp only [List.length_append, le_len, cpuB_len, devB_len]
  have : (pagesF ramB s0.nr 0 ((s0.nr + 255) / 256)).length = 10 := by decide
  rw [this]
  rfl
theorem CpuSame.eqv {c d : CpuV} (h : CpuSame c d) : eqvS c.segs d.segs := by
  obtain ⟨h1, h2, h3, h4, h5, h6, h7, h8, h9, h10, h11, h12, h13, h14, h15, h16, h17, h18, h19, h20, h21⟩ := h
  unfold CpuV.segs
  rw [h1, h3, h4, h5, h6, h7, h8, h9, h10, h11, h12, h13, h14, h15, h16, h19, h20, h21]
  repeat' (first | exact eqvS_nil | refine eqvS_same ?_ | refine eqvS_ints (fun j hj => ?_) ?_)
  · simp only [wfun]; rw [h2 j hj]
  · simp only [bfun]; rw [h17 j hj]
  · simp only [wfun]; rw [h18 j hj]
end Go.Anv
namespace Go.Proofs.YtdlpmbghocabbaaGreatDoor
open Go Go.Anv
set_option maxRecDepth 100000 in
theorem small_raw : Does TB 34 [] [] (fun v h' => v = .agg (wsegs smallC s0 (.slice 0 0 8 8) .nilslice .nilslice) ∧ h' = [.cells true [.ints .u8 8 ramF] 0]) := by
  refine fnX_does TB Tryz.func34 rfl (by decide) (fun O on hO => ?_)
  repeat (refine need_intro (by first | exact fun h => h | exact nt | exact an2 | exact an3 | rfl | (simp; done) | fail) ?_)
  exact ⟨_, _, [2], ⟨rfl, rfl⟩, by decide, trivial, eqvE_refl _, ⟨⟨_, rfl, eqvB_refl _⟩, trivial⟩⟩
/-- The small whole; its lists are blocks. -/
theorem small0 : Does TB 34 [] [] (fun v h' => v = .agg (wsegs smallC s0 (.gs 0 0 8 8) (.gs 1 0 0 0) (.gs 2 0 0 0)) ∧ h' = [bblk true 8 ramB 0, bblk true 0 zB 0, bblk true 0 zB 0]) := by
  refine (Does.ghR .u8 (bfun zB) (Does.ghR .u8 (bfun zB) small_raw)).res ?_
  rintro v h' ⟨rfl, rfl⟩
  refine ⟨_, _, ?_, ?_, rfl, rfl⟩
  · show eqvS _ _
    repeat' (first | exact eqvS_nil | refine eqvS_same ?_ | exact ⟨⟨rfl, rfl, rfl, rfl⟩, eqvS_refl _⟩)
  · exact ⟨⟨rfl, rfl, ⟨rfl, rfl, ramF_eq⟩, trivial⟩, eqvB_refl _, eqvB_refl _, trivial⟩
def sl0 : Lists := ⟨true, 0, ramB, true, 0, zB, true, 0, zB⟩
theorem save0 : Does TB 14 [.agg (wsegs smallC s0 (.gs 0 0 8 8) (.gs 1 0 0 0) (.gs 2 0 0 0))] [bblk true 8 ramB 0, bblk true 0 zB 0, bblk true 0 zB 0]
    (fun v h' => ∃ c', 579 ≤ c' ∧ v = .tuple [.s (.gs 3 0 579 c'), .s (.int .i64 0)] ∧ h' = [bblk true 8 ramB 0, bblk true 0 zB 0, bblk true 0 zB 0, lb (snap smallC s0 ramB zB zB) c']) := by
  refine (save_spec smallC s0 sl0 8 0 0 (by decide) (by decide) (by decide) (by decide)).mono ?_
  intro v h' hq
  unfold Saved at hq
  rw [s0_can] at hq
  obtain ⟨c', h1, h2, rfl, rfl⟩ := hq
  have h3 : (snap smallC s0 sl0.ram sl0.inp sl0.out).length = 579 := snap0_len
  rw [h3] at h1
  refine ⟨c', h1, ?_, rfl⟩
  rw [h3]
theorem load0w (c' : Nat) (hc : 579 ≤ c') : Does TB 19 [.s (.gs 0 0 579 c')] [lb (snap smallC s0 ramB zB zB) c']
    (fun v h' => ∃ cr ci co, v = .tuple [.agg (wsegs cpu0 s0 (.gs 1 0 8 cr) (.gs 2 0 0 ci) (.gs 3 0 0 co)), .s (.int .i64 0)] ∧ h' = [lb (snap smallC s0 ramB zB zB) c', bblk true 8 ramB (cr - 8), bblk true 0 zB (ci - 0), bblk true 0 zB (co - 0)]) := by
  have L := snap0_len
  generalize hS : snap smallC s0 ramB zB zB = S at L ⊢
  have P : Has (fun j => S.getD j 0#8) 0 S := fun j hj => by rw [Nat.zero_add]
  obtain ⟨a1, a2, ⟨mem, a3, a4⟩, a5, a6, a7, a8, a9⟩ := snap_load smallC s0 ramB zB zB s0_can (fun j => S.getD j 0#8) 579 (by rw [hS, L]) (by rw [hS]; exact P)
  rw [smallC_proper] at a5
  refine (load_spec true 579 c' S.length (c' - S.length) (bf S) (fun j => S.getD j 0#8) hc (by omega) (by decide) (fun j _ => rfl)).res ?_
  rintro v h' (⟨h1, _⟩ | ⟨_, cr, ci, co, _, rfl, rfl⟩)
  · rw [a3] at h1; exact absurd rfl h1
  rw [a6, a3]
  refine ⟨_, _, ?_, ?_, cr, ci, co, rfl, rfl⟩
  · refine ⟨?_, eqvE_refl _, trivial⟩
    exact eqvS_append a5.eqv (eqvS_refl _)
  · refine ⟨eqvB_refl _, ⟨rfl, rfl, ⟨rfl, rfl, fun j hj => ?_⟩, trivial⟩, ⟨rfl, rfl, ⟨rfl, rfl, fun j hj => absurd hj (Nat.not_lt_zero j)⟩, trivial⟩, ⟨rfl, rfl, ⟨rfl, rfl, fun j hj => absurd hj (Nat.not_lt_zero j)⟩, trivial⟩, trivial⟩
    simp only [bfun]
    rw [a4 j hj]
theorem loadnil : Does TB 19 [.s .nilslice] [] (fun v h' => v = .tuple [.agg zwhole, .s (.int .i64 161)] ∧ h' = [bblk true 0 zB 0]) := by
  refine Does.ghA .u8 (bfun zB) 0 ?_
  show Does TB 19 [.s (.gs 0 0 0 0)] [bblk true 0 zB 0] _
  have e : (loadOut zB 0).1 = 161 := by
    unfold loadOut
    rw [if_pos (.inl (by decide))]
  refine (load_spec true 0 0 0 0 (bfun zB) zB (Nat.le_refl 0) (Nat.le_refl 0) (by decide) (fun j hj => absurd hj (Nat.not_lt_zero j))).mono ?_
  rintro v h' (⟨_, rfl, rfl⟩ | ⟨h1, _⟩)
  · rw [e]; exact ⟨rfl, rfl⟩
  · rw [e] at h1; cases h1
end Go.Proofs.YtdlpmbghocabbaaGreatDoor

/- What must come whatever is asked: a small whole is saved, loaded and goes on. Contract of a function. -/
namespace Go.Proofs.YtdlpmbghocabbaaGreatDoor
open Go Go.Anv
theorem from0 (cr ci co : Nat) : Does TB 24 [.agg (s0.segs (.gs 0 0 8 cr) (.gs 1 0 0 ci) (.gs 2 0 0 co))] [bblk true 8 ramB (cr - 8), bblk true 0 zB (ci - 0), bblk true 0 zB (co - 0)]
    (fun v h' => ∃ x : Small, v = .tuple [.s (.ptr 3 0), .s (.int .i64 0)] ∧ h' = [bblk true 8 ramB (cr - 8), bblk true 0 zB (ci - 0), bblk true 0 zB (co - 0), .cells true (bus0 0 (.gs 4 0 8 x.cr) (.gs 5 0 0 x.ci) (.gs 6 0 0 x.co)) 0, x.ram, x.inp, x.out]) := by
  refine (from_yes s0 ⟨true, cr - 8, ramB, true, ci - 0, zB, true, co - 0, zB⟩ cr ci co s0_can).res ?_
  rintro v h' ⟨c3, c4, c5, _, _, _, rfl, rfl⟩
  refine ⟨_, _, eqvE_refl _, ?_, ⟨c3, c4, c5, bfun zB, bfun zB⟩, rfl, rfl⟩
  exact ⟨eqvB_refl _, eqvB_refl _, eqvB_refl _, eqvB_refl _, ⟨rfl, rfl, ⟨rfl, rfl, fun j hj => (ramF_eq j hj).symm⟩, trivial⟩, eqvB_refl _, eqvB_refl _, trivial⟩
set_option maxRecDepth 100000 in
set_option maxHeartbeats 4000000 in
theorem first0 : Does TB 13 [] [] (fun v h' => v = .s (.bool true) ∧ h' = []) := by
  refine fnX_does TB Tryz.func13 rfl (by decide) (fun O on hO => ?_)
  refine Does.atn small0 [] rfl trivial (by decide) ?_ ?_
  · rintro v h' ⟨_, rfl⟩
    exact ⟨.inl rfl, .inl rfl, .inl rfl, trivial⟩
  rintro v h' ⟨rfl, rfl⟩
  refine Does.atn save0 [0, 1, 2] rfl ⟨rfl, rfl, rfl, trivial⟩ (by decide) ?_ ?_
  · rintro v h' ⟨_, _, _, rfl⟩
    exact ⟨.inl rfl, .inl rfl, .inl rfl, .inl rfl, trivial⟩
  rintro v h' ⟨c', hc, rfl, rfl⟩
  have hL := snap0_len
  generalize hS : snap smallC s0 ramB zB zB = S at hL ⊢
  repeat (refine need_intro (by first | exact fun h => h | exact nt | exact an2 | exact an3 | rfl | (simp; done) | fail) ?_)
  refine (num16_spec 0 _).mono ?_
  rintro _ _ ⟨rfl, rfl⟩
  repeat (refine need_intro (by first | exact fun h => h | exact nt | exact an2 | exact an3 | rfl | (simp; done) | fail) ?_)
  have ld := load0w c' hc
  rw [hS] at ld
  refine Does.atn ld [3] rfl ⟨rfl, trivial⟩ (by decide) ?_ ?_
  · rintro v h' ⟨_, _, _, _, rfl⟩
    exact ⟨.inl rfl, .inl rfl, .inl rfl, .inl rfl, trivial⟩
  rintro v h' ⟨cr, ci, co, rfl, rfl⟩
  repeat (refine need_intro (by first | exact fun h => h | exact nt | exact an2 | exact an3 | rfl | (simp; done) | fail) ?_)
  refine Does.atn loadnil [] rfl trivial (by decide) ?_ ?_
  · rintro v h' ⟨_, rfl⟩
    exact ⟨.inl rfl, trivial⟩
  rintro v h' ⟨rfl, rfl⟩
  repeat (refine need_intro (by first | exact fun h => h | exact nt | exact an2 | exact an3 | rfl | (simp; done) | fail) ?_)
  refine draw_held on rfl (fun _ _ h => h) ?_
  repeat' (first | refine need_intro (by first | exact fun h => h | exact nt | exact an2 | exact an3 | rfl | (simp; done) | fail) ?_ | refine And.intro ?_ ?_ | (refine (num16_spec 0 _).mono ?_; rintro _ _ ⟨rfl, rfl⟩))
  refine Does.ungd (b := [.s (.int .i64 161)]) ⟨⟨by decide, rfl⟩, trivial⟩ ?_
  refine (num16_spec 161 _).mono ?_
  rintro _ _ ⟨rfl, rfl⟩
  repeat' (first | refine need_intro (by first | rfl | decide | fail) ?_ | refine And.intro ?_ ?_)
  refine Does.atn small0 [] rfl trivial (by decide) ?_ ?_
  · rintro v h' ⟨_, rfl⟩
    exact ⟨.inl rfl, .inl rfl, .inl rfl, trivial⟩
  rintro v h' ⟨rfl, rfl⟩
  repeat' (first | refine need_intro (by first | rfl | decide | fail) ?_ | refine And.intro ?_ ?_)
  refine Does.ungd (b := [.agg (s0.segs (.gs 4 0 8 cr) (.gs 5 0 0 ci) (.gs 6 0 0 co)), .agg (s0.segs (.gs 10 0 8 8) (.gs 11 0 0 0) (.gs 12 0 0 0))]) ⟨⟨by decide, rfl⟩, ⟨by decide, rfl⟩, trivial⟩ ?_
  refine Does.atc (buses_spec s0 sl0 (⟨true, 8, bfun ramB, cr - 8, Nat.le_refl _, fun _ _ => rfl⟩ : BB s0.nr sl0.ram) (⟨true, 8, bfun ramB, 0, Nat.le_refl _, fun _ _ => rfl⟩ : BB s0.nr sl0.ram) (⟨true, 0, bfun zB, ci - 0, Nat.le_refl _, fun _ _ => rfl⟩ : BB s0.ni sl0.inp) (⟨true, 0, bfun zB, 0, Nat.le_refl _, fun _ _ => rfl⟩ : BB s0.ni sl0.inp) (⟨true, 0, bfun zB, co - 0, Nat.le_refl _, fun _ _ => rfl⟩ : BB s0.no sl0.out) (⟨true, 0, bfun zB, 0, Nat.le_refl _, fun _ _ => rfl⟩ : BB s0.no sl0.out) cr ci co 8 0 0) [4, 5, 6, 10, 11, 12] rfl ⟨rfl, rfl, rfl, rfl, rfl, rfl, trivial⟩ (by decide) ?_
  repeat' (first | refine need_intro (by first | rfl | decide | fail) ?_ | refine And.intro ?_ ?_)
  refine Does.atn (from0 cr ci co) [4, 5, 6] rfl ⟨rfl, rfl, rfl, trivial⟩ (by decide) ?_ ?_
  · rintro v h' ⟨_, _, rfl⟩
    exact ⟨.inl rfl, .inl rfl, .inl rfl, .inl rfl, .inl rfl, .inl rfl, .inl rfl, trivial⟩
  rintro v h' ⟨x, rfl, rfl⟩
  repeat (refine need_intro (by first | exact fun h => h | exact nt | exact an2 | exact an3 | rfl | (simp; done) | fail) ?_)
  refine (num16_spec 0 _).mono ?_
  rintro _ _ ⟨rfl, rfl⟩
  repeat (refine need_intro (by first | exact fun h => h | exact nt | exact an2 | exact an3 | rfl | (simp; done) | fail) ?_)
  refine Does.ghA .u8 (bfun zB) 2 ?_
  refine Does.atn (step0 x (bfun zB)) [13, 14, 15, 16, 17] rfl ⟨rfl, rfl, rfl, rfl, rfl, trivial⟩ (by decide) ?_ ?_
  · rintro v h' ⟨d, _, rfl⟩
    exact ⟨.inl rfl, .inl rfl, .inr (.inl rfl), .inl rfl, .inl rfl, .inl rfl, trivial⟩
  rintro v h' ⟨d, rfl, rfl⟩
  repeat (refine need_intro (by first | exact fun h => h | exact nt | exact an2 | exact an3 | rfl | (simp; done) | fail) ?_)
  refine Ends.ro (H := []) rfl ?_ rfl
  show (bif row2.kind == 1 then wfun cpu2.x (Int.toNat 1) == 1 else false) = true
  decide
end Go.Proofs.YtdlpmbghocabbaaGreatDoor

/- The engine, part 14: the arguments of a statement: from what they read as to a small world. Plain theorems; their condition: what the program's table says of the types. -/
namespace Go.Anv
open Go

/-- What a cell of an argument, or a run of cells, is. -/
inductive FK where
  | int (k : IntKind)
  | bool
  | arr (k : IntKind) (n : Nat)
  | sl (k : IntKind)
  | rows (ks : List IntKind) (b : Nat)

def sizeF : List FK → Nat
  | [] => 0
  | .int _ :: r => sizeF r + 1
  | .bool :: r => sizeF r + 1
  | .arr _ n :: r => n + sizeF r
  | .sl _ :: r => sizeF r + 1
  | .rows _ _ :: r => sizeF r + 1

theorem sizeF_append : ∀ a b : List FK, sizeF (a ++ b) = sizeF a + sizeF b
  | [], b => by simp [sizeF]
  | .int _ :: r, b => by simp only [List.cons_append, sizeF, sizeF_append r b]; omega
  | .bool :: r, b => by simp only [List.cons_append, sizeF, sizeF_append r b]; omega
  | .arr _ _ :: r, b => by simp only [List.cons_append, sizeF, sizeF_append r b]; omega
  | .sl _ :: r, b => by simp only [List.cons_append, sizeF, sizeF_append r b]; omega
  | .rows _ _ :: r, b => by simp only [List.cons_append, sizeF, sizeF_append r b]; omega

/-- A slice of whole numbers as it came in. -/
def slIn (W : World) (k : IntKind) (a : Option Addr) (len cap : Nat) (f : Nat → Int) : Prop :=
  len ≤ 140737488351232 ∧ ((a = none ∧ len = 0 ∧ cap = 0) ∨ ∃ b o, a = some ⟨b, o, none⟩ ∧ b < W.heap.size ∧ len ≤ cap ∧ ∀ j, j < len → W.cell? ⟨b, o + j, none⟩ = some (.int k (f j)) ∧ (Lit.int k (f j)).wf = true)

/-- A slice of structs of whole numbers as it came in. -/
def rowsIn (W : World) (ks : List IntKind) (b : Nat) (a : Option Addr) (len cap : Nat) (f : Nat → Nat → Int) : Prop :=
  len * b ≤ 140737488351232 ∧ ((a = none ∧ len = 0 ∧ cap = 0) ∨ ∃ b o, a = some ⟨b, o, none⟩ ∧ b < W.heap.size ∧ len ≤ cap ∧ ∀ j, j < len → ∀ q k, ks[q]? = some k → W.cell? ⟨b, o + (j * ks.length + q), none⟩ = some (.int k (f j q)) ∧ (Lit.int k (f j q)).wf = true)

def fitF (W : World) : List FK → List Value → Prop
  | [], l => l = []
  | .int k :: r, l => ∃ a l', l = .int k a :: l' ∧ (Lit.int k a).wf = true ∧ fitF W r l'
  | .bool :: r, l => ∃ b l', l = .bool b :: l' ∧ fitF W r l'
  | .arr k n :: r, l => ∃ f l', l = intsOf k n f ++ l' ∧ (∀ j, j < n → (Lit.int k (f j)).wf = true) ∧ fitF W r l'
  | .sl k :: r, l => ∃ a len cap f l', l = .slice a len cap :: l' ∧ slIn W k a len cap f ∧ fitF W r l'
  | .rows ks b :: r, l => ∃ a len cap f l', l = .slice a len cap :: l' ∧ rowsIn W ks b a len cap f ∧ fitF W r l'

theorem fitF_length {W : World} : ∀ {ks : List FK} {l : List Value}, fitF W ks l → l.length = sizeF ks
  | [], _, h => by simp only [fitF] at h; subst h; rfl
  | .int _ :: r, _, h => by simp only [fitF] at h; obtain ⟨a, l', rfl, _, h⟩ := h; simp [sizeF, fitF_length h]
  | .bool :: r, _, h => by simp only [fitF] at h; obtain ⟨a, l', rfl, h⟩ := h; simp [sizeF, fitF_length h]
  | .arr _ _ :: r, _, h => by simp only [fitF] at h; obtain ⟨a, l', rfl, _, h⟩ := h; simp [sizeF, fitF_length h, length_intsOf]
  | .sl _ :: r, _, h => by simp only [fitF] at h; obtain ⟨a, len, cap, f, l', rfl, _, h⟩ := h; simp [sizeF, fitF_length h]
  | .rows _ _ :: r, _, h => by simp only [fitF] at h; obtain ⟨a, len, cap, f, l', rfl, _, h⟩ := h; simp [sizeF, fitF_length h]

theorem fitF_append {W : World} : ∀ {a b : List FK} {x y : List Value}, fitF W a x → fitF W b y → fitF W (a ++ b) (x ++ y)
  | [], b, x, y, h, h' => by simp only [fitF] at h; subst h; exact h'
  | .int k :: r, b, x, y, h, h' => by simp only [fitF] at h; obtain ⟨a, l', rfl, h1, h⟩ := h; exact ⟨a, l' ++ y, rfl, h1, fitF_append h h'⟩
  | .bool :: r, b, x, y, h, h' => by simp only [fitF] at h; obtain ⟨a, l', rfl, h⟩ := h; exact ⟨a, l' ++ y, rfl, fitF_append h h'⟩
  | .arr k n :: r, b, x, y, h, h' => by simp only [fitF] at h; obtain ⟨a, l', rfl, h1, h⟩ := h; exact ⟨a, l' ++ y, by simp, h1, fitF_append h h'⟩
  | .sl k :: r, b, x, y, h, h' => by simp only [fitF] at h; obtain ⟨a, len, cap, f, l', rfl, h1, h⟩ := h; exact ⟨a, len, cap, f, l' ++ y, rfl, h1, fitF_append h h'⟩
  | .rows k _ :: r, b, x, y, h, h' => by simp only [fitF] at h; obtain ⟨a, len, cap, f, l', rfl, h1, h⟩ := h; exact ⟨a, len, cap, f, l' ++ y, rfl, h1, fitF_append h h'⟩

/-- The fields of a struct, one behind the other. -/
def FFn (P : Program) (R : TypeId → List FK → Prop) : Nat → List Field → List FK → Prop
  | _, [], ks => ks = []
  | o, f :: fs, ks => ∃ k1 k2, ks = k1 ++ k2 ∧ f.offset = o ∧ P.cellsOf f.type = sizeF k1 ∧ R f.type k1 ∧ FFn P R (o + sizeF k1) fs k2

/-- The fields of a struct of whole numbers. -/
def RFn (P : Program) : Nat → List Field → List IntKind → Prop
  | _, [], ks => ks = []
  | o, f :: fs, ks => ∃ k ks', ks = k :: ks' ∧ f.offset = o ∧ P.underlying f.type = some (.int k) ∧ P.cellsOf f.type = 1 ∧ RFn P (o + 1) fs ks'
theorem RFn.get {P : Program} : ∀ {fs : List Field} {o : Nat} {ks : List IntKind}, RFn P o fs ks → ∀ q k, ks[q]? = some k → ∃ f, fs[q]? = some f ∧ f.offset = o + q ∧ P.underlying f.type = some (.int k) ∧ P.cellsOf f.type = 1
  | [], o, ks, h, q, k, hk => by simp only [RFn] at h; subst h; simp at hk
  | f :: fs, o, ks, h, q, k, hk => by
    simp only [RFn] at h
    obtain ⟨k0, ks', rfl, h1, h2, h3, h4⟩ := h
    cases q with
    | zero =>
      simp only [List.getElem?_cons_zero, Option.some.injEq] at hk
      subst hk
      exact ⟨f, rfl, by rw [h1]; rfl, h2, h3⟩
    | succ q =>
      obtain ⟨f', k1, k2, k3, k4⟩ := RFn.get h4 q k (by simpa using hk)
      exact ⟨f', by simpa using k1, by rw [k2]; omega, k3, k4⟩
theorem addr_add {a : Addr} (h : a.spot = none) (x : Nat) : a.add x = ⟨a.block, a.off + x, none⟩ := by
  unfold Addr.add
  cases a
  simp only at h
  subst h
  split
  · rename_i h0; subst h0; rfl
  · rfl

/-- A type of whole numbers, truth values, arrays and slices of whole numbers. -/
def FTn (P : Program) : Nat → TypeId → List FK → Prop
  | 0, _, _ => False
  | n + 1, t, ks => (∃ k, P.underlying t = some (.int k) ∧ ks = [.int k]) ∨ (P.underlying t = some .bool ∧ ks = [.bool]) ∨
      (∃ m e k, P.underlying t = some (.array m e) ∧ P.underlying e = some (.int k) ∧ P.cellsOf e = 1 ∧ P.cellsOf t = m ∧ ks = [.arr k m]) ∨
      (∃ e k, P.underlying t = some (.slice e) ∧ P.underlying e = some (.int k) ∧ P.cellsOf e = 1 ∧ 1 ≤ P.bytesOf e ∧ ks = [.sl k]) ∨
      (∃ fs, P.underlying t = some (.struct fs) ∧ P.cellsOf t = sizeF ks ∧ FFn P (FTn P n) 0 fs.toList ks) ∨
      (∃ e fs ks' b, P.underlying t = some (.slice e) ∧ P.underlying e = some (.struct fs) ∧ P.cellsOf e = ks'.length ∧ P.bytesOf e = b ∧ RFn P 0 fs.toList ks' ∧ ks = [.rows ks' b])

/-- A slice's place is in the heap. -/
def placed (W : World) (v : Value) : Prop := ∀ a l c, v = .slice (some a) l c → a.spot = none ∧ a.block < W.heap.size

theorem placed_of_okWide {P : Program} {W : World} {r : Reach} {base : Nat} {u : TypeId} {v : Value} (h : Cell.okWide P W r base u v) : placed W v := by
  rintro a l c rfl
  have h' : Cell.ok P W r base u (.slice (some a) l c) := by
    unfold Cell.okWide at h
    split at h <;> first
      | exact h
      | (rename_i h1 h2; cases h2)
  unfold Cell.ok at h'
  obtain ⟨e, _, _, hhas⟩ : ∃ e, l ≤ c ∧ (c : Int) ≤ IntKind.i64.max ∧ W.has P r base a e c := by
    cases hu : P.underlying u with
    | none => rw [hu] at h'; exact h'.elim
    | some d =>
      rw [hu] at h'
      cases d <;> first
        | exact h'.elim
        | exact ⟨_, h'⟩
  obtain ⟨_, hs, row, cells, hsh, _⟩ := hhas
  refine ⟨hs, ?_⟩
  rcases Nat.lt_or_ge a.block W.heap.size with hlt | hge
  · exact hlt
  · simp [World.shape?, Array.getElem?_eq_none hge] at hsh

theorem FTn.opens {H : Type} {enc : TypeId × Value → H} {P : Program} {W : World} {base : Nat} {held : Bool} : ∀ (n : Nat) {t : TypeId} {ks : List FK}, FTn P n t ks → ∀ {fuel : Nat} {cs : List Value} {x : DataW H × List MemPlace},
    DataW.trod enc P W base (fun _ => true) held fuel t cs = some x → (∀ v ∈ cs, placed W v) → (∀ m ∈ x.1.weights P t, m ≤ reachBytes) → fitF W ks cs
  | 0, _, _, h, _, _, _, _, _, _ => h.elim
  | n + 1, t, ks, h, fuel, cs, x, hx, hp, hw => by
    rcases h with ⟨k, h, rfl⟩ | ⟨h, rfl⟩ | ⟨m, e, k, h, h1, h2, h3, rfl⟩ | ⟨e, k, h, h1, h2, h3, rfl⟩ | ⟨fs, h, h1, h2⟩ | ⟨e, fs, kl, bb, h, he, hc, rfl, hr, rfl⟩
    · obtain ⟨a, rfl, _, hwf⟩ := DataW.trod_int h hx
      exact ⟨a, [], rfl, hwf, rfl⟩
    · obtain ⟨a, rfl, _⟩ := DataW.trod_bool h hx
      exact ⟨a, [], rfl, rfl⟩
    · obtain ⟨xs, m', _, _, hl, hxl, hel⟩ := DataW.trod_array h hx
      have each : ∀ i, i < m → ∃ a, cs[i]? = some (.int k a) ∧ (Lit.int k a).wf = true := fun i hi => by
        have h4 := hel i hi
        rw [h2, Nat.mul_one] at h4
        have h5 : xs[i]? = some xs[i] := List.getElem?_eq_getElem (by omega)
        rw [h5] at h4
        obtain ⟨a, h6, _, hwf⟩ := DataW.trod_int h1 h4
        refine ⟨a, ?_, hwf⟩
        have h7 := congrArg (·[0]?) h6
        simpa using h7
      refine ⟨fun i => match cs[i]? with | some (.int _ a) => a | _ => 0, [], ?_, fun j hj => ?_, rfl⟩
      · rw [List.append_nil]
        apply List.ext_getElem?
        intro i
        rcases Nat.lt_or_ge i m with hi | hi
        · obtain ⟨a, h4, _⟩ := each i hi
          rw [intsOf_get hi, h4]
        · rw [List.getElem?_eq_none (by omega), List.getElem?_eq_none (by rw [length_intsOf]; exact hi)]
      · obtain ⟨a, h4, hwf⟩ := each j hj
        simp only [h4]
        exact hwf
    · rcases ChangeShapes.open_ints h h1 h2 hx with ⟨rfl, _⟩ | ⟨a, l, c, zs, rfl, _, hl, hm, hz, rfl, hcell, hwz⟩
      · exact ⟨none, 0, 0, fun _ => 0, [], rfl, ⟨by omega, .inl ⟨rfl, rfl, rfl⟩⟩, rfl⟩
      · have hz : zs.length = c := by simpa using hz
        obtain ⟨hs, hb⟩ := hp _ List.mem_cons_self a l c rfl
        have hwt := hw ((l + (c - l)) * P.bytesOf e) (by simp [DataW.weights, h, ChangeShapes.lits, hz, hl])
        have hr : reachBytes = 140737488351232 := by decide
        have hle : l + (c - l) ≤ (l + (c - l)) * P.bytesOf e := Nat.le_mul_of_pos_right _ h3
        refine ⟨some a, l, c, fun j => zs.getD j 0, [], rfl, ⟨by omega, .inr ⟨a.block, a.off, ?_, hb, hl, fun j hj => ⟨?_, ?_⟩⟩⟩, rfl⟩
        · cases a; simp only at hs; subst hs; rfl
        · have := hcell j (by omega)
          unfold Addr.add at this
          split at this
          · rename_i h0
            subst h0
            cases a
            simp only at hs
            subst hs
            exact this
          · exact this
        · refine hwz _ ?_
          show zs.getD j 0 ∈ zs
          rw [List.getD_eq_getElem?_getD, List.getElem?_eq_getElem (by omega)]
          exact List.getElem_mem _
    · obtain ⟨xs, m', _, rfl, hl, hxl, hel⟩ := DataW.trod_struct h hx
      have key : ∀ (fl : List Field) (j o : Nat) (ks : List FK), FFn P (FTn P n) o fl ks → (∀ i f, fl[i]? = some f → fs.toList[j + i]? = some f) → o + sizeF ks ≤ cs.length → fitF W ks ((cs.drop o).take (sizeF ks)) := by
        intro fl
        induction fl with
        | nil =>
          intro j o ks hf _ _
          simp only [FFn] at hf
          subst hf
          simp [fitF, sizeF]
        | cons f fl ih =>
          intro j o ks hf hget hlen
          simp only [FFn] at hf
          obtain ⟨k1, k2, rfl, ho, hc, ht, hf⟩ := hf
          have hsz := sizeF_append k1 k2
          rw [hsz] at hlen ⊢
          have hj : fs[j]? = some f := by
            have := hget 0 f rfl
            rwa [Nat.add_zero, Array.getElem?_toList] at this
          have hjl : j < xs.length := by
            rw [hxl]
            rcases Nat.lt_or_ge j fs.size with h' | h'
            · exact h'
            · rw [Array.getElem?_eq_none h'] at hj; cases hj
          have h4 := hel j f hj
          rw [ho, hc, List.getElem?_eq_getElem hjl] at h4
          have h5 := FTn.opens n ht h4 (fun v hv => hp v (List.mem_of_mem_drop (List.mem_of_mem_take hv))) (fun m hm => hw m (by
            simp only [DataW.weights, h]
            refine DataW.weights_mem_each (j := j) (t := f.type) (d := (xs[j]).1) ?_ ?_ m hm
            · simp [hj]
            · simp [hjl]))
          have h6 := ih (j + 1) (o + sizeF k1) k2 hf (fun i f' hi => by
            have := hget (i + 1) f' (by simpa using hi)
            rwa [show j + (i + 1) = j + 1 + i by omega] at this) (by omega)
          have h7 := fitF_append h5 h6
          have h8 : (cs.drop o).take (sizeF k1) ++ (cs.drop (o + sizeF k1)).take (sizeF k2) = (cs.drop o).take (sizeF k1 + sizeF k2) := by
            rw [List.take_add, List.drop_drop]
          rwa [h8] at h7
      have h4 := key fs.toList 0 0 ks h2 (fun i f hi => by simpa using hi) (by rw [hl, h1]; omega)
      rw [List.drop_zero, List.take_of_length_le (by rw [hl, h1]; omega)] at h4
      exact h4
    · rcases DataW.trod_slice h hx with ⟨rfl, _⟩ | ⟨a, l, c, elems, rest, n', _, rfl, rfl, _, hl, _, hlen, hel, _⟩
      · exact ⟨none, 0, 0, fun _ _ => 0, [], rfl, ⟨by omega, .inl ⟨rfl, rfl, rfl⟩⟩, rfl⟩
      · obtain ⟨hs, hb⟩ := hp _ List.mem_cons_self a l c rfl
        have hwt := hw ((elems.length + rest.length) * P.bytesOf e) (by simp [DataW.weights, h])
        have hrb : reachBytes = 140737488351232 := by decide
        have hle : l * P.bytesOf e ≤ (elems.length + rest.length) * P.bytesOf e := Nat.mul_le_mul_right _ (by omega)
        have each : ∀ j, j < l → ∀ q k, kl[q]? = some k → ∃ x, W.cell? ⟨a.block, a.off + (j * kl.length + q), none⟩ = some (.int k x) ∧ (Lit.int k x).wf = true := fun j hj q k hk => by
          have h4 := hel j hj
          rw [List.getElem?_eq_getElem (by omega), Option.bind_eq_some_iff] at h4
          obtain ⟨cs', h5, h6⟩ := h4
          obtain ⟨xs, m', _, _, h7, h8, h9⟩ := DataW.trod_struct he h6
          obtain ⟨f, k1, k2, k3, k4⟩ := RFn.get hr q k hk
          have k1' : fs[q]? = some f := by rwa [Array.getElem?_toList] at k1
          have hq : q < xs.length := by
            rw [h8]
            rcases Nat.lt_or_ge q fs.size with h' | h'
            · exact h'
            · rw [Array.getElem?_eq_none h'] at k1'; cases k1'
          have h10 := h9 q f k1'
          rw [k2, k4, Nat.zero_add, List.getElem?_eq_getElem hq] at h10
          obtain ⟨x, h11, _, hwf⟩ := DataW.trod_int k3 h10
          have h12 : cs'[q]? = some (.int k x) := by
            have := congrArg (·[0]?) h11
            simpa using this
          have hqz : q < P.cellsOf e := by
            rw [hc]
            rcases Nat.lt_or_ge q kl.length with h' | h'
            · exact h'
            · rw [List.getElem?_eq_none h'] at hk; cases hk
          unfold World.cells? at h5
          split at h5
          · have h13 := mapM_some_get h5 q q (by simp [hqz])
            rw [h12, addr_add hs, addr_add rfl, hc] at h13
            refine ⟨x, ?_, hwf⟩
            rw [← Nat.add_assoc]
            exact h13
          · cases h5
        have ch : ∀ j q, ∃ x, j < l → ∀ k, kl[q]? = some k → W.cell? ⟨a.block, a.off + (j * kl.length + q), none⟩ = some (.int k x) ∧ (Lit.int k x).wf = true := fun j q => by
          by_cases hj : j < l
          · cases hk : kl[q]? with
            | none => exact ⟨0, fun _ k hk' => by cases hk'⟩
            | some k =>
              obtain ⟨x, h1⟩ := each j hj q k hk
              exact ⟨x, fun _ k' hk' => by cases hk'; exact h1⟩
          · exact ⟨0, fun h => absurd h hj⟩
        refine ⟨some a, l, c, fun j q => Classical.choose (ch j q), [], rfl, ⟨by omega, .inr ⟨a.block, a.off, ?_, hb, hl, fun j hj q k hk => Classical.choose_spec (ch j q) hj k hk⟩⟩, rfl⟩
        cases a; simp only at hs; subst hs; rfl

theorem struct_placed {P : Program} {W : World} {r : Reach} {base : Nat} {t : TypeId} {fs : Array Field} {v : Value} (ht : P.underlying t = some (.struct fs)) (h : Value.okWide P W r base t v) : ∃ cs, v = .agg cs ∧ ∀ x ∈ cs.toList, placed W x := by
  unfold Value.okWide at h
  rw [ht] at h
  obtain ⟨cs, rfl, _, ts, _, _, hrow⟩ := h
  refine ⟨cs, rfl, fun x hx => ?_⟩
  obtain ⟨i, hi⟩ := List.getElem?_of_mem hx
  obtain ⟨u, _, hu⟩ := hrow i x (by simpa using hi)
  exact placed_of_okWide hu

end Go.Anv

/- A whole as an argument: its plain values, its lists in three blocks. No condition. -/
namespace Go.Anv
open Go
theorem wf8 {n : Int} (h : (Lit.int .u8 n).wf = true) : n = ((BitVec.ofInt 8 n).toNat : Int) := by
  have h0 : 0 ≤ n ∧ n ≤ 255 := by
    simp only [Lit.wf, Bool.and_eq_true, decide_eq_true_eq] at h
    exact h
  rw [BitVec.toNat_ofInt]
  omega
theorem wf32 {n : Int} (h : (Lit.int .u32 n).wf = true) : n = ((BitVec.ofInt 32 n).toNat : Int) := by
  have h0 : 0 ≤ n ∧ n ≤ 4294967295 := by
    simp only [Lit.wf, Bool.and_eq_true, decide_eq_true_eq] at h
    exact h
  rw [BitVec.toNat_ofInt]
  omega
theorem wf64 {n : Int} (h : (Lit.int .u64 n).wf = true) : n = ((BitVec.ofInt 64 n).toNat : Int) := by
  have h0 : 0 ≤ n ∧ n ≤ 18446744073709551615 := by
    simp only [Lit.wf, Bool.and_eq_true, decide_eq_true_eq] at h
    exact h
  rw [BitVec.toNat_ofInt]
  omega
theorem wfi64 {n : Int} (h : (Lit.int .i64 n).wf = true) : -9223372036854775808 ≤ n ∧ n ≤ 9223372036854775807 := by
  simp only [Lit.wf, Bool.and_eq_true, decide_eq_true_eq] at h
  exact h

/-- Where a list of bytes lies that came in. -/
structure SlAt (W : World) (p : Loc) (n cap : Nat) (q : Nat → B8) : Prop where
  le : n ≤ 140737488351232
  cp : n ≤ cap
  lt : p.b < W.heap.size ∨ p.nl = true ∧ n = 0
  nl : p.nl = true → n = 0 ∧ cap = 0
  at_ : ∀ j, j < n → W.cell? ⟨p.b, p.o + j, none⟩ = some (.int .u8 (bfun q j))

def trim (n : Nat) (q : Nat → B8) (j : Nat) : B8 := if j < n then q j else 0#8
theorem ends_trim (n : Nat) (q : Nat → B8) : ∀ j, n ≤ j → trim n q j = 0#8 := fun j h => if_neg (by omega)
/-- Nothing behind the end. -/
theorem SlAt.trim {W : World} {p : Loc} {n cap : Nat} {q : Nat → B8} (h : SlAt W p n cap q) : SlAt W p n cap (trim n q) :=
  ⟨h.le, h.cp, h.lt, h.nl, fun j hj => by rw [h.at_ j hj, bfun, bfun, Anv.trim, if_pos hj]⟩

theorem slIn_at {W : World} {a : Option Addr} {len cap : Nat} {f : Nat → Int} (h : slIn W .u8 a len cap f) : ∃ p : Loc, SlAt W p len cap (fun j => BitVec.ofInt 8 (f j)) ∧ ∀ E : Emb, ∀ b, E.f b = p → b < E.n → denV E (.gs b 0 len cap) (.slice a len cap) := by
  obtain ⟨hle, ⟨rfl, rfl, rfl⟩ | ⟨b, o, rfl, hb, hlc, hc⟩⟩ := h
  · refine ⟨⟨0, 0, true⟩, ⟨hle, Nat.le_refl _, .inr ⟨rfl, rfl⟩, fun _ => ⟨rfl, rfl⟩, fun j hj => by omega⟩, fun E b hE hb => ?_⟩
    simp only [denV, hE]
    exact ⟨hb, fun _ => ⟨trivial, trivial⟩, rfl⟩
  · refine ⟨⟨b, o, false⟩, ⟨hle, hlc, .inl hb, (fun h => by cases h), fun j hj => ?_⟩, fun E b' hE hb' => ?_⟩
    · obtain ⟨h1, h2⟩ := hc j hj
      rw [h1]
      congr 2
      exact wf8 h2
    · simp only [denV, hE]
      refine ⟨hb', (fun h => by cases h), ?_⟩
      simp [Emb.at, hE]

/-- Three lists of bytes that came in, as a small world. -/
theorem sim3 {W : World} {p0 p1 p2 : Loc} {n0 n1 n2 c0 c1 c2 : Nat} {q0 q1 q2 : Nat → B8} (h0 : SlAt W p0 n0 c0 q0) (h1 : SlAt W p1 n1 c1 q1) (h2 : SlAt W p2 n2 c2 q2) :
    Sim ⟨3, fun i => match i with | 0 => p0 | 1 => p1 | _ => p2⟩ [bblk false n0 q0 0, bblk false n1 q1 0, bblk false n2 q2 0] W := by
  have one : ∀ {E : Emb} {p : Loc} {n c : Nat} {q : Nat → B8}, SlAt W p n c q → okBlk E W p (bblk false n q 0) := fun {E p n c q} h => by
    refine ⟨?_, ⟨intsOf .u8 n (bfun q) ++ [], ⟨[], rfl, rfl⟩, fun j v hj => ?_⟩, fun h => by cases h⟩
    · rcases h.lt with h | ⟨h, h'⟩
      · exact .inl h
      · exact .inr ⟨h, by simp [sizeS, h']⟩
    · rw [List.append_nil] at hj
      have hj' : j < n := by
        rcases Nat.lt_or_ge j n with h | h
        · exact h
        · rw [List.getElem?_eq_none (by rw [length_intsOf]; exact h)] at hj; cases hj
      rw [intsOf_get hj'] at hj
      cases hj
      exact h.at_ j hj'
  refine ⟨rfl, fun i B hi => ?_, fun i j A B _ hi _ hA => ?_⟩
  · match i, hi with
    | 0, hi => simp only [List.getElem?_cons_zero, Option.some.injEq] at hi; subst hi; exact one h0
    | 1, hi => simp only [List.getElem?_cons_succ, List.getElem?_cons_zero, Option.some.injEq] at hi; subst hi; exact one h1
    | 2, hi => simp only [List.getElem?_cons_succ, List.getElem?_cons_zero, Option.some.injEq] at hi; subst hi; exact one h2
    | i + 3, hi => simp at hi
  · exfalso
    match i, hi with
    | 0, hi => simp only [List.getElem?_cons_zero, Option.some.injEq] at hi; subst hi; cases hA
    | 1, hi => simp only [List.getElem?_cons_succ, List.getElem?_cons_zero, Option.some.injEq] at hi; subst hi; cases hA
    | 2, hi => simp only [List.getElem?_cons_succ, List.getElem?_cons_zero, Option.some.injEq] at hi; subst hi; cases hA
    | i + 3, hi => simp at hi

/-- The whole that is nothing. -/
def wz : Array Value := (List.replicate 33 (Value.int .u64 0) ++ (([.int .i64 0, .bool false] : List Value) ++ (List.replicate 12 (Value.int .u64 0) ++ (List.replicate 16 (Value.int .u8 0) ++ (List.replicate 16 (Value.int .u64 0) ++ (([.bool false, .int .u64 0, .int .i64 0] : List Value) ++
  ([.slice none 0 0, .int .u32 0, .int .u64 0, .int .u64 0, .bool false, .bool false, .int .u8 0, .int .u8 0, .int .u8 0, .int .u8 0, .bool false, .slice none 0 0, .slice none 0 0, .int .i64 0, .int .i64 0] : List Value))))))).toArray
def cpuF : List FK := [.int .u64, .arr .u64 32, .int .i64, .bool, .int .u64, .int .u64, .int .u64, .int .u64, .int .u64, .int .u64, .int .u64, .int .u64, .int .u64, .int .u64, .int .u64, .int .u64, .arr .u8 16, .arr .u64 16, .bool, .int .u64, .int .i64]
def busF : List FK := [.sl .u8, .int .u32, .int .u64, .int .u64, .bool, .bool, .int .u8, .int .u8, .int .u8, .int .u8, .bool, .sl .u8, .sl .u8, .int .i64, .int .i64]

theorem intsOf_bits8 {n : Nat} {f : Nat → Int} (h : ∀ j, j < n → (Lit.int .u8 (f j)).wf = true) : intsOf .u8 n f = intsOf .u8 n (bfun fun j => BitVec.ofInt 8 (f j)) := intsOf_congr fun j hj => wf8 (h j hj)
theorem intsOf_bits64 {n : Nat} {f : Nat → Int} (h : ∀ j, j < n → (Lit.int .u64 (f j)).wf = true) : intsOf .u64 n f = intsOf .u64 n (wfun fun j => BitVec.ofInt 64 (f j)) := intsOf_congr fun j hj => wf64 (h j hj)

/-- A Cpu that came in, at the head of some cells. -/
theorem cpu_in {W : World} {r : List FK} {l : List Value} (h : fitF W (cpuF ++ r) l) : ∃ (c : CpuV) (x y : List Value), l = x ++ y ∧ (∀ E, denS E c.segs x) ∧ fitF W r y ∧ (-9223372036854775808 ≤ c.mode ∧ c.mode ≤ 9223372036854775807) ∧ (-9223372036854775808 ≤ c.rsize ∧ c.rsize ≤ 9223372036854775807) := by
  simp only [cpuF, List.cons_append, List.nil_append, fitF] at h
  obtain ⟨pc, _, rfl, wpc, x, _, rfl, wx, mode, _, rfl, wmode, wt, _, rfl, h⟩ := h
  obtain ⟨a0, _, rfl, w0, a1, _, rfl, w1, a2, _, rfl, w2, a3, _, rfl, w3, a4, _, rfl, w4, a5, _, rfl, w5, a6, _, rfl, w6, a7, _, rfl, w7, a8, _, rfl, w8, a9, _, rfl, w9, a10, _, rfl, w10, a11, _, rfl, w11, h⟩ := h
  obtain ⟨cfg, _, rfl, wc, ad, _, rfl, wa, rv, _, rfl, ra, _, rfl, wra, rs, y, rfl, wrs, h⟩ := h
  refine ⟨⟨BitVec.ofInt 64 pc, fun j => BitVec.ofInt 64 (x j), mode, wt, BitVec.ofInt 64 a0, BitVec.ofInt 64 a1, BitVec.ofInt 64 a2, BitVec.ofInt 64 a3, BitVec.ofInt 64 a4, BitVec.ofInt 64 a5, BitVec.ofInt 64 a6, BitVec.ofInt 64 a7, BitVec.ofInt 64 a8,
    BitVec.ofInt 64 a9, BitVec.ofInt 64 a10, BitVec.ofInt 64 a11, fun j => BitVec.ofInt 8 (cfg j), fun j => BitVec.ofInt 64 (ad j), rv, BitVec.ofInt 64 ra, rs⟩,
    .int .u64 pc :: (intsOf .u64 32 x ++ .int .i64 mode :: .bool wt :: .int .u64 a0 :: .int .u64 a1 :: .int .u64 a2 :: .int .u64 a3 :: .int .u64 a4 :: .int .u64 a5 :: .int .u64 a6 :: .int .u64 a7 :: .int .u64 a8 :: .int .u64 a9 :: .int .u64 a10 :: .int .u64 a11 ::
      (intsOf .u8 16 cfg ++ (intsOf .u64 16 ad ++ [.bool rv, .int .u64 ra, .int .i64 rs]))), y, by simp, fun E => ?_, h, wfi64 wmode, wfi64 wrs⟩
  rw [intsOf_bits64 wx, intsOf_bits8 wc, intsOf_bits64 wa]
  simp only [CpuV.segs, denS, denV]
  rw [← wf64 wpc, ← wf64 w0, ← wf64 w1, ← wf64 w2, ← wf64 w3, ← wf64 w4, ← wf64 w5, ← wf64 w6, ← wf64 w7, ← wf64 w8, ← wf64 w9, ← wf64 w10, ← wf64 w11, ← wf64 wra]
  exact ⟨_, _, rfl, rfl, _, rfl, _, _, rfl, rfl, _, _, rfl, rfl, _, _, rfl, rfl, _, _, rfl, rfl, _, _, rfl, rfl, _, _, rfl, rfl, _, _, rfl, rfl, _, _, rfl, rfl, _, _, rfl, rfl, _, _, rfl, rfl, _, _, rfl, rfl, _, _, rfl, rfl, _, _, rfl, rfl, _, _, rfl, rfl, _, rfl, _, rfl, _, _, rfl, rfl, _, _, rfl, rfl, _, _, rfl, rfl, rfl⟩

/-- A bus's state that came in, at the head of some cells. -/
theorem bus_in {W : World} {r : List FK} {l : List Value} (h : fitF W (busF ++ r) l) : ∃ (s : BusV) (x y : List Value) (p0 p1 p2 : Loc) (c0 c1 c2 : Nat) (q0 q1 q2 : Nat → B8), l = x ++ y ∧ SlAt W p0 s.nr c0 q0 ∧ SlAt W p1 s.ni c1 q1 ∧ SlAt W p2 s.no c2 q2 ∧
    (∀ (E : Emb) b0 b1 b2, E.f b0 = p0 → b0 < E.n → E.f b1 = p1 → b1 < E.n → E.f b2 = p2 → b2 < E.n → denS E (s.segs (.gs b0 0 s.nr c0) (.gs b1 0 s.ni c1) (.gs b2 0 s.no c2)) x) ∧ fitF W r y := by
  simp only [busF, List.cons_append, List.nil_append, fitF] at h
  obtain ⟨a0, n0, c0, f0, _, rfl, s0, ms, _, rfl, wms, cm, _, rfl, wcm, nw, _, rfl, wnw, ex, _, rfl, so, _, rfl, h⟩ := h
  obtain ⟨ie, _, rfl, wie, lc, _, rfl, wlc, mc, _, rfl, wmc, sc, _, rfl, wsc, ov, _, rfl, h⟩ := h
  obtain ⟨a1, n1, c1, f1, _, rfl, s1, a2, n2, c2, f2, _, rfl, s2, off, _, rfl, woff, code, y, rfl, wcode, h⟩ := h
  obtain ⟨p0, k0, d0⟩ := slIn_at s0
  obtain ⟨p1, k1, d1⟩ := slIn_at s1
  obtain ⟨p2, k2, d2⟩ := slIn_at s2
  refine ⟨⟨n0, BitVec.ofInt 32 ms, BitVec.ofInt 64 cm, BitVec.ofInt 64 nw, ex, so, BitVec.ofInt 8 ie, BitVec.ofInt 8 lc, BitVec.ofInt 8 mc, BitVec.ofInt 8 sc, ov, n1, n2, off, code⟩,
    [.slice a0 n0 c0, .int .u32 ms, .int .u64 cm, .int .u64 nw, .bool ex, .bool so, .int .u8 ie, .int .u8 lc, .int .u8 mc, .int .u8 sc, .bool ov, .slice a1 n1 c1, .slice a2 n2 c2, .int .i64 off, .int .i64 code], y, p0, p1, p2, c0, c1, c2, _, _, _, rfl, k0, k1, k2, fun E b0 b1 b2 e0 l0 e1 l1 e2 l2 => ?_, h⟩
  simp only [BusV.segs, denS]
  have i0 := d0 E b0 e0 l0
  have i1 := d1 E b1 e1 l1
  have i2 := d2 E b2 e2 l2
  refine ⟨_, _, rfl, i0, _, _, rfl, ?_, _, _, rfl, ?_, _, _, rfl, ?_, _, _, rfl, rfl, _, _, rfl, rfl, _, _, rfl, ?_, _, _, rfl, ?_, _, _, rfl, ?_, _, _, rfl, ?_, _, _, rfl, rfl, _, _, rfl, i1, _, _, rfl, i2, _, _, rfl, rfl, _, _, rfl, rfl, rfl⟩ <;> simp only [denV]
  · rw [← wf32 wms]
  · rw [← wf64 wcm]
  · rw [← wf64 wnw]
  · rw [← wf8 wie]
  · rw [← wf8 wlc]
  · rw [← wf8 wmc]
  · rw [← wf8 wsc]
end Go.Anv

/- The call's start where one table is listed (arith.plain): what lies there. Plain theorems. -/
namespace Go.Proofs.YtdlpmbghocabbaaGreatDoor
open Go Go.Anv Go.ChangeShapes Go.WideShapes Go.ChangeAt Go.RowKit
/-- As the kit's 'returnsInHanded_of_change_and', the world's shape handed on too. -/
theorem returns_shaped {H : Type} {enc : TypeId × Value → H} {a : Assume} {C : Checked} {os : Os} {f : FuncId} {fn : Func} {s : ChangeSpec} {conds : List PathCond} {apart fresh handsOn again : Bool} {X : World → Array Value → Prop}
    (hX : ∀ (w w' : World) (args : Array Value), w.heap = w'.heap → X w args → X w' args)
    (own : ownKnob C.prog.godebug = none) (started : os.Started) (noInit : C.prog.inits.idxOf? f = none) (hfn : C.prog.funcs[f]? = some fn)
    (witness : ∃ (w : World) (tape : Tape) (i : Input), w.os = os ∧ (w.forCall tape i).Shaped C.prog ∧ i.vars = [] ∧ Input.okWide C.prog (w.forCall tape i) .any w.heap.size f i ∧
      ((s.pre enc C.prog fn conds apart (w.forCall tape i).memory i.args ∧ X (w.forCall tape i).memory i.args) ∧ sizedMet enc C.prog fn (OpenSpec.ofChange s) apart (w.forCall tape i).memory i.args) ∧ a.holds C.prog (lone (Frame.enter C.prog f i.args .normal) [] (w.forCall tape i)))
    (contract : ∀ (W : World) (base : Nat) (args : Array Value) (ds gs : List (DataW H)) (before : List MemPlace), W.ShapedOpen C.prog →
      (∀ (j : Nat) t v, fn.params[j]? = some t → args[j]? = some v → Value.okWide C.prog W .any base t v) →
      DataW.Whole enc C.prog fn.params.toList s.vars apart W args.toList ds gs before →
      (DataW.weightsEach C.prog (fn.params.toList ++ s.plain.varTypes C.prog) (ds ++ gs)).all (· ≤ reachBytes) = true → X W args →
      Calls C.prog f args W fun e W' => ∃ v, e = .returned v ∧ s.post enc C.prog fn apart fresh handsOn again W args v W') :
    ReturnsInHanded a C os f .any (fun w args => (s.pre enc C.prog fn conds apart w args ∧ X w args) ∧ sizedMet enc C.prog fn (OpenSpec.ofChange s) apart w args) (s.post enc C.prog fn apart fresh handsOn again) := by
  refine returnsInHanded_of_calls own started noInit witness ?_
  intro w tape i _ hsh _ hok hpre _
  obtain ⟨_, _, _, fn', hfn', _, _, _, _, hval⟩ := hok
  have e : fn' = fn := Option.some.inj (hfn'.symm.trans hfn)
  subst e
  obtain ⟨⟨⟨ds, gs, before, hw, hc⟩, hx⟩, hz⟩ := hpre
  have hw' := DataW.Whole.of_heap (w' := w.forCall tape i) (by rfl) hw
  refine (contract (w.forCall tape i) w.heap.size i.args ds gs before hsh hval hw' (hz.weights hw) (hX _ _ _ (by rfl) hx)).mono fun e W' ⟨v, he, hp⟩ => ?_
  subst he
  exact ChangeSpec.post_blind hp
/-- The listed variable. -/
abbrev laidD : List (String × DataW Unit) := [("anvil/arith.plain", Rows.laid_anvil_arith_plain)]
def plainT : List Int := [0, 0, 0, 0, 0, 0, 0, 0, 0, 0, 0, 0, 0, 0, 0, 0, 0, 0, 0, 0, 0, 0, 35, 38, 39, 40, 43, 44, 37, 41, 42, 45, 47, 48, 49, 0, 0, 0, 0, 0, 0, 0, 0, 0, 0, 0, 0, 0, 0, 0, 0, 0, 0, 0, 0, 0, 0, 0, 0, 0, 0, 0, 0, 0, 0, 0, 0, 0, 0, 0, 0, 0, 0, 0, 0, 0, 0, 0, 0, 0, 0, 0, 0, 0, 0, 0, 0, 0, 0, 0, 0, 0, 0, 0, 0, 0, 0]
theorem plain_cells {W : World} (h : laidMetH Tryz.prog laidD W) : ∀ o, o < 97 → W.cell? ⟨0, o, none⟩ = some (.int .i64 (plainT.getD o 0)) := by
  rw [MakeChecks.laidMetH_plain _ _ _ (by kernel_rfl)] at h
  have a := Go.Lib.laidMet.reads h (.head _)
  have ea : (Rows.laid_anvil_arith_plain : DataW Unit) = Go.Lib.tabData .i64 plainT := by kernel_rfl
  rw [ea] at a
  obtain ⟨g, t, cs, fuel, p, hg, hty, hvar, hd⟩ := a
  obtain rfl := Option.some.inj ((show Tryz.prog.globalNamed "anvil/arith.plain" = some 0 by kernel_rfl).symm.trans hg)
  obtain rfl := Option.some.inj ((show (Tryz.prog.globals[0]?).map (·.type) = some 195 by kernel_rfl).symm.trans hty)
  have hcs := Go.Lib.cells_of_tab Tryz.underlying195 Tryz.underlying3 (by kernel_rfl) (by kernel_rfl) hd
  intro o ho
  have := World.var?_cell hg hvar o
  rw [this, ← Array.getElem?_toList, hcs]
  rw [List.getElem?_map, List.getD_eq_getElem?_getD]
  have hl : plainT.length = 97 := by decide
  rw [List.getElem?_eq_getElem (by omega)]
  rfl
theorem tab_ok {E : Emb} {h : List Blk} {W : World} (hr : roAll h) (hl : laidMetH Tryz.prog laidD W) : TabOk E h W := by
  have hT := plain_cells hl
  have nm : ∀ b o, ¬ mutAt E h b o := by
    rintro b o ⟨i, B, hi, hB, _⟩
    rw [roAll_get hr i B hi] at hB
    cases hB
  intro b o P hP
  unfold seatG at hP
  split at hP
  · rename_i h0
    obtain ⟨rfl, h1⟩ := h0
    cases hP
    have hc := hT o h1
    refine ⟨⟨_, hc, rfl⟩, ?_, nm _ _⟩
    rcases Nat.lt_or_ge 0 W.heap.size with h | h
    · exact h
    · rw [show W.cell? ⟨0, o, none⟩ = none from by simp [World.cell?, Array.getElem?_eq_none h]] at hc; cases hc
  · cases hP
end Go.Proofs.YtdlpmbghocabbaaGreatDoor

/- What the arguments of the statements of this seat are made of. Printed by gen_ft.py; no condition. -/
namespace Go.Proofs.YtdlpmbghocabbaaGreatDoor
open Go Go.Anv
set_option maxRecDepth 100000
theorem ft35 (n : Nat) : FTn Tryz.prog (n + 2) 35 [.sl .u8, .int .u32, .int .u64, .int .u64, .bool, .bool, .int .u8, .int .u8, .int .u8, .int .u8, .bool, .sl .u8, .sl .u8, .int .i64, .int .i64] := .inr (.inr (.inr (.inr (.inl ⟨_, Tryz.underlying35, by kernel_rfl, ⟨[.sl .u8], _, rfl, rfl, by kernel_rfl, .inr (.inr (.inr (.inl ⟨_, _, Tryz.underlying32, Tryz.underlying5, by kernel_rfl, of_decide_eq_true (by kernel_rfl), rfl⟩))), ⟨[.int .u32], _, rfl, rfl, by kernel_rfl, .inl ⟨_, Tryz.underlying33, rfl⟩, ⟨[.int .u64], _, rfl, rfl, by kernel_rfl, .inl ⟨_, Tryz.underlying22, rfl⟩, ⟨[.int .u64], _, rfl, rfl, by kernel_rfl, .inl ⟨_, Tryz.underlying22, rfl⟩, ⟨[.bool], _, rfl, rfl, by kernel_rfl, .inr (.inl ⟨Tryz.underlying4, rfl⟩), ⟨[.bool], _, rfl, rfl, by kernel_rfl, .inr (.inl ⟨Tryz.underlying4, rfl⟩), ⟨[.int .u8], _, rfl, rfl, by kernel_rfl, .inl ⟨_, Tryz.underlying5, rfl⟩, ⟨[.int .u8], _, rfl, rfl, by kernel_rfl, .inl ⟨_, Tryz.underlying5, rfl⟩, ⟨[.int .u8], _, rfl, rfl, by kernel_rfl, .inl ⟨_, Tryz.underlying5, rfl⟩, ⟨[.int .u8], _, rfl, rfl, by kernel_rfl, .inl ⟨_, Tryz.underlying5, rfl⟩, ⟨[.bool], _, rfl, rfl, by kernel_rfl, .inr (.inl ⟨Tryz.underlying4, rfl⟩), ⟨[.sl .u8], _, rfl, rfl, by kernel_rfl, .inr (.inr (.inr (.inl ⟨_, _, Tryz.underlying32, Tryz.underlying5, by kernel_rfl, of_decide_eq_true (by kernel_rfl), rfl⟩))), ⟨[.sl .u8], _, rfl, rfl, by kernel_rfl, .inr (.inr (.inr (.inl ⟨_, _, Tryz.underlying32, Tryz.underlying5, by kernel_rfl, of_decide_eq_true (by kernel_rfl), rfl⟩))), ⟨[.int .i64], _, rfl, rfl, by kernel_rfl, .inl ⟨_, Tryz.underlying3, rfl⟩, ⟨[.int .i64], _, rfl, rfl, by kernel_rfl, .inl ⟨_, Tryz.underlying3, rfl⟩, rfl⟩⟩⟩⟩⟩⟩⟩⟩⟩⟩⟩⟩⟩⟩⟩⟩))))
theorem ft29 (n : Nat) : FTn Tryz.prog (n + 2) 29 [.bool, .int .u64, .int .i64] := .inr (.inr (.inr (.inr (.inl ⟨_, Tryz.underlying29, by kernel_rfl, ⟨[.bool], _, rfl, rfl, by kernel_rfl, .inr (.inl ⟨Tryz.underlying4, rfl⟩), ⟨[.int .u64], _, rfl, rfl, by kernel_rfl, .inl ⟨_, Tryz.underlying22, rfl⟩, ⟨[.int .i64], _, rfl, rfl, by kernel_rfl, .inl ⟨_, Tryz.underlying3, rfl⟩, rfl⟩⟩⟩⟩))))
theorem ft27 (n : Nat) : FTn Tryz.prog (n + 2) 27 [.arr .u8 16, .arr .u64 16] := .inr (.inr (.inr (.inr (.inl ⟨_, Tryz.underlying27, by kernel_rfl, ⟨[.arr .u8 16], _, rfl, rfl, by kernel_rfl, .inr (.inr (.inl ⟨_, _, _, Tryz.underlying24, Tryz.underlying5, by kernel_rfl, by kernel_rfl, rfl⟩)), ⟨[.arr .u64 16], _, rfl, rfl, by kernel_rfl, .inr (.inr (.inl ⟨_, _, _, Tryz.underlying25, Tryz.underlying22, by kernel_rfl, by kernel_rfl, rfl⟩)), rfl⟩⟩⟩))))
theorem ft31 (n : Nat) : FTn Tryz.prog (n + 3) 31 [.int .u64, .arr .u64 32, .int .i64, .bool, .int .u64, .int .u64, .int .u64, .int .u64, .int .u64, .int .u64, .int .u64, .int .u64, .int .u64, .int .u64, .int .u64, .int .u64, .arr .u8 16, .arr .u64 16, .bool, .int .u64, .int .i64] := .inr (.inr (.inr (.inr (.inl ⟨_, Tryz.underlying31, by kernel_rfl, ⟨[.int .u64], _, rfl, rfl, by kernel_rfl, .inl ⟨_, Tryz.underlying22, rfl⟩, ⟨[.arr .u64 32], _, rfl, rfl, by kernel_rfl, .inr (.inr (.inl ⟨_, _, _, Tryz.underlying23, Tryz.underlying22, by kernel_rfl, by kernel_rfl, rfl⟩)), ⟨[.int .i64], _, rfl, rfl, by kernel_rfl, .inl ⟨_, Tryz.underlying3, rfl⟩, ⟨[.bool], _, rfl, rfl, by kernel_rfl, .inr (.inl ⟨Tryz.underlying4, rfl⟩), ⟨[.int .u64], _, rfl, rfl, by kernel_rfl, .inl ⟨_, Tryz.underlying22, rfl⟩, ⟨[.int .u64], _, rfl, rfl, by kernel_rfl, .inl ⟨_, Tryz.underlying22, rfl⟩, ⟨[.int .u64], _, rfl, rfl, by kernel_rfl, .inl ⟨_, Tryz.underlying22, rfl⟩, ⟨[.int .u64], _, rfl, rfl, by kernel_rfl, .inl ⟨_, Tryz.underlying22, rfl⟩, ⟨[.int .u64], _, rfl, rfl, by kernel_rfl, .inl ⟨_, Tryz.underlying22, rfl⟩, ⟨[.int .u64], _, rfl, rfl, by kernel_rfl, .inl ⟨_, Tryz.underlying22, rfl⟩, ⟨[.int .u64], _, rfl, rfl, by kernel_rfl, .inl ⟨_, Tryz.underlying22, rfl⟩, ⟨[.int .u64], _, rfl, rfl, by kernel_rfl, .inl ⟨_, Tryz.underlying22, rfl⟩, ⟨[.int .u64], _, rfl, rfl, by kernel_rfl, .inl ⟨_, Tryz.underlying22, rfl⟩, ⟨[.int .u64], _, rfl, rfl, by kernel_rfl, .inl ⟨_, Tryz.underlying22, rfl⟩, ⟨[.int .u64], _, rfl, rfl, by kernel_rfl, .inl ⟨_, Tryz.underlying22, rfl⟩, ⟨[.int .u64], _, rfl, rfl, by kernel_rfl, .inl ⟨_, Tryz.underlying22, rfl⟩, ⟨[.arr .u8 16, .arr .u64 16], _, rfl, rfl, by kernel_rfl, ft27 (n + 0), ⟨[.bool, .int .u64, .int .i64], _, rfl, rfl, by kernel_rfl, ft29 (n + 0), rfl⟩⟩⟩⟩⟩⟩⟩⟩⟩⟩⟩⟩⟩⟩⟩⟩⟩⟩⟩))))
theorem ft51 (n : Nat) : FTn Tryz.prog (n + 4) 51 [.int .u64, .arr .u64 32, .int .i64, .bool, .int .u64, .int .u64, .int .u64, .int .u64, .int .u64, .int .u64, .int .u64, .int .u64, .int .u64, .int .u64, .int .u64, .int .u64, .arr .u8 16, .arr .u64 16, .bool, .int .u64, .int .i64, .sl .u8, .int .u32, .int .u64, .int .u64, .bool, .bool, .int .u8, .int .u8, .int .u8, .int .u8, .bool, .sl .u8, .sl .u8, .int .i64, .int .i64] := .inr (.inr (.inr (.inr (.inl ⟨_, Tryz.underlying51, by kernel_rfl, ⟨[.int .u64, .arr .u64 32, .int .i64, .bool, .int .u64, .int .u64, .int .u64, .int .u64, .int .u64, .int .u64, .int .u64, .int .u64, .int .u64, .int .u64, .int .u64, .int .u64, .arr .u8 16, .arr .u64 16, .bool, .int .u64, .int .i64], _, rfl, rfl, by kernel_rfl, ft31 (n + 0), ⟨[.sl .u8, .int .u32, .int .u64, .int .u64, .bool, .bool, .int .u8, .int .u8, .int .u8, .int .u8, .bool, .sl .u8, .sl .u8, .int .i64, .int .i64], _, rfl, rfl, by kernel_rfl, ft35 (n + 1), rfl⟩⟩⟩))))
end Go.Proofs.YtdlpmbghocabbaaGreatDoor

/- Laws about snapshots: Load of what Save makes, as a call; the document's question whether a whole can be. Contracts of functions. -/
namespace Go.Anv
open Go
def cpuEq (c d : CpuV) : Bool := match eqSeg c.segs d.segs with | some b => b | none => false
theorem cpuEq_same {c d : CpuV} (h : CpuSame c d) : cpuEq c d = true := (cpu_eq c d).2 h
theorem cpuEq_refl (c : CpuV) : cpuEq c c = true := cpuEq_same (CpuSame.refl c)
theorem snap_bounds (cp : CpuV) (s : BusV) (ram inp out : Nat → B8) (hs : s.can = true) : 569 ≤ (snap cp s ram inp out).length ∧ (snap cp s ram inp out).length ≤ 72000 := by
  have P : Has (fun j => (snap cp s ram inp out).getD j 0#8) 0 (snap cp s ram inp out) := fun j hj => by rw [Nat.zero_add]
  obtain ⟨a1, a2, _⟩ := snap_load cp s ram inp out hs (fun j => (snap cp s ram inp out).getD j 0#8) _ rfl P
  refine ⟨?_, a2⟩
  rw [snap_body]
  unfold sumOn bodyL
  simp only [List.length_append, le_len, cpuB_len, devB_len]
  show 569 ≤ 8 + _ + _
  omega
end Go.Anv
namespace Go.Proofs.YtdlpmbghocabbaaGreatDoor
open Go Go.Anv
/-- Load of what Save makes. -/
theorem loadS (cp : CpuV) (s : BusV) (ram inp out : Nat → B8) (hs : s.can = true) (c' : Nat) (hc : (snap cp s ram inp out).length ≤ c') :
    Does TB 19 [.s (.gs 0 0 (snap cp s ram inp out).length c')] [lb (snap cp s ram inp out) c']
    (fun v h' => ∃ cr ci co, (s.nr ≤ cr ∧ s.ni ≤ ci ∧ s.no ≤ co) ∧ v = .tuple [.agg (wsegs cp.proper s (.gs 1 0 s.nr cr) (.gs 2 0 s.ni ci) (.gs 3 0 s.no co)), .s (.int .i64 0)] ∧ h' = [lb (snap cp s ram inp out) c', bblk true s.nr ram (cr - s.nr), bblk true s.ni inp (ci - s.ni), bblk true s.no out (co - s.no)]) := by
  have L := (snap_bounds cp s ram inp out hs).2
  generalize hS : snap cp s ram inp out = S at L hc ⊢
  have P : Has (fun j => S.getD j 0#8) 0 S := fun j hj => by rw [Nat.zero_add]
  obtain ⟨a1, a2, ⟨mem, a3, a4⟩, a5, a6, a7, a8, a9⟩ := snap_load cp s ram inp out hs (fun j => S.getD j 0#8) S.length (by rw [hS]) (by rw [hS]; exact P)
  refine (load_spec true S.length c' S.length (c' - S.length) (bf S) (fun j => S.getD j 0#8) hc (Nat.le_refl _) (by omega) (fun j _ => rfl)).res ?_
  rintro v h' (⟨h1, _⟩ | ⟨_, cr, ci, co, hb, rfl, rfl⟩)
  · rw [a3] at h1; exact absurd rfl h1
  rw [a6, a3]
  rw [a6] at hb
  refine ⟨_, _, ?_, ?_, cr, ci, co, hb, rfl, rfl⟩
  · refine ⟨?_, eqvE_refl _, trivial⟩
    exact eqvS_append a5.eqv (eqvS_refl _)
  · refine ⟨eqvB_refl _, ⟨rfl, rfl, ⟨rfl, rfl, fun j hj => ?_⟩, trivial⟩, ⟨rfl, rfl, ⟨rfl, rfl, fun j hj => ?_⟩, trivial⟩, ⟨rfl, rfl, ⟨rfl, rfl, fun j hj => ?_⟩, trivial⟩, trivial⟩
    · simp only [bfun]; rw [a4 j hj]
    · simp only [bfun]; rw [a7 j hj]
    · simp only [bfun]; rw [a8 j hj]
set_option maxRecDepth 100000 in
theorem can16_spec (c : CpuV) (s : BusV) (l : Lists) (cr ci co : Nat) (hni : s.ni < 2 ^ 62) (hno : s.no < 2 ^ 62) (hnr : s.nr < 2 ^ 62) :
    Does TB 16 [.agg (wsegs c s (.gs 0 0 s.nr cr) (.gs 1 0 s.ni ci) (.gs 2 0 s.no co))] (l.blks s) (fun v h' => v = .s (.bool s.can) ∧ h' = l.blks s) := by
  refine fnX_does TB Tryz.func16 rfl (by decide) (fun O on hO => ?_)
  repeat (refine need_intro (by first | exact fun h => h | exact nt | exact an2 | exact an3 | rfl | (simp; done) | fail) ?_)
  refine Does.atc (canBe_spec s l cr ci co hni hno hnr) [0, 1, 2] rfl ⟨rfl, rfl, rfl, trivial⟩ (by decide) ?_
  repeat (refine need_intro (by first | exact fun h => h | exact nt | exact an2 | exact an3 | rfl | (simp; done) | fail) ?_)
  exact Ends.ro (H := l.blks s) rfl rfl rfl
theorem save_yes (cp : CpuV) (s : BusV) (ram inp out : Nat → B8) (sr si so cr ci co : Nat) (hcr : s.nr ≤ cr) (hs : s.can = true) :
    Does TB 14 [.agg (wsegs cp s (.gs 0 0 s.nr cr) (.gs 1 0 s.ni ci) (.gs 2 0 s.no co))] [bblk true s.nr ram sr, bblk true s.ni inp si, bblk true s.no out so]
      (fun v h' => ∃ c', (snap cp s ram inp out).length ≤ c' ∧ v = .tuple [.s (.gs 3 0 (snap cp s ram inp out).length c'), .s (.int .i64 0)] ∧ h' = [bblk true s.nr ram sr, bblk true s.ni inp si, bblk true s.no out so, lb (snap cp s ram inp out) c']) := by
  obtain ⟨b1, b2, b3⟩ := can_bounds hs
  refine (save_spec cp s ⟨true, sr, ram, true, si, inp, true, so, out⟩ cr ci co (by omega) (by omega) (by omega) hcr).mono ?_
  intro v h' hq
  unfold Saved at hq
  rw [hs] at hq
  obtain ⟨c', h1, h2, h3, h4⟩ := hq
  exact ⟨c', h1, h3, h4⟩
theorem save_no (cp : CpuV) (s : BusV) (l : Lists) (cr ci co : Nat) (hni : s.ni < 2 ^ 62) (hno : s.no < 2 ^ 62) (hnr : s.nr < 2 ^ 62) (hcr : s.nr ≤ cr) (hs : s.can = false) :
    Does TB 14 [.agg (wsegs cp s (.gs 0 0 s.nr cr) (.gs 1 0 s.ni ci) (.gs 2 0 s.no co))] (l.blks s) (fun v h' => v = .tuple [.s .nilslice, .s (.int .i64 162)] ∧ h' = l.blks s) := by
  refine (save_spec cp s l cr ci co hni hno hnr hcr).mono ?_
  intro v h' hq
  unfold Saved at hq
  rw [hs] at hq
  exact hq
theorem check_no (c : CpuV) (s : BusV) (l : Lists) (cr ci co : Nat) (hni : s.ni < 2 ^ 62) (hno : s.no < 2 ^ 62) (hnr : s.nr < 2 ^ 62) (hs : s.can = false) :
    Does TB 18 [.agg (wsegs c s (.gs 0 0 s.nr cr) (.gs 1 0 s.ni ci) (.gs 2 0 s.no co))] (l.blks s) (fun v h' => v = .s (.int .i64 162) ∧ h' = l.blks s) := by
  have := check_spec c s l cr ci co hni hno hnr
  rw [hs] at this
  exact this
/-- Three lists, as a twin has them. -/
def twinL (s : BusV) (l : Lists) (c3 c4 c5 : Nat) : Lists := ⟨true, c3 - s.nr, l.ram, true, c4 - s.ni, l.inp, true, c5 - s.no, l.out⟩
/-- Two buses that are alike, in six blocks. -/
theorem busesT (s : BusV) (ram inp out : Nat → B8) (m1 m2 m3 m4 m5 m6 : Bool) (s1 s2 s3 s4 s5 s6 cr ci co cr' ci' co' : Nat) :
    Does TB 20 [.agg (s.segs (.gs 0 0 s.nr cr) (.gs 1 0 s.ni ci) (.gs 2 0 s.no co)), .agg (s.segs (.gs 3 0 s.nr cr') (.gs 4 0 s.ni ci') (.gs 5 0 s.no co'))] [bblk m1 s.nr ram s1, bblk m2 s.ni inp s2, bblk m3 s.no out s3, bblk m4 s.nr ram s4, bblk m5 s.ni inp s5, bblk m6 s.no out s6]
      (fun v h' => v = .s (.bool true) ∧ h' = [bblk m1 s.nr ram s1, bblk m2 s.ni inp s2, bblk m3 s.no out s3, bblk m4 s.nr ram s4, bblk m5 s.ni inp s5, bblk m6 s.no out s6]) :=
  buses_spec s ⟨true, 0, ram, true, 0, inp, true, 0, out⟩ ⟨m1, s.nr, bfun ram, s1, Nat.le_refl _, fun _ _ => rfl⟩ ⟨m4, s.nr, bfun ram, s4, Nat.le_refl _, fun _ _ => rfl⟩ ⟨m2, s.ni, bfun inp, s2, Nat.le_refl _, fun _ _ => rfl⟩ ⟨m5, s.ni, bfun inp, s5, Nat.le_refl _, fun _ _ => rfl⟩ ⟨m3, s.no, bfun out, s3, Nat.le_refl _, fun _ _ => rfl⟩ ⟨m6, s.no, bfun out, s6, Nat.le_refl _, fun _ _ => rfl⟩ cr ci co cr' ci' co'
end Go.Proofs.YtdlpmbghocabbaaGreatDoor
