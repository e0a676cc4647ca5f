import Derived.Test.YtghcdkpgcanpgaaG5
namespace Go.Proofs.Ytghcdkpgcanpgaa
open Go Go.Anv
set_option maxRecDepth 100000 in
theorem pack_long (m : Bool) (n c sp : Nat) (f : Nat → Int) (hn : 1000 < n) :
    Does TB 10 [.s (.gs 0 0 n c)] [.cells m [.ints .u8 n f] sp] (fun v h' => v = .tuple [.s .nilslice, .s (.int .i64 3)] ∧ h' = [.cells m [.ints .u8 n f] sp]) := by
  refine fnX_does TB Try.func10 rfl (by decide) (fun O on hO => ?_)
  refine ifB_intro (fun h1 => ?_) (fun h1 => ?_)
  · exact ⟨_, _, [0], ⟨rfl, rfl⟩, by decide, ⟨rfl, trivial⟩, eqvE_refl _, ⟨⟨_, rfl, eqvB_refl _⟩, trivial⟩⟩
  · exfalso
    clear hO on
    have h2 : ¬ (1000 : Int) < n := by simpa using h1
    omega
theorem rpack_long (m : Bool) (n c sp : Nat) (f : Nat → Int) (hn : 1000 < n) :
    Does TB 11 [.s (.gs 0 0 n c)] [.cells m [.ints .u8 n f] sp] (fun v h' => v = .tuple [.s .nilslice, .s (.int .i64 3)] ∧ h' = [.cells m [.ints .u8 n f] sp]) := by
  refine fnX_does TB Try.func11 rfl (by decide) (fun O on hO => ?_)
  refine ifB_intro (fun h1 => ?_) (fun h1 => ?_)
  · exact ⟨_, _, [0], ⟨rfl, rfl⟩, by decide, ⟨rfl, trivial⟩, eqvE_refl _, ⟨⟨_, rfl, eqvB_refl _⟩, trivial⟩⟩
  · exfalso
    clear hO on
    have h2 : ¬ (1000 : Int) < n := by simpa using h1
    omega
theorem rpack_spec (m : Bool) (n c sp : Nat) (f : Nat → Int) (p : Nat → B8) (hn : n ≤ 1000) (hp : ∀ j, j < n → f j = (p j).toNat) :
    Does TB 11 [.s (.gs 0 0 n c)] [.cells m [.ints .u8 n f] sp] (fun v h' => ∃ cap, (packetN p n).length ≤ cap ∧ v = .tuple [.s (.gs 1 0 (packetN p n).length cap), .s (.int .i64 0)] ∧
      h' = [.cells m [.ints .u8 n f] sp, .cells true [.ints .u8 (packetN p n).length (bf (packetN p n))] (cap - (packetN p n).length)]) := by
  refine fnX_does TB Try.func11 rfl (by decide) (fun O on hO => ?_)
  refine ifB_intro (fun h1 => ?_) (fun h1 => ?_)
  · exfalso
    clear hO on
    have h2 : (1000 : Int) < n := by simpa using h1
    omega
  · refine (packet_spec m n c sp f p hn hp).mono ?_
    rintro v h' ⟨cap, hc, rfl, rfl⟩
    exact ⟨_, _, [0, 1], ⟨cap, hc, rfl, rfl⟩, by decide, ⟨rfl, trivial⟩, eqvE_refl _, ⟨⟨_, rfl, eqvB_refl _⟩, ⟨_, rfl, eqvB_refl _⟩, trivial⟩⟩
theorem beq_bytes (s : ByteArray) : (s == s) = true := by
  have h := beq_toListBytes s s
  simpa using h.symm
theorem shf_zero (f : Nat → Int) : shf 0 f = f := by funext j; unfold shf; rw [Nat.zero_add]
set_option maxRecDepth 100000 in
theorem law_spec (n c : Nat) (f : Nat → Int) (p : Nat → B8) (hn : n ≤ 140737488355328) (hp : ∀ j, j < n → f j = (p j).toNat) :
    Does TB 4 [.s (.gs 0 0 n c)] [.cells false [.ints .u8 n f] 0] (fun v h' => v = .s (.bool true) ∧ h' = [.cells false [.ints .u8 n f] 0]) := by
  refine fnX_does TB Try.func4 rfl (by decide) (fun O on hO => ?_)
  refine need_intro ⟨by show 0 + n ≤ n; omega, room5 _ (by show n ≤ _; omega)⟩ ?_
  intro c1 hc1
  have hc1 : n ≤ c1 := hc1
  by_cases hl : n ≤ 1000
  · refine Does.at (pack_spec true n c1 ((c1 - n) * 1) (shf 0 f) p hl (fun j hj => by rw [shf_zero]; exact hp j hj)) [1] rfl ⟨rfl, trivial⟩ (by decide) ?_ ?_
    · rintro v h' ⟨cap, _, _, rfl⟩
      exact ⟨.inl rfl, .inl rfl, trivial⟩
    · rintro v h' ⟨cap, hcap, rfl, rfl⟩
      refine Does.at (rpack_spec false n c 0 f p hl hp) [0] rfl ⟨rfl, trivial⟩ (by decide) ?_ ?_
      · rintro v h' ⟨cap, _, _, rfl⟩
        exact ⟨.inr (.inr rfl), .inl rfl, trivial⟩
      · rintro v h' ⟨cap2, hcap2, rfl, rfl⟩
        refine need_intro ?_ ?_
        · show 0 + (packetN p n).length ≤ (packetN p n).length; omega
        refine need_intro ?_ ?_
        · show 0 + (packetN p n).length ≤ (packetN p n).length; omega
        repeat (refine need_intro (by first | exact fun h => h | (intro _; show 0 + n ≤ n; omega)) ?_)
        refine ⟨.s (.bool true), _, [0], ⟨rfl, rfl⟩, by decide, ⟨rfl, trivial⟩, ?_, ⟨⟨_, rfl, eqvB_refl _⟩, trivial⟩⟩
        show (bif bif (bytesOf _ _ == bytesOf _ _) then ((_ : Int) == _) else false then (bytesOf _ _ == bytesOf _ _) else false) = true
        rw [beq_bytes]
        simp only [shf_zero]
        rw [beq_bytes]
        rfl
  · refine Does.at (pack_long true n c1 ((c1 - n) * 1) (shf 0 f) (by omega)) [1] rfl ⟨rfl, trivial⟩ (by decide) ?_ ?_
    · rintro v h' ⟨_, rfl⟩
      exact ⟨.inl rfl, trivial⟩
    · rintro v h' ⟨rfl, rfl⟩
      refine Does.at (rpack_long false n c 0 f (by omega)) [0] rfl ⟨rfl, trivial⟩ (by decide) ?_ ?_
      · rintro v h' ⟨_, rfl⟩
        exact ⟨.inr (.inr rfl), trivial⟩
      · rintro v h' ⟨rfl, rfl⟩
        refine need_intro ⟨trivial, rfl⟩ ?_
        refine need_intro ⟨trivial, rfl⟩ ?_
        repeat (refine need_intro (by first | exact fun h => h | (intro _; show 0 + n ≤ n; omega)) ?_)
        refine ⟨.s (.bool true), _, [0], ⟨rfl, rfl⟩, by decide, ⟨rfl, trivial⟩, ?_, ⟨⟨_, rfl, eqvB_refl _⟩, trivial⟩⟩
        show (bif bif (_ == _) then ((_ : Int) == _) else false then (bytesOf _ _ == bytesOf _ _) else false) = true
        rw [beq_bytes]
        simp only [shf_zero]
        rw [beq_bytes]
        rfl
end Go.Proofs.Ytghcdkpgcanpgaa
