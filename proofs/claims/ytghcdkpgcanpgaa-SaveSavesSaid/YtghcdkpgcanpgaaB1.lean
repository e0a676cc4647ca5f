/- The bus: its block; the lock of its console. No condition: contracts of functions. -/
import Derived.Test.YtghcdkpgcanpgaaT
import Derived.Test.YtghcdkpgcanpgaaM1
import Derived.Test.YtghcdkpgcanpgaaE13
import Derived.Laws.Externs
import Derived.KernelRfl
namespace Go.Anv
open Go
theorem length_updB : ∀ (h : List Blk) (b : Nat) (B : Blk), (updB h b B).length = h.length
  | [], _, _ => rfl
  | _ :: _, 0, _ => rfl
  | _ :: r, b + 1, B => by simp [updB, length_updB r b B]

theorem nthB_updB : ∀ {h : List Blk} {b : Nat} {A B : Blk}, nthB h b = some A → nthB (updB h b B) b = some B
  | [], _, _, _, h => by simp [nthB] at h
  | _ :: _, 0, _, _, _ => rfl
  | _ :: r, b + 1, _, _, h => by simp only [nthB, updB] at h ⊢; exact nthB_updB h

theorem getS_setS : ∀ {cs cs' : List Seg} {o : Nat} {e : SV}, setS cs o e = some cs' → getS cs' o = some e
  | [], _, _, _, h => by simp [setS] at h
  | .one _ :: r, _, 0, e, h => by simp only [setS, Option.some.injEq] at h; subst h; rfl
  | .one v :: r, _, o + 1, e, h => by
    simp only [setS, Option.map_eq_some_iff] at h
    obtain ⟨c, hc, rfl⟩ := h
    simp only [getS]
    exact getS_setS hc
  | .ints k n f :: r, _, o, e, h => by
    unfold setS at h
    split at h
    · rename_i ho
      simp only [Option.map_eq_some_iff] at h
      obtain ⟨c, hc, rfl⟩ := h
      unfold getS
      rw [if_neg (by omega)]
      exact getS_setS hc
    · cases h

end Go.Anv
namespace Go.Proofs.Ytghcdkpgcanpgaa
open Go Go.Anv
section lock
variable {h : List Blk} {b o sp : Nat} {cs cs' : List Seg}

theorem set_lock {E : Emb} {w : World} {k y : Int} (S : Sim E h w) (hb : nthB h b = some (.cells true cs sp)) (hg : getS cs o = some (.int .i32 k)) (hs : setS cs o (.int .i32 y) = some cs') :
    w.cell? (E.at b o) = some (.int .i32 k) ∧ w.frozen? (E.at b o) = false ∧ Sim E (updB h b (.cells true cs' sp)) (w.setCell (E.at b o) (.int .i32 y)) ∧ Since E h w E (updB h b (.cells true cs' sp)) (w.setCell (E.at b o) (.int .i32 y)) := by
  have hb' := nthB_get hb
  obtain ⟨l, hl, hw, _⟩ := S.look hb'
  obtain ⟨_, _, hm⟩ := S.ok b _ hb'
  obtain ⟨u, h1, h2⟩ := getS_den hl hg
  simp only [denV] at h2
  subst h2
  have h3 := hw o _ h1
  obtain ⟨k1, k2, k3⟩ := setS_den (E := E) (v := .int .i32 y) hl (by simp only [denV]) hs
  have hd : denS E cs' (l.take o ++ ([Value.int .i32 y] ++ l.drop (o + [Value.int .i32 y].length))) := by
    rw [← list_set_eq _ (by rw [denS_length hl]; exact k3)]
    exact k1
  refine ⟨h3, (hm rfl o (by omega)).2.frozen h3, ?_, ?_⟩
  · rw [updB_eq]; exact S.store (vs := [.int .i32 y]) hb' hl hw hd k2 k3
  · rw [updB_eq]; exact Since.store (vs := [.int .i32 y]) hb' k2 k3

theorem cas_spec {k y : Int} (hb : nthB h b = some (.cells true cs sp)) (hg : getS cs o = some (.int .i32 k)) (hs : setS cs o (.int .i32 y) = some cs') :
    Does TB 145 [.s (.ptr b o), .s (.int .i32 k), .s (.int .i32 y)] h (fun r h' => r = .s (.bool true) ∧ h' = updB h b (.cells true cs' sp)) := by
  refine ⟨.inr fun E w vs S ha => ?_⟩
  simp only [denT, denE, denV] at ha
  obtain ⟨x1, l1, e1, ⟨_, rfl⟩, x2, l2, rfl, rfl, x3, l3, rfl, rfl, rfl⟩ := ha
  have hvs : vs = #[.pointer (some (E.at b o)), .int .i32 k, .int .i32 y] := by rw [← Array.toList_inj]; exact e1
  subst hvs
  obtain ⟨h1, h2, h3, h4⟩ := set_lock S hb hg hs
  have hrun := run_call_cas_hit (P := TB.P) (y := y) Try.func145 (by kernel_rfl) (by kernel_rfl) (by kernel_rfl) .i32 (by kernel_rfl) h1 h2
  exact ⟨_, _, hrun, _, _, _, _, rfl, (by simp only [denE, denV] : denE E (.s (.bool true)) _), h3, h4, rfl, rfl⟩

theorem add_spec {k y s : Int} (hw : IntKind.i32.wrap (k + y) = s) (hb : nthB h b = some (.cells true cs sp)) (hg : getS cs o = some (.int .i32 k)) (hs : setS cs o (.int .i32 s) = some cs') :
    Does TB 150 [.s (.ptr b o), .s (.int .i32 y)] h (fun r h' => r = .s (.int .i32 s) ∧ h' = updB h b (.cells true cs' sp)) := by
  refine ⟨.inr fun E w vs S ha => ?_⟩
  simp only [denT, denE, denV] at ha
  obtain ⟨x1, l1, e1, ⟨_, rfl⟩, x2, l2, rfl, rfl, rfl⟩ := ha
  have hvs : vs = #[.pointer (some (E.at b o)), .int .i32 y] := by rw [← Array.toList_inj]; exact e1
  subst hvs
  obtain ⟨h1, h2, h3, h4⟩ := set_lock S hb hg hs
  have hrun := run_call_add (P := TB.P) (y := y) (s := s) Try.func150 (by kernel_rfl) (by kernel_rfl) (by kernel_rfl) .i32 (by kernel_rfl) h1 h2 (by simp [Op.intArith, hw])
  exact ⟨_, _, hrun, _, _, _, _, rfl, (by simp only [denE, denV] : denE E (.s (.int .i32 s)) _), h3, h4, rfl, rfl⟩
end lock

theorem mark0_spec {f : FuncId} {fn : Func} {m : Mark} (hf : TB.P.funcs[f]? = some fn) (hname : (fn.name == "runtime.NumGoroutine") = false) (hb : fn.body.isNone = true) (hn : Extern.findNext fn = none)
    (he : Extern.find fn = some (fun _ => do mark m; pure Extern.Race.none_)) (h : List Blk) : Does TB f [] h (fun r h' => r = .tuple [] ∧ h' = h) := by
  refine ⟨.inr fun E w vs S ha => ?_⟩
  simp only [denT] at ha
  have hvs : vs = #[] := by rw [← Array.toList_inj]; exact ha
  subst hvs
  exact ⟨_, _, run_call_mark0 (P := TB.P) hf hname hb hn m he w, _, _, _, _, rfl, (by simp only [denE]; exact ⟨_, rfl, rfl⟩ : denE E (.tuple []) _), S, Since.refl _ _ _, rfl, rfl⟩

theorem marked_spec {f : FuncId} {fn : Func} {m : Addr → Mark} (hf : TB.P.funcs[f]? = some fn) (hname : (fn.name == "runtime.NumGoroutine") = false) (hb : fn.body.isNone = true) (hn : Extern.findNext fn = none)
    (he : Extern.find fn = some (Extern.Race.marked m)) (b o : Nat) (h : List Blk) : Does TB f [.s (.ptr b o)] h (fun r h' => r = .tuple [] ∧ h' = h) := by
  refine ⟨.inr fun E w vs S ha => ?_⟩
  simp only [denT, denE, denV] at ha
  obtain ⟨x1, l1, e1, ⟨hb1, rfl⟩, rfl⟩ := ha
  have hvs : vs = #[.pointer (some (E.at b o))] := by rw [← Array.toList_inj]; exact e1
  subst hvs
  exact ⟨_, _, run_call_marked (P := TB.P) hf hname hb hn m he _ w, _, _, _, _, rfl, (by simp only [denE]; exact ⟨_, rfl, rfl⟩ : denE E (.tuple []) _), S, Since.refl _ _ _, rfl, rfl⟩

theorem disable_spec (h : List Blk) : Does TB 144 [] h (fun r h' => r = .tuple [] ∧ h' = h) := mark0_spec (m := .disable) Try.func144 (by kernel_rfl) (by kernel_rfl) (by kernel_rfl) (by kernel_rfl) h
theorem enable_spec (h : List Blk) : Does TB 146 [] h (fun r h' => r = .tuple [] ∧ h' = h) := mark0_spec (m := .enable) Try.func146 (by kernel_rfl) (by kernel_rfl) (by kernel_rfl) (by kernel_rfl) h
theorem acquire_spec (b o : Nat) (h : List Blk) : Does TB 147 [.s (.ptr b o)] h (fun r h' => r = .tuple [] ∧ h' = h) := marked_spec (m := .acquire) Try.func147 (by kernel_rfl) (by kernel_rfl) (by kernel_rfl) (by kernel_rfl) b o h
theorem release_spec (b o : Nat) (h : List Blk) : Does TB 149 [.s (.ptr b o)] h (fun r h' => r = .tuple [] ∧ h' = h) := marked_spec (m := .releaseMerge) Try.func149 (by kernel_rfl) (by kernel_rfl) (by kernel_rfl) (by kernel_rfl) b o h

section lock
variable {h : List Blk} {b o sp : Nat} {cs cs' : List Seg}

theorem ilock_spec (hb : nthB h b = some (.cells true cs sp)) (hg : getS cs o = some (.int .i32 0)) (hs : setS cs o (.int .i32 1) = some cs') :
    Does TB 111 [.s (.ptr b o)] h (fun r h' => r = .tuple [] ∧ h' = updB h b (.cells true cs' sp)) := by
  refine fnX_does TB Try.func111 rfl (by decide) (fun O on hO => ?_)
  refine (disable_spec _).mono ?_
  rintro _ _ ⟨rfl, rfl⟩
  refine (cas_spec hb hg hs).mono ?_
  rintro _ _ ⟨rfl, rfl⟩
  refine (enable_spec _).mono ?_
  rintro _ _ ⟨rfl, rfl⟩
  refine need_intro ⟨_, _, _, _, nthB_updB hb, getS_setS hs⟩ ?_
  refine (acquire_spec b o _).mono ?_
  rintro _ _ ⟨rfl, rfl⟩
  exact Ends.same ⟨rfl, rfl⟩ (by rw [length_updB]; exact Nat.le_refl _)

theorem lock_spec (hb : nthB h b = some (.cells true cs sp)) (hg : getS cs o = some (.int .i32 0)) (hs : setS cs o (.int .i32 1) = some cs') :
    Does TB 102 [.s (.ptr b o)] h (fun r h' => r = .tuple [] ∧ h' = updB h b (.cells true cs' sp)) := by
  refine fnX_does TB Try.func102 rfl (by decide) (fun O on hO => ?_)
  refine (ilock_spec hb hg hs).mono ?_
  rintro _ _ ⟨rfl, rfl⟩
  exact Ends.same ⟨rfl, rfl⟩ (by rw [length_updB]; exact Nat.le_refl _)

theorem loadX_int (T : Tbl) {t : TypeId} {i : TI} {k : IntKind} {x : Int} (ht : T.ty t = some i) (hd : i.d = .int k) (hb : nthB h b = some (.cells true cs sp)) (hg : getS cs o = some (.int k x)) : loadX T h t (.s (.ptr b o)) = .ok (.s (.int k x)) := by
  have : i.d.agg = false := by rw [hd]; rfl
  simp only [loadX, ht, hb, this, hg]
  simp

theorem iunlock_spec (hb : nthB h b = some (.cells true cs sp)) (hg : getS cs o = some (.int .i32 1)) (hs : setS cs o (.int .i32 0) = some cs') :
    Does TB 112 [.s (.ptr b o)] h (fun r h' => r = .tuple [] ∧ h' = updB h b (.cells true cs' sp)) := by
  refine fnX_does TB Try.func112 rfl (by decide) (fun O on hO => ?_)
  have hl : loadX TB h 21 (.s (.ptr b (o + 0))) = .ok (.s (.int .i32 1)) := loadX_int TB rfl rfl hb hg
  show (match loadX TB h 21 (.s (.ptr b (o + 0))) with
    | .ok v => _
    | .need p v => _
    | .fail => _)
  rw [hl]
  refine need_intro ⟨_, _, _, _, hb, hg⟩ ?_
  refine (release_spec b o _).mono ?_
  rintro _ _ ⟨rfl, rfl⟩
  refine (disable_spec _).mono ?_
  rintro _ _ ⟨rfl, rfl⟩
  refine (add_spec (k := 1) (y := -1) (s := 0) (by decide) hb hg hs).mono ?_
  rintro _ _ ⟨rfl, rfl⟩
  refine (enable_spec _).mono ?_
  rintro _ _ ⟨rfl, rfl⟩
  exact Ends.same ⟨rfl, rfl⟩ (by rw [length_updB]; exact Nat.le_refl _)

theorem unlock_spec (hb : nthB h b = some (.cells true cs sp)) (hg : getS cs o = some (.int .i32 1)) (hs : setS cs o (.int .i32 0) = some cs') :
    DoesD TB 103 [.s (.ptr b o)] h (fun r h' => r = .tuple [] ∧ h' = updB h b (.cells true cs' sp)) := by
  refine fnX_doesD TB Try.func103 rfl (by decide) (fun O on hO => ?_)
  refine (iunlock_spec hb hg hs).mono ?_
  rintro _ _ ⟨rfl, rfl⟩
  exact Ends.same ⟨rfl, rfl⟩ (by rw [length_updB]; exact Nat.le_refl _)
end lock
end Go.Proofs.Ytghcdkpgcanpgaa
