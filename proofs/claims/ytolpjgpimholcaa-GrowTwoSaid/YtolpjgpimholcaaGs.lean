import Derived.Test.YtolpjgpimholcaaGq
import Derived.Test.YtolpjgpimholcaaGl
/- Two tables in two arenas: the first one never grows. -/
namespace Go.Proofs.Ytolpjgpimholcaa.Grow
open Go Go.RowKit Go.Proofs.Ytolpjgpimholcaa.Mem Go.Proofs.Ytolpjgpimholcaa.CodecPure Go.Proofs.Ytolpjgpimholcaa.ArenaPure Go.Proofs.Ytolpjgpimholcaa.Codec Go.Proofs.Ytolpjgpimholcaa.Arena Go.Proofs.Ytolpjgpimholcaa.Item Go.Proofs.Ytolpjgpimholcaa.Fnv Go.Proofs.Ytolpjgpimholcaa.Assoc
set_option linter.unusedVariables false
set_option maxRecDepth 100000
variable {B : Nat} {w0 w w' : World} {a b : Ar} {t u : Th} {g h : Nat} {X : Nat → Prop} {n m x : Nat} {on : Bool} {K : List Nat}
/-- a table that does not grow, in blocks that are known -/
structure GF (B : Nat) (w0 w : World) (a : Ar) (g : Nat) (t : Th) (K : List Nat) : Prop where
  ex : ∃ s nx H L, G1 w a g t s nx 8 H L ∧ (cat L 8).Perm K
  tlow : B ≤ t.b ∧ B ≤ t.h
  chg : Chg (fun b => B ≤ b) w0 w
  low : B ≤ a.g ∧ B ≤ a.ps ∧ ∀ b ∈ a.pb, B ≤ b
  lo : B ≤ g
theorem GF.ge (k : GF B w0 w a g t K) : GE B w0 w a g (fun _ => False) 8 0 false K := by
  obtain ⟨s, nx, H, L, h1, h2⟩ := k.ex
  exact ⟨⟨t, s, nx, H, L, k.tlow, fun _ h => h.elim, .inl ⟨rfl, rfl, h1, h2⟩⟩, k.chg, k.low, k.lo, fun _ h => h.elim⟩
theorem GF.other {S : Nat → Prop} (k : GF B w0 w a g t K) (hc : Chg S w w') (hs : ∀ x, S x → ¬ (T3 a t x ∨ x = g)) (hB : ∀ x, x < w.heap.size → S x → B ≤ x) : GF B w0 w' a g t K := by
  obtain ⟨s, nx, H, L, h1, h2⟩ := k.ex
  exact ⟨⟨s, nx, H, L, ⟨h1.tl.skip hc fun x hx q => hs x q (.inl hx), hc.keep h1.blk fun q => hs g q (.inr rfl), h1.off⟩, h2⟩, k.tlow, k.chg.trans (hc.mono hB), k.low, k.lo⟩
theorem GF.fresh (k : GF B w0 w a g t K) (hc : Chg (fun _ => False) w w') : GF B w0 w' a g t K := k.other hc (fun _ q => q.elim) fun _ _ q => q.elim
def FEnd (B : Nat) (w0 w : World) (a : Ar) (g : Nat) (t : Th) (K : List Nat) (v : Value) (e : Ending) (w' : World) : Prop := e = .returned v ∧ GF B w0 w' a g t K ∧ Chg (T2 a t) w w'
theorem GF.insert (k : GF B w0 w a g t K) (hx : x < 30) : Calls Try.prog 48 #[(.pointer (some ⟨g, 0, none⟩)), (.int .i64 (64 * (x : Int)))] w (FEnd B w0 w a g t (insK K x) (.int .i64 (insV K x))) := by
  obtain ⟨s, nx, H, L, a3, a4⟩ := k.ex
  have mi : x ∈ K ↔ x ∈ L (hb 8 x) := by rw [← a4.mem_iff]; exact ti_cat_in a3.tl.ti x
  rw [← insV_eq mi]
  refine (Insert_of (R := fun W w' => ∃ s' nx' H', TL w' a t s' nx' 8 H' (insB L 8 x) ∧ (∀ y, ¬ y = x → nx' y = nx y) ∧ Chg (T2 a t) W w') (by rw [blk_cell a3.blk]; rfl) hx (Assoc.TL.key a3.tl hx w (Chg.refl _ _)) (fun W hW => table_one (a3.fresh hW).tl.tm a3.tl.ti.pow (a3.fresh hW).blk hx) (fun W hW => Assoc.TL.insert (a3.tl.fresh hW) hx)).mono ?_
  rintro e w' ⟨he, W, hW, s', nx', H', t1, t2, hc⟩
  have hcw : Chg (T2 a t) w w' := (hW.mono fun _ _ h => h.elim).trans hc
  exact ⟨he, ⟨⟨s', nx', H', _, ⟨t1, hcw.keep a3.blk fun h => a3.off (.inr (.inr h)), a3.off⟩, (cat_ins a3.tl.ti x).trans (insK_perm a4 x)⟩, k.tlow, k.chg.trans (hcw.mono fun y _ hy => t2_b k.tlow k.low y hy), k.low, k.lo⟩, hcw⟩
theorem GF.delete (k : GF B w0 w a g t K) (hx : x < 30) : Calls Try.prog 54 #[(.pointer (some ⟨g, 0, none⟩)), .string (keyS x)] w (FEnd B w0 w a g t (K.erase x) (delKV K x)) := by
  obtain ⟨s, nx, H, L, a3, a4⟩ := k.ex
  have mi : x ∈ K ↔ x ∈ L (hb 8 x) := by rw [← a4.mem_iff]; exact ti_cat_in a3.tl.ti x
  rw [← delV_eq mi]
  refine (Delete_of (R := fun W w' => ∃ s' nx' H', TL w' a t s' nx' 8 H' (delB L 8 x) ∧ (∀ y, ¬ hb 8 y = hb 8 x → nx' y = nx y) ∧ Chg (T2 a t) W w') (table_one a3.tl.tm a3.tl.ti.pow a3.blk hx) (fun W hW => (Assoc.TL.delete (a3.tl.fresh (hW.chg _)) hx).mono fun e w' h => ⟨delV_form _ _ _, h⟩)).mono ?_
  rintro e w' ⟨he, W, hW, s', nx', H', t1, t2, hc⟩
  have hcw : Chg (T2 a t) w w' := (hW.chg _).trans hc
  exact ⟨he, ⟨⟨s', nx', H', _, ⟨t1, hcw.keep a3.blk fun h => a3.off (.inr (.inr h)), a3.off⟩, (cat_del a3.tl.ti x).trans (a4.erase x)⟩, k.tlow, k.chg.trans (hcw.mono fun y _ hy => t2_b k.tlow k.low y hy), k.low, k.lo⟩, hcw⟩
/-- both tables have the same items -/
structure TwI (B : Nat) (w0 w : World) (a : Ar) (g : Nat) (t : Th) (b : Ar) (h : Nat) (K : List Nat) : Prop where
  gf : GF B w0 w a g t K
  ge : ∃ n m on, GE B w0 w b h (fun x => T3 a t x ∨ x = g) n m on K
theorem TwI.fresh (k : TwI B w0 w a g t b h K) (hc : Chg (fun _ => False) w w') : TwI B w0 w' a g t b h K := by
  obtain ⟨n, m, on, q⟩ := k.ge
  exact ⟨k.gf.fresh hc, n, m, on, q.fresh hc⟩
/-- an act of the first, then the like of the second -/
theorem TwI.opG {K' : List Nat} (k : TwI B w0 w a g t b h K) (f : GF B w0 w' a g t K') (hc : Chg (T2 a t) w w') : ∃ n m on, GE B w0 w' b h (fun x => T3 a t x ∨ x = g) n m on K := by
  obtain ⟨n, m, on, q⟩ := k.ge
  exact ⟨n, m, on, q.other hc fun x _ hx => ⟨.inl (.inr (.inr hx)), t2_b k.gf.tlow k.gf.low x hx⟩⟩
theorem TwI.opH {K' : List Nat} {n m : Nat} {on : Bool} (f : GF B w0 w a g t K) (q : GE B w0 w' b h (fun x => T3 a t x ∨ x = g) n m on K') (hc : Chg (fun x => ¬ (T3 a t x ∨ x = g)) w w') : GF B w0 w' a g t K := by
  obtain ⟨s, nx, H, L, h1, h2⟩ := f.ex
  exact ⟨⟨s, nx, H, L, ⟨h1.tl.skip hc fun x hx q => q (.inl hx), hc.keep h1.blk fun q => q (.inr rfl), h1.off⟩, h2⟩, f.tlow, q.chg, f.low, f.lo⟩
theorem gf_new {w1 w2 : World} {r : Ra} (T : Two w.heap.size w w1 a r (laidS 30) (laidS 30)) (hc : Chg (fun _ => False) w1 w2) : Calls Try.prog 47 #[(.pointer (some ⟨a.g, 0, none⟩))] w2 fun e w' => ∃ g t, e = .returned (.pointer (some ⟨g, 0, none⟩)) ∧ GF w.heap.size w w' a g t [] ∧ Chg (fun _ => False) w2 w' ∧ w2.heap.size ≤ t.b ∧ w2.heap.size ≤ t.h ∧ w2.heap.size ≤ g :=
  (grow_new (T.fresh hc).here.lies ns_laid).mono fun e w3 ⟨g, t, h1, h2, h3, h4, h5, h6⟩ => by
    have z := (T.fresh hc).here.chg.size
    have hh := (T.fresh hc).here.fresh h3
    exact ⟨g, t, h1, ⟨⟨_, _, _, _, h2, by rw [cat_none]⟩, ⟨by omega, by omega⟩, hh.chg, hh.low, by omega⟩, h3, h4, h5, h6⟩
theorem t3_at {k : GF B w0 w a g t K} {y : Nat} (hy : T3 a t y ∨ y = g) : y = a.g ∨ y = a.ps ∨ y ∈ a.pb ∨ y = t.b ∨ y = t.h ∨ y = g := by
  rcases hy with (h | h | h | h | h) | h
  · exact .inl h
  · exact .inr (.inl h)
  · exact .inr (.inr (.inl h))
  · exact .inr (.inr (.inr (.inl h)))
  · exact .inr (.inr (.inr (.inr (.inl h))))
  · exact .inr (.inr (.inr (.inr (.inr h))))
theorem tw_new {w1 w2 w3 : World} {r r2 : Ra} (T : Two w.heap.size w w1 a r (laidS 30) (laidS 30)) (T' : Two w1.heap.size w1 w2 b r2 (laidS 30) (laidS 30)) (f : GF w.heap.size w w3 a g t []) (hc : Chg (fun _ => False) w2 w3) (l1 : w2.heap.size ≤ t.b) (l2 : w2.heap.size ≤ t.h) (l3 : w2.heap.size ≤ g) :
    Calls Try.prog 47 #[(.pointer (some ⟨b.g, 0, none⟩))] w3 fun e w' => ∃ h : Nat, e = .returned (.pointer (some ⟨h, 0, none⟩)) ∧ TwI w.heap.size w w' a g t b h [] ∧ Chg (fun _ => False) w3 w' :=
  (grow_new (T'.fresh hc).here.lies ns_laid).mono fun e w4 ⟨h, u, h1, h2, h3, h4, h5, h6⟩ => by
    have A1 := T.here.lt
    have A2 := T'.here.lt
    have A3 := T'.here.low
    have z1 := T.here.chg.size
    have z2 := T'.here.chg.size
    have z3 := hc.size
    have z4 := h3.size
    have g3 : t.b < w3.heap.size ∧ t.h < w3.heap.size ∧ g < w3.heap.size := by
      obtain ⟨s, nx, H, L, q1, q2⟩ := f.ex
      exact ⟨t3_low q1.tl _ (.inr (.inr (.inr (.inl rfl)))), t3_low q1.tl _ (.inr (.inr (.inr (.inr rfl)))), blk_lt q1.blk⟩
    have lowX : ∀ y, T3 a t y ∨ y = g → y < w1.heap.size ∨ (w2.heap.size ≤ y ∧ y < w3.heap.size) := fun y hy => by
      rcases t3_at (k := f) hy with rfl | rfl | q | rfl | rfl | rfl
      · exact .inl A1.1
      · exact .inl A1.2.1
      · exact .inl (A1.2.2 y q)
      · exact .inr ⟨l1, g3.1⟩
      · exact .inr ⟨l2, g3.2.1⟩
      · exact .inr ⟨l3, g3.2.2⟩
    refine ⟨h, h1, ⟨f.fresh h3, 8, 0, false, ⟨⟨u, _, _, _, _, ⟨by omega, by omega⟩, fun y hy q => ?_, .inl ⟨rfl, rfl, h2, by rw [cat_none]⟩⟩, (f.fresh h3).chg, ⟨by have := A3.1; omega, by have := A3.2.1; omega, fun y hy => by have := A3.2.2 y hy; omega⟩, by omega, fun y hy => by have := lowX y hy; omega⟩⟩, h3⟩
    have hl := lowX y hy
    rcases q with q | q | q | q | q
    · have := A3.1; have := A2.1; omega
    · have := A3.2.1; have := A2.2.1; omega
    · have := A3.2.2 y q; have := A2.2.2 y q; omega
    · omega
    · omega
theorem TwI.starts (k : TwI B w0 w a g t b h K) : Calls Try.prog 49 #[(.pointer (some ⟨h, 0, none⟩))] w fun e w' => (∃ v, e = .returned (.int .i64 v)) ∧ TwI B w0 w' a g t b h K := by
  obtain ⟨n, m, on, q⟩ := k.ge
  cases on with
  | true => exact q.start_on.mono fun e w' ⟨e1, e2, e3⟩ => ⟨⟨_, e1⟩, TwI.opH k.gf e2 e3, _, _, _, e2⟩
  | false =>
    by_cases h64 : n = 64
    · subst h64
      exact q.start_full.mono fun e w' ⟨e1, e2, e3⟩ => ⟨⟨_, e1⟩, TwI.opH k.gf e2 e3, _, _, _, e2⟩
    · exact (q.start_new h64).mono fun e w' ⟨e1, e2, e3⟩ => ⟨⟨_, e1⟩, TwI.opH k.gf e2 e3, _, _, _, e2⟩
theorem TwI.steps (k : TwI B w0 w a g t b h K) : Calls Try.prog 51 #[(.pointer (some ⟨h, 0, none⟩))] w fun e w' => (∃ v, e = .returned (.bool v)) ∧ TwI B w0 w' a g t b h K := by
  obtain ⟨n, m, on, q⟩ := k.ge
  cases on with
  | true => exact q.step_on.2.mono fun e w' ⟨e1, e2, e3⟩ => ⟨⟨_, e1⟩, TwI.opH k.gf e2 e3, _, _, _, e2⟩
  | false => exact q.step_off.mono fun e w' ⟨e1, e2, e3⟩ => ⟨⟨_, e1⟩, TwI.opH k.gf e2 e3, _, _, _, e2⟩
theorem TwI.findG (k : TwI B w0 w a g t b h K) (hx : x < 30) : Calls Try.prog 55 #[(.pointer (some ⟨g, 0, none⟩)), .string (keyS x)] w fun e w' => e = .returned (finK K x) ∧ TwI B w0 w' a g t b h K :=
  (k.gf.ge.find hx).mono fun e w' ⟨e1, e2⟩ => ⟨e1, k.fresh e2⟩
theorem TwI.findH (k : TwI B w0 w a g t b h K) (hx : x < 30) : Calls Try.prog 55 #[(.pointer (some ⟨h, 0, none⟩)), .string (keyS x)] w fun e w' => e = .returned (finK K x) ∧ TwI B w0 w' a g t b h K := by
  obtain ⟨n, m, on, q⟩ := k.ge
  exact (q.find hx).mono fun e w' ⟨e1, e2⟩ => ⟨e1, k.fresh e2⟩
theorem TwI.lenG (k : TwI B w0 w a g t b h K) : Calls Try.prog 50 #[(.pointer (some ⟨g, 0, none⟩))] w fun e w' => e = .returned (.int .i64 K.length) ∧ TwI B w0 w' a g t b h K := by
  obtain ⟨P, hP, AL, LN⟩ := k.gf.ge.both
  exact LN.mono fun e w' ⟨e1, e2⟩ => ⟨e1, k.fresh e2⟩
theorem TwI.lenH (k : TwI B w0 w a g t b h K) : Calls Try.prog 50 #[(.pointer (some ⟨h, 0, none⟩))] w fun e w' => e = .returned (.int .i64 K.length) ∧ TwI B w0 w' a g t b h K := by
  obtain ⟨n, m, on, q⟩ := k.ge
  obtain ⟨P, hP, AL, LN⟩ := q.both
  exact LN.mono fun e w' ⟨e1, e2⟩ => ⟨e1, k.fresh e2⟩
theorem TwI.allG (k : TwI B w0 w a g t b h K) : Calls Try.prog 52 #[(.pointer (some ⟨g, 0, none⟩))] w fun e w' => (∃ A c, e = .returned (.slice A K.length c)) ∧ TwI B w0 w' a g t b h K := by
  obtain ⟨P, hP, AL, LN⟩ := k.gf.ge.both
  exact AL.mono fun e w' ⟨A, c, e1, _, e2⟩ => ⟨⟨A, c, by rw [← hP.length_eq]; exact e1⟩, k.fresh e2⟩
theorem TwI.allH (k : TwI B w0 w a g t b h K) : Calls Try.prog 52 #[(.pointer (some ⟨h, 0, none⟩))] w fun e w' => (∃ A c, e = .returned (.slice A K.length c)) ∧ TwI B w0 w' a g t b h K := by
  obtain ⟨n, m, on, q⟩ := k.ge
  obtain ⟨P, hP, AL, LN⟩ := q.both
  exact AL.mono fun e w' ⟨A, c, e1, _, e2⟩ => ⟨⟨A, c, by rw [← hP.length_eq]; exact e1⟩, k.fresh e2⟩
theorem TwI.chg (k : TwI B w0 w a g t b h K) : Chg (fun y => B ≤ y) w0 w := k.gf.chg
end Go.Proofs.Ytolpjgpimholcaa.Grow

/- The walk of chapter 11's GrowTwo. -/
namespace Go.Proofs.Ytolpjgpimholcaa.Grow
open Go Go.RowKit Go.Proofs.Ytolpjgpimholcaa.Mem Go.Proofs.Ytolpjgpimholcaa.CodecPure Go.Proofs.Ytolpjgpimholcaa.ArenaPure Go.Proofs.Ytolpjgpimholcaa.Codec Go.Proofs.Ytolpjgpimholcaa.Arena Go.Proofs.Ytolpjgpimholcaa.Item Go.Proofs.Ytolpjgpimholcaa.Fnv Go.Proofs.Ytolpjgpimholcaa.Assoc
set_option linter.unusedVariables false
set_option maxRecDepth 100000
theorem delKV_form (K : List Nat) (x : Nat) : ∃ p e : Int, delKV K x = .tuple #[.int .i64 p, .int .i64 e] := by unfold delKV; split <;> exact ⟨_, _, rfl⟩
theorem finK_form (K : List Nat) (x : Nat) : ∃ (p : Int) (e : Bool), finK K x = .tuple #[.int .i64 p, .bool e] := by unfold finK; split <;> exact ⟨_, _, rfl⟩
set_option maxHeartbeats 4000000 in
theorem two_walk (A : Option Addr) (c : Nat) (l : List (List Int)) (A' : Option Addr) (c' : Nat) (l' : List Int) (w : World) (hl : SRow w [.i64, .i64] A c l) (hl' : RowOf w .i64 A' c' l' 8) :
    Calls Try.prog 13 #[.slice A l.length c, .slice A' l'.length c'] w fun e w' => e = .returned (.bool true) ∧ Below w.heap.size w w' := by
  have hlm : l.length ≤ 9223372036854775807 := Nat.le_trans hl.cap hl.most
  have hlm' : l'.length ≤ 9223372036854775807 := Nat.le_trans hl'.cap hl'.most
  replace hl := Lib.hid hl
  replace hl' := Lib.hid hl'
  obtain ⟨ln, hn⟩ : ∃ n, l.length = n := ⟨_, rfl⟩
  rw [hn] at hlm ⊢
  replace hn := Lib.hid hn
  obtain ⟨ln', hn'⟩ : ∃ n, l'.length = n := ⟨_, rfl⟩
  rw [hn'] at hlm' ⊢
  replace hn' := Lib.hid hn'
  go_enter Try.func13, Try.ntmps13
  go_wp2_with fail
  refine (works11_calls w).mono ?_
  rintro e wa ⟨rfl, hc⟩
  have CW := Lib.hid hc
  clear hc
  go_wp2_with fail
  refine (laid_calls wa).mono ?_
  rintro e w1 ⟨a, r, rfl, T⟩
  replace T := Lib.hid T
  go_wp2_with fail
  refine (laid_calls w1).mono ?_
  rintro e w2 ⟨b, r2, rfl, T'⟩
  replace T' := Lib.hid T'
  have C12 : Hid (Chg (fun _ => False) w1 w2) := T'.out.here.chg.mono fun b h1 h2 => by omega
  go_wp2_with fail
  refine (gf_new T.out C12.out).mono ?_
  rintro e w3 ⟨g, t, rfl, f, hc, l1, l2, l3⟩
  have NW := Lib.hid (tw_new T.out T'.out f hc l1 l2 l3)
  clear f hc l1 l2 l3 T T' C12
  go_wp2_with fail
  refine NW.out.mono ?_
  rintro e w4 ⟨h, rfl, S0, -⟩
  replace S0 := Lib.hid S0
  clear NW
  have CBW : Hid (∀ W, Chg (fun b => wa.heap.size ≤ b) wa W → Below w.heap.size w W) := fun W hc => ((CW.out.mono fun _ _ h => h.elim).trans (hc.mono fun b _ hb => Nat.le_trans CW.out.size hb)).below (Nat.le_refl _) fun _ h => h
  have CCW : Hid (∀ W, Chg (fun b => wa.heap.size ≤ b) wa W → Chg (fun b => w.heap.size ≤ b) w W) := fun W hc => (CW.out.mono fun _ _ h => h.elim).trans (hc.mono fun b _ hb => Nat.le_trans CW.out.size hb)
  go_wp2_with fail
  go_loopg [13] 120 (fun q i wr => ∃ (k : Nat) (K : List Nat), i = .int .i64 k ∧ q = 120 - k ∧ k ≤ 120 ∧ k ≤ ln ∧ Hid (TwI wa.heap.size wa wr a g t b h K))
  case atStart => exact ⟨0, _, rfl, rfl, by omega, by omega, S0.out⟩
  case round =>
    clear S0
    obtain ⟨k, K, rfl, hg, hk, hkn, S⟩ := hrel
    replace hg := Lib.hid hg
    by_cases hlt : k < ln ∧ k < 120
    · obtain ⟨h1, h2⟩ := hlt
      have h1' : (k : Int) < ln := by omega
      have h2' : (k : Int) < 120 := by omega
      go_upto_if 56 with fail
      go_cut [] (fun wx => Hid (TwI wa.heap.size wa wx a g t b h K))
      case first =>
        by_cases h3 : k < ln'
        · have h3' : (k : Int) < ln' := by omega
          obtain ⟨ad', rfl, cj⟩ := hl'.out.sl k (by rw [hn'.out]; exact h3)
          have CL : Hid (∀ W, TwI wa.heap.size wa W a g t b h K → W.cell? (ad'.add k) = some (.int .i64 (l'.getD k 0))) := fun W h => (CCW.out W h.chg).cell cj (by have := World.block_lt_of_cell? w _ cj; omega)
          clear cj
          generalize l'.getD k 0 = x1 at CL
          obtain ⟨T, hT, x5, -⟩ := small x1 5 (by decide)
          replace x5 : (IntKind.u64.wrap x1).tmod 5 = T := x5
          have ST := Lib.hid S.out.starts
          clear S
          go_wp2_with fail
          refine ST.out.mono ?_
          rintro e w5 ⟨⟨v, rfl⟩, hq⟩
          have S5 := Lib.hid hq
          clear hq ST
          go_wp2_with fail
          go_loopg [14] T (fun q i wr => ∃ j : Nat, i = .int .i64 j ∧ q = T - j ∧ j ≤ T ∧ Hid (TwI wa.heap.size wa wr a g t b h K))
          case atStart => exact ⟨0, rfl, rfl, by omega, S5.out⟩
          case round =>
            clear S5
            obtain ⟨j, rfl, hg2, hj, S6⟩ := hrel
            replace hg2 := Lib.hid hg2
            have cj := CL.out _ S6.out
            by_cases h4 : j < T
            · have h4' : (j : Int) < T := by omega
              have SP := Lib.hid S6.out.steps
              clear S6
              go_wp2_with fail
              refine SP.out.mono ?_
              rintro e w7 ⟨⟨v, rfl⟩, hq⟩
              have S7 := Lib.hid hq
              clear hq SP cj
              go_wp2_with fail
              go_roundg (T - (j + 1))
              case measure => have := hg2.out; omega
              case rel => exact ⟨j + 1, rfl, rfl, by omega, S7.out⟩
            · have h4' : ¬ (j : Int) < T := by omega
              go_wp2_with fail
              clear cj
              go_meet
              exact S6.out
        · have h3' : ¬ (k : Int) < ln' := by omega
          go_wp2_with fail
          go_meet
          exact S.out
      case rest =>
        clear S
        obtain ⟨w5, e5⟩ : ∃ w5, w5 = wc := ⟨_, rfl⟩
        subst e5
        have S5 := hcut
        have SR := hl.out.chg (CCW.out _ S5.out.chg) (Nat.le_refl _)
        obtain ⟨ad, rfl, d0, d1⟩ := SR.fields k (by rw [hn.out]; exact h1) (by decide)
        have f0 := d0 .i64 rfl
        have f1 := d1 0 .i64 rfl
        simp only [List.length_cons, List.length_nil, Nat.reduceAdd, Nat.zero_add] at f0 f1
        have CF : Hid (∀ W, Chg (fun b => wa.heap.size ≤ b) wa W → W.cell? ⟨(ad.add (k * 2)).block, (ad.add (k * 2)).off + 1, none⟩ = some ((.int .i64 ((l.getD k []).getD 1 0))) ∧ W.cell? (ad.add (k * 2)) = some ((.int .i64 ((l.getD k []).getD 0 0)))) := fun W hc => by
          obtain ⟨ad', e', d0', d1'⟩ := (hl.out.chg (CCW.out _ hc) (Nat.le_refl _)).fields k (by rw [hn.out]; exact h1) (by decide)
          cases e'
          have q0 := d0' .i64 rfl
          have q1 := d1' 0 .i64 rfl
          simp only [List.length_cons, List.length_nil, Nat.reduceAdd, Nat.zero_add] at q0 q1
          exact ⟨q1, q0⟩
        clear d0 d1 SR
        generalize (l.getD k []).getD 0 0 = kind at f0 CF
        generalize (l.getD k []).getD 1 0 = x1 at f1 CF
        obtain ⟨kk, hkk, q1, -⟩ := small x1 30 (by decide)
        have PC : Hid (∀ W, Calls Try.prog 31 #[(.int .i64 x1)] W fun e w' => e = .returned ((.int .i64 (64 * (kk : Int)))) ∧ w' = W) := fun W => place10_calls x1 W kk hkk q1
        have SC := Lib.hid (fun W => keys_calls x1 W kk hkk q1)
        clear q1
        go_wp2_with fail
        refine (SC.out _).mono ?_
        rintro e w6 ⟨rfl, hc⟩
        have S6 := Lib.hid (S5.out.fresh hc)
        obtain ⟨g1, g0⟩ := CF.out w6 S6.out.chg
        clear hc S5 f0 f1 hcut
        go_upto_block 4 with fail
        go_cut [] (fun wx => ∃ K2, Hid (TwI wa.heap.size wa wx a g t b h K2))
        case first =>
          by_cases e0 : kind = 0
          · have t0 : (kind == 0) = true := by rw [e0]; rfl
            clear e0
            have IG := (S6.out.fresh (Chg.drew _ w6)).gf.insert hkk
            have g1d : (World.drew w6).cell? ⟨(ad.add (k * 2)).block, (ad.add (k * 2)).off + 1, none⟩ = some ((.int .i64 x1)) := g1
            have TG : Hid (∀ W, GF wa.heap.size wa W a g t (insK K kk) → Chg (T2 a t) (World.drew w6) W → ∃ n m on, GE wa.heap.size wa W b h (fun x => T3 a t x ∨ x = g) n m on K) := fun W f hc =>
              (S6.out.fresh (Chg.drew _ w6)).opG f hc
            have IH : Hid (∀ W, (∃ n m on, GE wa.heap.size wa W b h (fun x => T3 a t x ∨ x = g) n m on K) → GF wa.heap.size wa W a g t (insK K kk) → Calls Try.prog 48 #[(.pointer (some ⟨h, 0, none⟩)), (.int .i64 (64 * (kk : Int)))] W fun e w' => e = .returned (.int .i64 (insV K kk)) ∧ TwI wa.heap.size wa w' a g t b h (insK K kk)) := fun W ⟨n, m, on, q⟩ f => (q.insert hkk).mono fun e w' ⟨e1, e2, e3⟩ => ⟨e1, TwI.opH f e2 e3, _, _, _, e2⟩
            replace IG := Lib.hid IG
            generalize insV K kk = vv at IG IH
            generalize insK K kk = K2 at IG IH TG
            clear S6 SC
            go_wp2_with fail
            go_region_held3 (fun w' => w'.cell? ⟨(ad.add (k * 2)).block, (ad.add (k * 2)).off + 1, none⟩ = some ((.int .i64 x1))) (go_keep)
              (first
                | (go_at_call 31; refine (PC.out _).mono ?_; rintro e w8 ⟨rfl, rfl⟩; skip)
                | (go_at_call 48; refine (IH.out _ U8.out F8.out).mono ?_; rintro e w9 ⟨rfl, h9⟩; have g9 : w9.cell? ⟨(ad.add (k * 2)).block, (ad.add (k * 2)).off + 1, none⟩ = some ((.int .i64 x1)) := (CF.out w9 h9.chg).1; have S9 := Lib.hid h9; clear h9; skip)
                | (go_at_call 48; refine IG.out.mono ?_; rintro e w8 ⟨rfl, h8, hc⟩; have U8 := Lib.hid (TG.out w8 h8 hc); have g8 : w8.cell? ⟨(ad.add (k * 2)).block, (ad.add (k * 2)).off + 1, none⟩ = some ((.int .i64 x1)) := (CF.out w8 h8.chg).1; have F8 := Lib.hid h8; clear h8 hc; skip))
            all_goals
              (clear g1 g0 g1d g8 g9
               go_wp2_with fail
               go_meet
               exact ⟨_, S9.out⟩)
          · have t0 : (kind == 0) = false := by rw [beq_eq_false_iff_ne]; exact e0
            clear e0
            by_cases e1 : kind = 1
            · have t1 : (kind == 1) = true := by rw [e1]; rfl
              clear e1
              have IG := S6.out.gf.delete hkk
              have TG : Hid (∀ W, GF wa.heap.size wa W a g t (K.erase kk) → Chg (T2 a t) w6 W → ∃ n m on, GE wa.heap.size wa W b h (fun x => T3 a t x ∨ x = g) n m on K) := fun W f hc => S6.out.opG f hc
              have IH : Hid (∀ W, (∃ n m on, GE wa.heap.size wa W b h (fun x => T3 a t x ∨ x = g) n m on K) → GF wa.heap.size wa W a g t (K.erase kk) → Calls Try.prog 54 #[(.pointer (some ⟨h, 0, none⟩)), .string (keyS kk)] W fun e w' => e = .returned (delKV K kk) ∧ TwI wa.heap.size wa w' a g t b h (K.erase kk)) := fun W ⟨n, m, on, q⟩ f => (q.delete hkk).mono fun e w' ⟨e1, e2, e3⟩ => ⟨e1, TwI.opH f e2 e3, _, _, _, e2⟩
              obtain ⟨p, er, hv⟩ := delKV_form K kk
              rw [hv] at IG IH
              replace IG := Lib.hid IG
              generalize K.erase kk = K2 at IG IH TG
              clear hv S6 PC SC
              go_wp2_with fail
              refine IG.out.mono ?_
              rintro e w8 ⟨rfl, h8, hc⟩
              have U8 := Lib.hid (TG.out w8 h8 hc)
              have F8 := Lib.hid h8
              clear h8 hc IG TG
              go_wp2_with fail
              refine (IH.out _ U8.out F8.out).mono ?_
              rintro e w9 ⟨rfl, h9⟩
              have S9 := Lib.hid h9
              clear h9 g1 g0 IH U8 F8
              go_wp2_with fail
              go_meet
              exact ⟨_, S9.out⟩
            · have t1 : (kind == 1) = false := by rw [beq_eq_false_iff_ne]; exact e1
              clear e1
              go_wp2_with fail
              go_meet
              exact ⟨_, S6.out⟩
        case rest =>
          obtain ⟨K2, S7⟩ := hcut
          have FG := Lib.hid (S7.out.findG hkk)
          have FH := Lib.hid (fun W (k : TwI wa.heap.size wa W a g t b h K2) => k.findH hkk)
          obtain ⟨p, bb, hv⟩ := finK_form K2 kk
          rw [hv] at FG FH
          clear hv S6 PC SC g1 g0 CF
          go_wp2_with fail
          refine FG.out.mono ?_
          rintro e w8 ⟨rfl, h8⟩
          have S8 := Lib.hid h8
          clear h8 FG S7
          go_wp2_with fail
          refine (FH.out _ S8.out).mono ?_
          rintro e w9 ⟨rfl, h9⟩
          have LG := Lib.hid h9.lenG
          clear h9 FH S8
          go_wp2_with fail
          refine LG.out.mono ?_
          rintro e w10 ⟨rfl, h10⟩
          have LH := Lib.hid h10.lenH
          clear h10 LG
          go_wp2_with fail
          refine LH.out.mono ?_
          rintro e w11 ⟨rfl, h11⟩
          have S11 := Lib.hid h11
          clear h11 LH
          go_wp2_with fail
          go_roundg (120 - (k + 1))
          case measure => have := hg.out; omega
          case rel => exact ⟨k + 1, _, rfl, rfl, by omega, by omega, S11.out⟩
    · have hend : ((ln : Int) ≤ k) ∨ ((k : Int) < ln ∧ ¬ (k : Int) < 120) := by omega
      have ST := Lib.hid S.out.gf.ge.state
      rcases hend with h1' | ⟨h1', h2'⟩
      all_goals
        (go_wp2_with fail
         refine ST.out.mono ?_
         rintro e w8 ⟨rfl, hd⟩
         have AH := Lib.hid (S.out.fresh (hd.chg _)).allH
         clear hd ST S
         go_wp2_with fail
         refine AH.out.mono ?_
         rintro e w9 ⟨⟨A9, c9, rfl⟩, h9⟩
         have AG := Lib.hid h9.allG
         clear h9 AH
         go_wp2_with fail
         refine AG.out.mono ?_
         rintro e w10 ⟨⟨A10, c10, rfl⟩, h10⟩
         have F := Lib.hid (CBW.out _ h10.chg)
         clear h10 AG
         go_wp2_with fail
         go_ret
         exact ⟨rfl, F.out⟩)
end Go.Proofs.Ytolpjgpimholcaa.Grow

