/- Proved here: contracts of functions that the law FnExactAllShortest reaches, and lemmas on what they compute; texts of this session and the printed words of the kit that they lean on, cut down and put together by its program link.py. Conditions: as each states. -/
import Derived.Deep.CutRange
import Derived.Deep.DeepMust
import Derived.Laws.EntriesVeiled
import Derived.WalkSpells
import Derived.Test.YtnaafcleafbejaaGreatZFnExactAllShortest1
section
namespace Go.Proofs.YtnaafcleafbejaaGreat.Q
open Go.RowKit Go.Proofs.YtnaafcleafbejaaGreatW.PrintWords Go.Proofs.YtnaafcleafbejaaGreatW.PrintLast Go.Proofs.YtnaafcleafbejaaGreatW.PrintMore
attribute [local go_sem] zbc zbg zb8 zb9 za1 za2 zbi zbj
set_option linter.unusedVariables false
set_option linter.unusedSimpArgs false
def SlOk (A : Option Addr) (n c : Nat) : Prop := (A = none ∧ n = 0 ∧ c = 0) ∨ ∃ g, A = some ⟨g, 0, none⟩
section
variable {σ : Type} (B : Bs) (fe : FuncId) (ecap : Array Value) (Inv : σ → World → Prop) (st : List S69 → List (List Int) → σ → Option (Bool × σ))
structure EachC : Prop where
  fn : ∃ fn, Tryz.prog.funcs[fe]? = some fn ∧ (fn.name == "runtime.NumGoroutine") = false ∧ fn.body.isSome = true
  call : ∀ (s s' : σ) (b : Bool) (W : World) (Ac : Option Addr) (cc : Nat) (code : List S69) (g cg : Nat) (cols : List (List Int)), Inv s W → (∀ W', Kept W W' (B.B W) → Kd.C k69 W' Ac code.length code) → code.length ≤ cc → SlOk Ac code.length cc → (∀ W', Kept W W' (B.B W) → Kd.C (Kd.slice 5 (Kd.int .u8)) W' (some ⟨g, 0, none⟩) cols.length cols) → cols.length ≤ cg → st code cols s = some (b, s') →
    Calls Tryz.prog fe (#[.slice Ac code.length cc, .slice (some ⟨g, 0, none⟩) cols.length cg] ++ ecap) W fun e W' => e = .returned (.bool b) ∧ Inv s' W' ∧ KeptB W W' B
  stab : ∀ s W W', Inv s W → Below W.heap.size W W' → Inv s W'
end
def pgL {σ : Type} (g : S69 → σ → Option (Bool × σ)) : List S69 → σ → Option (Bool × σ)
  | [], s => some (true, s)
  | x :: xs, s => (g x s).bind fun r => if r.1 = true then pgL g xs r.2 else some (false, r.2)
def zqf (k : Nat) (n : Int) (j : Nat) (cols : List (List Int)) (x : S69) : Option (List (List Int)) := if (j : Int) < wrap64 (n - 1) then (zg1 k x.f0 x.f1 x.f2 x.f3 x.f4 cols).bind fun c => some (cols ++ [c]) else some cols
def pgM {σ : Type} (k : Nat) (lists : List (List S69)) (n : Int) (st : List S69 → List (List Int) → σ → Option (Bool × σ)) : Nat → List S69 → List (List Int) → σ → Option (Bool × σ)
  | 0, _, _, _ => none
  | d + 1, code, cols, s => if (code.length : Int) = n then st code cols s else if code.length < lists.length ∧ cols.length < 1048576 ∧ code.length < 1048576 then pgL (fun x s => (zqf k n code.length cols x).bind fun nx => pgM k lists n st d (code ++ [x]) nx s) (lists.getD code.length []) s else none
structure PgX (B : Bs) (fe : FuncId) (ecap : Array Value) (lists : List (List S69)) (Al : Option Addr) (cl : Nat) (n : Int) (gn ge gl gf : Nat) (W : World) : Prop where
  bn : W.heap[gn]? = some (.cells #[.int .i64 n] 3 (0, 0))
  be : W.heap[ge]? = some (.cells #[.func (.func fe) #[] ecap] 66 (0, 0))
  bl : W.heap[gl]? = some (.cells #[.slice Al lists.length cl] 43 (0, 0))
  bf : W.heap[gf]? = some (.cells #[.func (.func 132) #[] #[.pointer (some ⟨gn, 0, none⟩), .pointer (some ⟨ge, 0, none⟩), .pointer (some ⟨gl, 0, none⟩), .pointer (some ⟨gf, 0, none⟩)]] 66 (0, 0))
  nb : ¬ B.B W gn ∧ ¬ B.B W ge ∧ ¬ B.B W gl ∧ ¬ B.B W gf
  ls : ∀ W', Kept W W' (B.B W) → Kd.C (Kd.slice 69 k69) W' Al lists.length lists
section
variable {σ : Type} {B : Bs} {fe : FuncId} {ecap : Array Value} {Inv : σ → World → Prop} {st : List S69 → List (List Int) → σ → Option (Bool × σ)} {lists : List (List S69)} {Al : Option Addr} {cl : Nat} {n : Int} {gn ge gl gf : Nat}
theorem PgX.step {W W1 : World} (h : PgX B fe ecap lists Al cl n gn ge gl gf W) (hk : KeptB W W1 B) : PgX B fe ecap lists Al cl n gn ge gl gf W1 :=
  ⟨zl6 h.bn hk h.nb.1, zl6 h.be hk h.nb.2.1, zl6 h.bl hk h.nb.2.2.1, zl6 h.bf hk h.nb.2.2.2, ⟨zpv h.bn hk h.nb.1, zpv h.be hk h.nb.2.1, zpv h.bl hk h.nb.2.2.1, zpv h.bf hk h.nb.2.2.2⟩, fun W' hk' => h.ls W' (zid hk hk')⟩
set_option maxHeartbeats 8000000 in
set_option maxRecDepth 100000 in
theorem ybx (k : Nat) (hE : EachC B fe ecap Inv st) : ∀ (d : Nat) (Ac : Option Addr) (cc : Nat) (code : List S69) (g cg : Nat) (cols : List (List Int)) (s s' : σ) (b : Bool) (W : World), PgX B fe ecap lists Al cl n gn ge gl gf W → Inv s W → B.ok W →
    (∀ W', Kept W W' (B.B W) → Kd.C k69 W' Ac code.length code) → code.length ≤ cc → SlOk Ac code.length cc → (∀ W', Kept W W' (B.B W) → Kd.C (Kd.slice 5 (Kd.int .u8)) W' (some ⟨g, 0, none⟩) cols.length cols) → cols.length ≤ cg → pgM k lists n st d code cols s = some (b, s') →
    Calls Tryz.prog 132 #[.slice Ac code.length cc, .slice (some ⟨g, 0, none⟩) cols.length cg, .pointer (some ⟨gn, 0, none⟩), .pointer (some ⟨ge, 0, none⟩), .pointer (some ⟨gl, 0, none⟩), .pointer (some ⟨gf, 0, none⟩)] W fun e W' => e = .returned (.bool b) ∧ Inv s' W' ∧ KeptB W W' B := by
  have HE := Aside0.mk hE
  clear hE
  intro d
  induction d with
  | zero =>
    intro Ac cc code g cg cols s s' b W hX hI hB hc hcc hsl hg hcg h
    cases h
  | succ d ih =>
    intro Ac cc code g cg cols s s' b W hX hI hB hc hcc hsl hg hcg h
    have HIH := Aside0.mk ih
    clear ih
    simp only [pgM] at h
    have q1 := zae hX.bn 0
    have HX := Aside0.mk hX
    have HI := Aside0.mk hI
    have HBW := Aside0.mk hB
    have HC := Aside0.mk hc
    have HCC := Aside0.mk hcc
    have HSL := Aside0.mk hsl
    have HG := Aside0.mk hg
    have HCG := Aside0.mk hcg
    clear hI hB hc hcc hsl hg hcg
    by_cases q : (code.length : Int) = n
    · rw [if_pos q] at h
      have H := Aside0.mk h
      have c1 : ((code.length : Int) == n) = true := by rw [beq_iff_eq]; exact q
      have q2 := zae hX.be 0
      clear h q hX HIH
      go_enter Tryz.func132, Tryz.ntmps132
      go_wp2_with ((with_reducible refine zkx (N := 21) rfl ?_); go_must (obtain ⟨fn, hf, hnm, hbd⟩ := HE.out.fn; refine zw2 (first := #[]) (cap := ecap) (some 21) rfl rfl hf hnm hbd (#[.slice Ac code.length cc, .slice (some ⟨g, 0, none⟩) cols.length cg] ++ ecap) rfl (by rfl) (by simp only [List.map_toArray, List.map_cons, List.map_nil]; rfl) ?_; refine (HE.out.call s s' b W Ac cc code g cg cols HI.out HC.out HCC.out HSL.out HG.out HCG.out H.out).mono ?_; rintro e w9 ⟨rfl, hI, hK⟩; refine ⟨_, rfl, ?_⟩; have HI9 := Aside0.mk hI; have HK9 := Aside0.mk hK; clear hf hnm hbd hI hK))
      go_ret
      exact ⟨rfl, HI9.out, HK9.out⟩
    · rw [if_neg q] at h
      by_cases hq : code.length < lists.length ∧ cols.length < 1048576 ∧ code.length < 1048576
      · rw [if_pos hq] at h
        obtain ⟨hq1, hq2, hq3⟩ := hq
        have c1 : ((code.length : Int) == n) = false := by rw [beq_eq_false_iff_ne]; exact q
        have q3 := zae hX.bl 0
        obtain ⟨adl, Ax, cx, el, x0, hxc, hxs⟩ := zx1 hX.ls code.length hq1
        subst el
        obtain ⟨xs, hxe⟩ : ∃ xs, xs = lists.getD code.length [] := ⟨_, rfl⟩
        rw [← hxe] at h x0 hxc hxs
        obtain ⟨G, hG⟩ : ∃ G : S69 → σ → Option (Bool × σ), G = fun x s => (zqf k n code.length cols x).bind fun nx => pgM k lists n st d (code ++ [x]) nx s := ⟨_, rfl⟩
        rw [← hG] at h
        have HL := Aside0.mk (show pgL G (xs.drop 0) s = some (b, s') by rw [List.drop_zero]; exact h)
        have HGE := Aside0.mk hG
        have HXC := Aside0.mk hxc
        have HXS := Aside0.mk hxs
        have HQ2 := Aside0.mk hq2
        have HQ3 := Aside0.mk hq3
        have e1 : (0 : Int) ≤ (code.length : Int) := by omega
        have e2 : (code.length : Int) < lists.length := by omega
        clear h hG hxc hxs hxe q hq2 hq3 hX
        go_enter Tryz.func132, Tryz.ntmps132
        go_wp2_with fail
        go_loopw [27] (fun v27 wr => ∃ (i : Nat) (t : σ), v27 = .int .i64 (i : Int) ∧ i ≤ xs.length ∧ Aside0 (pgL G (xs.drop i) t = some (b, s')) ∧ Aside0 (Inv t wr) ∧ Aside0 (KeptB W wr B)) (fun v27 _ => xs.length - (intOf v27).toNat)
        case atStart => exact ⟨0, s, rfl, Nat.zero_le _, HL, HI, ⟨KeptB.refl _ _⟩⟩
        case round =>
          clear HL q1 q3 x0 HI
          obtain ⟨i, t, rfl, hi, HL, HI, HK⟩ := hrel
          by_cases hlt : i < xs.length
          ·
            have d1 : decide ((i : Int) < xs.length) = true := decide_eq_true (by omega)
            have d2 : (0 : Int) ≤ (i : Int) := by omega
            have d3 : (i : Int) < xs.length := by omega
            have hw : wrap64 ((i : Int) + 1) = ((i + 1 : Nat) : Int) := by have := Kd.C_max (HXS.out W (Kept.refl _ _)); unfold wrap64; omega
            have HW := Aside0.mk hw
            clear hw
            obtain ⟨ad, ea, x0, x1, x2, x3, x4⟩ := zog (HXS.out wr HK.out.kept) (i : Int) d2 d3
            rw [Int.toNat_natCast] at x0 x1 x2 x3 x4
            subst ea
            have h := HL.out
            rw [List.drop_eq_getElem_cons hlt] at h
            simp only [pgL] at h
            obtain ⟨⟨b', s9⟩, hm', h⟩ := Option.bind_eq_some_iff.1 h
            obtain ⟨x, hx⟩ : ∃ x, x = zag xs (i : Int) := ⟨_, rfl⟩
            have hxi : xs[i] = x := by rw [hx]; unfold zag; rw [Int.toNat_natCast]; simp [List.getD, hlt]
            rw [← hx] at x0 x1 x2 x3 x4
            rw [hxi, HGE.out] at hm'
            obtain ⟨nx, hnx, hm'⟩ := Option.bind_eq_some_iff.1 hm'
            have HNX := Aside0.mk h
            have HNC := Aside0.mk hnx
            have HPM := Aside0.mk hm'
            clear h hnx hm' hx hxi HL
            have HXR := Aside0.mk (HX.out.step HK.out)
            have r1 := zae HXR.out.bn 0
            obtain ⟨bq, hbq⟩ : ∃ bq, decide ((code.length : Int) < wrap64 (n - 1)) = bq := ⟨_, rfl⟩
            go_upto_if 35 with (first
              | ((with_reducible refine zkx (N := 11) rfl ?_); go_must (refine zh9 ?hg (N := 11) ?hd (cs := #[.string ⟨#[]⟩, .int .i64 0, .int .i64 0, .int .i64 0, .int .i64 0]) (t := 69) ?hr ?_; (case hd => rfl); (case hg => rfl); (case hr => first | (go_simp; done) | (go_simp; rfl)); intro gx hg w5 hbox hb; have GX := Aside0.mk (Nat.le_of_eq hg.symm); have BX := Aside0.mk hbox; have HBX := Aside0.mk hb; clear hg hbox hb))
              | ((with_reducible refine zi1 (t := 69) (p := 11) rfl ?_); go_must (refine ziv rfl (t := 69) (p := 11) rfl rfl (g := gx) (u := .agg #[.string x.f0, .int .i64 x.f1, .int .i64 x.f2, .int .i64 x.f3, .int .i64 x.f4]) (seg := [.string x.f0, .int .i64 x.f1, .int .i64 x.f2, .int .i64 x.f3, .int .i64 x.f4]) rfl rfl BX.out rfl rfl rfl (by simp [Value.oneCell']) ?_; intro w6 hbb hbw hfar; have HB6 := Aside0.mk (HBX.out.trans (hbw _ GX.out)); have HX6 := Aside0.mk (HXR.out.step (zcb HB6.out)); have HI6 := Aside0.mk (HE.out.stab _ _ _ HI.out HB6.out); have HK6 := Aside0.mk (zd1 HK.out (zcb HB6.out)); clear HBX BX x0 x1 x2 x3 x4 r1; have BX := Aside0.mk hbb; have r1 := zae HX6.out.bn 0; clear hbb hbw hfar)))
            go_cut [12] (fun v12 wc => ∃ (g12 c12 : Nat), v12 = .slice (some ⟨g12, 0, none⟩) nx.length c12 ∧ nx.length ≤ c12 ∧ Aside0 (∀ W', Kept wc W' (B.B wc) → Kd.C (Kd.slice 5 (Kd.int .u8)) W' (some ⟨g12, 0, none⟩) nx.length nx) ∧ Aside0 (Below w6.heap.size w6 wc))
            case first =>
              cases bq with
              | false =>
                have hn := HNC.out
                unfold zqf at hn
                rw [if_neg (of_decide_eq_false hbq)] at hn
                obtain rfl := Option.some.inj hn
                clear hn
                go_wp2_with fail
                go_meet
                case rel => exact ⟨g, cg, rfl, HCG.out, ⟨fun W' hk => HG.out W' (zid HK6.out (zid (zcb (by repeat (first | exact Below.refl _ _ | apply zbn | apply zbd))) hk))⟩, ⟨by repeat (first | exact Below.refl _ _ | apply zbn | apply zbd)⟩⟩
              | true =>
                have hn := HNC.out
                unfold zqf at hn
                rw [if_pos (of_decide_eq_true hbq)] at hn
                obtain ⟨c, hcw, hn⟩ := Option.bind_eq_some_iff.1 hn
                obtain rfl := Option.some.inj hn
                have HCC9 := Aside0.mk hcw
                clear hn hcw
                go_wp2_with fail
                refine zot [[], [], [1], [], [3], [0, 1, 2, 3, 4], [], [], [6, 7], [6, 7, 8], [0, 1, 2, 3, 4, 5, 6, 7, 8, 9], [0, 1, 2, 3, 4, 5, 6, 7, 8, 9, 10]] [[5, 10, 11], [2, 5, 10, 11], [5, 10, 11], [4, 5, 10, 11], [5, 10, 11], [10, 11], [8, 9, 10, 11], [8, 9, 10, 11], [9, 10, 11], [10, 11], [11], []] (zgr [8, 9, 10, 11])
                  (zjd [.slice (some ⟨g, 0, none⟩) cols.length cg, .slice (some ⟨g, 0, none⟩) cols.length cg, .int .i64 cols.length, .slice (some ⟨g, 0, none⟩) cols.length cg, .int .i64 cols.length, .slice (some ⟨g, 0, none⟩) cols.length cols.length, .agg #[.string x.f0, .int .i64 x.f1, .int .i64 x.f2, .int .i64 x.f3, .int .i64 x.f4], .slice (some ⟨g, 0, none⟩) cols.length cg, undef, undef, undef, undef])
                  (fun L s V => Below w6.heap.size w6 V ∧ (L 8 = true → L 9 = false → ∃ A' c', s 8 = .slice A' c.length c' ∧ c.length ≤ c' ∧ ∀ W', Kept V W' (B.B V) → Kd.C (Kd.int .u8) W' A' c.length c) ∧ (L 9 = true → L 10 = false → ∃ g A' c', s 9 = .slice (some ⟨g, 0, none⟩) 1 1 ∧ V.heap[g]? = some (.cells #[.slice A' c.length c'] 77 (0, 0)) ∧ c.length ≤ c' ∧ ∀ W', Kept V W' (B.B V) → Kd.C (Kd.int .u8) W' A' c.length c) ∧ (L 10 = true → ∃ g' c', s 10 = .slice (some ⟨g', 0, none⟩) (cols ++ [c]).length c' ∧ (cols ++ [c]).length ≤ c' ∧ ∀ W', Kept V W' (B.B V) → Kd.C (Kd.slice 5 (Kd.int .u8)) W' (some ⟨g', 0, none⟩) (cols ++ [c]).length (cols ++ [c])) ∧ (L 11 = true → s 11 = s 10))
                  rfl (fun _ _ _ _ _ h => h) (by kernel_rfl) ⟨ze8 (Below.refl _ _), fun h => Bool.noConfusion h, fun h => Bool.noConfusion h, fun h => Bool.noConfusion h, fun h => Bool.noConfusion h⟩ ⟨?_, ?_, ?_, ?_, ?_, ?_, ?_, ?_, ?_, ?_, ?_, ?_, trivial⟩ ?_
                · exact fun L s V hu hd hn hJ => rm_v ⟨fun _ => rfl, hJ⟩
                · exact fun L s V hu hd hn hJ => rm_v ⟨fun _ => rfl, hJ⟩
                · exact fun L s V hu hd hn hJ => rm_v ⟨fun _ => rfl, hJ⟩
                · exact fun L s V hu hd hn hJ => rm_v ⟨fun _ => rfl, hJ⟩
                · exact fun L s V hu hd hn hJ => rm_v ⟨fun _ => rfl, hJ⟩
                · intro L s V hu hd hn hJ
                  have hcp : cols.length ≤ cg := HCG.out
                  exact rm_v ⟨fun _ => rfl, hJ⟩
                · intro L s V hu hd hn hJ
                  have z0 := zae (zai BX.out hJ.1) 0
                  have z1 := zae (zai BX.out hJ.1) 1
                  have z2 := zae (zai BX.out hJ.1) 2
                  have z3 := zae (zai BX.out hJ.1) 3
                  have z4 := zae (zai BX.out hJ.1) 4
                  exact rm_v ⟨fun _ => rfl, hJ⟩
                · exact fun L s V hu hd hn hJ => rm_v ⟨fun _ => rfl, hJ⟩
                · rintro L s V hu hd hn ⟨hB, g8, g9, g10, g11⟩
                  refine zil Tryz.func133 (by kernel_rfl) rfl #[.agg #[.string x.f0, .int .i64 x.f1, .int .i64 x.f2, .int .i64 x.f3, .int .i64 x.f4], .slice (some ⟨g, 0, none⟩) cols.length cg] (by rfl) rfl (by simp only [List.map_toArray, List.map_cons, List.map_nil]; rfl) ((zro k x.f0 x.f1 x.f2 x.f3 x.f4 (some ⟨g, 0, none⟩) cg cols c V (HG.out V (zd1 HK6.out (zcb hB)).kept) HCG.out HCC9.out).mono ?_)
                  rintro e U ⟨v0, rfl, hR, hb⟩
                  obtain ⟨A', c', rfl⟩ := Kd.R_slice hR
                  exact ⟨_, rfl, fun h => absurd h (by decide), zaa hB hb, fun _ _ => ⟨A', c', rfl, (Kd.R_reads' hR).2.1, fun W' hk => (Kd.R_reads' (R_kept hR hk (fun k hk => B.old ((zd1 HK6.out (zcb (B := B) hB)).okk HBW.out) hb hk))).2.2⟩, fun h => absurd (h.symm.trans (zaj _ hn 9 (by decide))) (by simp), fun h => absurd (h.symm.trans (zaj _ hn 10 (by decide))) (by simp), fun h => absurd (h.symm.trans (zaj _ hn 11 (by decide))) (by simp)⟩
                · rintro L s V hu hd hn ⟨hB, g8, g9, g10, g11⟩
                  obtain ⟨A', c', e8, hle, hc⟩ := g8 (zaj _ hd 8 (by decide)) hu
                  refine zj7 (v := .slice (some ⟨V.heap.size, 0, none⟩) 1 1) (w1 := V.alloc (.cells #[.slice A' c.length c'] 77)) (by rfl) ⟨fun h => absurd h (by decide), zba hB _, fun _ h => Bool.noConfusion h, fun _ _ => ⟨V.heap.size, A', c', rfl, zi4 V _, hle, fun W' hk => hc W' (zid (zcb (zba (Below.refl _ _) _)) hk)⟩, fun h => absurd (h.symm.trans (zaj _ hn 10 (by decide))) (by simp), fun h => absurd (h.symm.trans (zaj _ hn 11 (by decide))) (by simp)⟩ ?_
                  simp only [zdp, riGo, zgt, zf9, zgr, zjd, mixV, Nat.reduceBEq, Nat.reduceAdd, List.headD, List.tail, List.getD, List.getElem?_cons_zero, List.getElem?_cons_succ, Option.getD_some, cond_true, cond_false]
                  rw [e8]
                  first | (go_simp; done) | (go_simp; rfl)
                · rintro L s V hu hd hn ⟨hB, g8, g9, g10, g11⟩
                  obtain ⟨gq, A', c', e9, hgq, hle, hc⟩ := g9 (zaj _ hd 9 (by decide)) hu
                  have hl := HQ2.out
                  have hkv := zd1 HK6.out (zcb (B := B) hB)
                  refine zx0 (Kd.slice 5 (Kd.int .u8)) B (hkv.okk HBW.out) rfl (.tmp 41) (.tmp 45) 81 rfl 77 (.slice none 0 0) 24 Tryz.underlying81 (by kernel_rfl) rfl (by decide) (some ⟨g, 0, none⟩) cols (by rfl) (fun h => by cases h) (fun W' hk => HG.out W' (zid hkv hk)) gq c [.slice A' c.length c'] e9 hgq (fun W' hk => ⟨A', c', rfl, hle, hc W' hk⟩) (by omega) (by unfold maxLen; omega) (fun g' c2 U hU hle2 _ hgr => ?_)
                  · have hb : Below V.heap.size V U := ⟨hgr.os, hgr.tape, hgr.output, hgr.size, fun k hk => hgr.block k hk (by simp)⟩
                    exact ⟨fun h => absurd h (by decide), zaa hB hb, fun _ h => absurd (h.symm.trans (zaj _ hd 9 (by decide))) (by simp), fun _ h => Bool.noConfusion h, fun _ => ⟨g', c2, rfl, hle2, hU⟩, fun h => absurd (h.symm.trans (zaj _ hn 11 (by decide))) (by simp)⟩
                · rintro L s V hu hd hn ⟨hB, g8, g9, g10, g11⟩
                  refine zj7 (v := s 10) (by rfl) ⟨fun h => absurd h (by decide), hB, g8, g9, g10, fun _ => rfl⟩ ?_
                  simp only [zdp, riGo, zgt, zf9, zgr, zjd, mixV, Nat.reduceBEq, Nat.reduceAdd, List.headD, List.tail, List.getD, List.getElem?_cons_zero, List.getElem?_cons_succ, Option.getD_some, cond_true, cond_false]
                  first | (go_simp; done) | (go_simp; rfl)
                · rintro L s V hL ⟨hB, g8, g9, g10, g11⟩
                  obtain ⟨g', c2, e10, hle2, hU⟩ := g10 (hL 10 (by rfl))
                  have e11 := (g11 (hL 11 (by rfl))).trans e10
                  have HU := Aside0.mk hU
                  have HB10 := Aside0.mk hB
                  clear g8 g9 g10 g11 hU hB
                  simp only [zdp, riGo, zgt, zf9, zgr, zjd, mixV, Nat.reduceBEq, Nat.reduceAdd, List.headD, List.tail, List.getD, List.getElem?_cons_zero, List.getElem?_cons_succ, Option.getD_some, cond_true, cond_false]
                  rw [e11]
                  clear e10 e11 hL
                  go_wp2_with fail
                  go_meet
                  case rel => exact ⟨g', c2, rfl, hle2, ⟨fun W' hk => HU.out W' (zid (zcb (by repeat (first | exact Below.refl _ _ | apply zbn | apply zbd))) hk)⟩, ⟨by repeat (first | exact HB10.out | apply zbn | apply zbd)⟩⟩
            case rest =>
              obtain ⟨g12, c12, rfl, hle12, HN12, HB12⟩ := hcut
              have HL12 := Aside0.mk hle12
              clear hle12 hbq HNC r1 HI HK HXR
              go_wp2_with fail
              refine zot [[], [], [], [], [1, 2, 3], [], [5], [1, 2, 3, 4, 5, 6], [], [0, 1, 2, 3, 4, 5, 6, 7, 8], [0, 1, 2, 3, 4, 5, 6, 7, 8, 9]] [[9, 10], [4, 7, 9, 10], [4, 7, 9, 10], [4, 7, 9, 10], [7, 9, 10], [6, 7, 9, 10], [7, 9, 10], [9, 10], [9, 10], [10], []] (zgr [6, 7])
                (zjd [.func (.func 132) #[] #[.pointer (some ⟨gn, 0, none⟩), .pointer (some ⟨ge, 0, none⟩), .pointer (some ⟨gl, 0, none⟩), .pointer (some ⟨gf, 0, none⟩)], .slice Ac code.length cc, .int .i64 code.length, .int .i64 code.length, .slice Ac code.length code.length, .agg #[.string x.f0, .int .i64 x.f1, .int .i64 x.f2, .int .i64 x.f3, .int .i64 x.f4], undef, undef, .slice (some ⟨g12, 0, none⟩) nx.length c12, .bool b', .bool (!b')])
                (fun L s V => (L 9 = false → Below wc.heap.size wc V) ∧ (L 6 = true → L 7 = false → ∃ gq, s 6 = .slice (some ⟨gq, 0, none⟩) 1 1 ∧ V.heap[gq]? = some (.cells #[.string x.f0, .int .i64 x.f1, .int .i64 x.f2, .int .i64 x.f3, .int .i64 x.f4] 69 (0, 0))) ∧ (L 7 = true → L 9 = false → ∃ g' c', s 7 = .slice (some ⟨g', 0, none⟩) (code ++ [x]).length c' ∧ (code ++ [x]).length ≤ c' ∧ ∀ W', Kept V W' (B.B V) → Kd.C k69 W' (some ⟨g', 0, none⟩) (code ++ [x]).length (code ++ [x])) ∧ (L 9 = true → Inv s9 V ∧ KeptB wc V B))
                rfl (fun _ _ _ _ _ h => h) (by kernel_rfl) ⟨fun _ => ze8 (Below.refl _ _), fun h => Bool.noConfusion h, fun h => Bool.noConfusion h, fun h => Bool.noConfusion h⟩ ⟨?_, ?_, ?_, ?_, ?_, ?_, ?_, ?_, ?_, ?_, ?_, trivial⟩ ?_
              · intro L s V hu hd hn hJ
                have q4 := zae (HX6.out.step (zcb (zaa HB12.out (hJ.1 (zaj _ hn 9 (by decide)))))).bf 0
                exact rm_v ⟨fun _ => rfl, hJ⟩
              · exact fun L s V hu hd hn hJ => rm_v ⟨fun _ => rfl, hJ⟩
              · exact fun L s V hu hd hn hJ => rm_v ⟨fun _ => rfl, hJ⟩
              · exact fun L s V hu hd hn hJ => rm_v ⟨fun _ => rfl, hJ⟩
              · refine fun L s V hu hd hn hJ => zj7 (by rfl) ⟨fun _ => rfl, hJ⟩ ?_
                have hcp : code.length ≤ cc := HCC.out
                have hs := HSL.out
                clear hJ
                simp only [zdp, riGo, zgt, zf9, zgr, zjd, mixV, Nat.reduceBEq, Nat.reduceAdd, List.headD, List.tail, List.getD, List.getElem?_cons_zero, List.getElem?_cons_succ, Option.getD_some, cond_true, cond_false]
                rcases hs with ⟨rfl, h1, h2⟩ | ⟨g0, rfl⟩ <;> first | (go_simp; done) | (go_simp; rfl)
              · intro L s V hu hd hn hJ
                have z0 := zae (zai BX.out (zaa HB12.out (hJ.1 (zaj _ hn 9 (by decide))))) 0
                have z1 := zae (zai BX.out (zaa HB12.out (hJ.1 (zaj _ hn 9 (by decide))))) 1
                have z2 := zae (zai BX.out (zaa HB12.out (hJ.1 (zaj _ hn 9 (by decide))))) 2
                have z3 := zae (zai BX.out (zaa HB12.out (hJ.1 (zaj _ hn 9 (by decide))))) 3
                have z4 := zae (zai BX.out (zaa HB12.out (hJ.1 (zaj _ hn 9 (by decide))))) 4
                exact rm_v ⟨fun _ => rfl, hJ⟩
              · rintro L s V hu hd hn ⟨hB, g6, g7, g9⟩
                have hb := hB (zaj _ hn 9 (by decide))
                refine zj7 (v := .slice (some ⟨V.heap.size, 0, none⟩) 1 1) (w1 := V.alloc (.cells #[.string x.f0, .int .i64 x.f1, .int .i64 x.f2, .int .i64 x.f3, .int .i64 x.f4] 69)) (by rfl) ⟨fun h => absurd h (by decide), fun _ => zba hb _, fun _ _ => ⟨V.heap.size, rfl, zi4 V _⟩, fun h => absurd (h.symm.trans (zaj _ hn 7 (by decide))) (by simp), fun h => absurd (h.symm.trans (zaj _ hn 9 (by decide))) (by simp)⟩ ?_
                simp only [zdp, riGo, zgt, zf9, zgr, zjd, mixV, Nat.reduceBEq, Nat.reduceAdd, List.headD, List.tail, List.getD, List.getElem?_cons_zero, List.getElem?_cons_succ, Option.getD_some, cond_true, cond_false]
                first | (go_simp; done) | (go_simp; rfl)
              · rintro L s V hu hd hn ⟨hB, g6, g7, g9⟩
                have hb := hB (zaj _ hn 9 (by decide))
                obtain ⟨gq, e6, hgq⟩ := g6 (zaj _ hd 6 (by decide)) hu
                have hl := HQ3.out
                have hkv := zd1 HK6.out (zcb (B := B) (zaa HB12.out hb))
                refine zx0 k69 B (hkv.okk HBW.out) rfl (.tmp 51) (.tmp 53) 29 rfl 69 (.agg #[.string ⟨#[]⟩, .int .i64 0, .int .i64 0, .int .i64 0, .int .i64 0]) 48 Tryz.underlying29 (by kernel_rfl) rfl (by decide) Ac code (by rfl) (fun h => by rcases HSL.out with ⟨_, h1, _⟩ | ⟨g0, h1⟩; exact h1; rw [h] at h1; cases h1) (fun W' hk => HC.out W' (zid hkv hk)) gq x (#[.string x.f0, .int .i64 x.f1, .int .i64 x.f2, .int .i64 x.f3, .int .i64 x.f4]).toList e6 hgq (fun W' hk => yes W' x) (by omega) (by unfold maxLen; omega) (fun g' c2 U hU hle2 _ hgr => ?_)
                have hb2 : Below V.heap.size V U := ⟨hgr.os, hgr.tape, hgr.output, hgr.size, fun k hk => hgr.block k hk (by simp)⟩
                exact ⟨fun h => absurd h (by decide), fun _ => zaa hb hb2, fun _ h => Bool.noConfusion h, fun _ _ => ⟨g', c2, rfl, hle2, hU⟩, fun h => absurd (h.symm.trans (zaj _ hn 9 (by decide))) (by simp)⟩
              · exact fun L s V hu hd hn hJ => rm_v ⟨fun _ => rfl, hJ⟩
              · rintro L s V hu hd hn ⟨hB, g6, g7, g9⟩
                have hb := hB hu
                obtain ⟨g', c2, e7, hle2, hU⟩ := g7 (zaj _ hd 7 (by decide)) hu
                have hk := zcb (B := B) (zaa HB12.out hb)
                have hkv := zd1 HK6.out hk
                refine zxz Tryz.func132 (by kernel_rfl) rfl #[.slice (some ⟨g', 0, none⟩) (code ++ [x]).length c2, .slice (some ⟨g12, 0, none⟩) nx.length c12, .pointer (some ⟨gn, 0, none⟩), .pointer (some ⟨ge, 0, none⟩), .pointer (some ⟨gl, 0, none⟩), .pointer (some ⟨gf, 0, none⟩)] (first := #[]) (cap := #[.pointer (some ⟨gn, 0, none⟩), .pointer (some ⟨ge, 0, none⟩), .pointer (some ⟨gl, 0, none⟩), .pointer (some ⟨gf, 0, none⟩)]) (by rfl) rfl (by rfl) (by simp only [List.map_toArray, List.map_cons, List.map_nil]; rw [show Act.eval _ (.tmp 54) = s 7 from rfl, e7]; rfl) ((HIH.out (some ⟨g', 0, none⟩) c2 (code ++ [x]) g12 c12 nx t s9 b' V (HX6.out.step hk) (HE.out.stab _ _ _ HI6.out (zaa HB12.out hb)) (hkv.okk HBW.out) hU hle2 (.inr ⟨g', rfl⟩) (fun W' hk2 => HN12.out W' (zid (zcb hb) hk2)) HL12.out HPM.out).mono ?_)
                rintro e U ⟨rfl, hI, hK⟩
                exact ⟨_, rfl, fun _ => rfl, fun h => Bool.noConfusion h, fun _ h => absurd (h.symm.trans (zaj _ hd 7 (by decide))) (by simp), fun _ h => Bool.noConfusion h, fun _ => ⟨hI, zd1 (zcb hb) hK⟩⟩
              · exact fun L s V hu hd hn hJ => rm_v ⟨fun _ => rfl, hJ⟩
              · rintro L s V hL ⟨hB, g6, g7, g9⟩
                obtain ⟨hI, hK⟩ := g9 (hL 9 (by rfl))
                have HI9 := Aside0.mk hI
                have HK9 := Aside0.mk (zd1 HK6.out (zd1 (zcb HB12.out) hK))
                clear hB g6 g7 g9 hI hK hL
                simp only [zdp, riGo, zgt, zf9, zgr, zjd, mixV, Nat.reduceBEq, Nat.reduceAdd, List.headD, List.tail, List.getD, List.getElem?_cons_zero, List.getElem?_cons_succ, Option.getD_some, cond_true, cond_false]
                cases b' with
                | true =>
                  have HNX := Aside0.mk (show pgL G (xs.drop (i + 1)) s9 = some (b, s') from HNX.out)
                  go_wp2_with fail
                  go_roundw
                  case rel => exact ⟨i + 1, s9, by rw [HW.out], by omega, HNX, ⟨HE.out.stab _ _ _ HI9.out (by repeat (first | exact Below.refl _ _ | apply zbn | apply zbd))⟩, ⟨zd1 HK9.out (zcb (by repeat (first | exact Below.refl _ _ | apply zbn | apply zbd)))⟩⟩
                  case measure => rw [HW.out]; simp [intOf]; omega
                | false =>
                  obtain ⟨rfl, rfl⟩ : false = b ∧ s9 = s' := by have := HNX.out; exact Prod.mk.inj (Option.some.inj this)
                  go_wp2_with fail
                  go_ret
                  exact ⟨rfl, HE.out.stab _ _ _ HI9.out (by repeat (first | exact Below.refl _ _ | apply zbn | apply zbd)), zd1 HK9.out (zcb (by repeat (first | exact Below.refl _ _ | apply zbn | apply zbd)))⟩
          · obtain rfl : i = xs.length := by omega
            obtain ⟨rfl, rfl⟩ : true = b ∧ t = s' := by have := HL.out; rw [List.drop_length] at this; exact Prod.mk.inj (Option.some.inj this)
            have d1 : decide ((xs.length : Int) < xs.length) = false := decide_eq_false (by omega)
            clear hi hlt HL
            go_wp2_with fail
            go_ret
            exact ⟨rfl, HI.out, HK.out⟩
      · rw [if_neg hq] at h
        cases h
end
end Go.Proofs.YtnaafcleafbejaaGreat.Q
end
section
namespace Go.Proofs.YtnaafcleafbejaaGreat.Q
open Go.RowKit Go.Proofs.YtnaafcleafbejaaGreatW.PrintWords Go.Proofs.YtnaafcleafbejaaGreatW.PrintLast Go.Proofs.YtnaafcleafbejaaGreatW.PrintMore
attribute [local go_sem] zbc zbg zb8 zb9 za1 za2 zbi zbj
set_option linter.unusedVariables false
set_option linter.unusedSimpArgs false
def pgGo (k : Nat) (os : List ByteArray) (ims : List Int) : Nat → List (List S69) → Option (List (List S69))
  | 0, ls => some ls
  | m + 1, ls => if ls.length < 1048576 then (zgy k os ims ls.length).bind fun xs => pgGo k os ims m (ls ++ [xs]) else none
def pgP {σ : Type} (k : Nat) (os : List ByteArray) (ims : List Int) (n : Int) (st : List S69 → List (List Int) → σ → Option (Bool × σ)) (s : σ) : Option (Bool × σ) :=
  (pgGo k os ims n.toNat []).bind fun lists => (zht k).bind fun cs => if 0 < cs.length then pgM k lists n st k [] cs s else none
theorem zzt {α : Type} (d : Kd α) {e : Nat} {W : World} {base g : Nat} {ok : Nat → Prop} (h : W.heap[g]? = some (.cells #[] e (0, 0))) (hb : base ≤ g) (hok : ok g) : Kd.N d e W base ok (.slice (some ⟨g, 0, none⟩) 0 0) [] :=
  Kd.R_N ⟨fun k hk => by simp only [Value.ownBlock, Option.some.injEq] at hk; rw [← hk]; exact hok, [], ⟨by simp, .inr ⟨g, 0, #[], rfl, hb, h, Nat.le_refl _, Nat.zero_le _, by simp, by simp⟩⟩, Reps.none _ _⟩
theorem rm_N {P : Program} {ops : Array Oper} {o : Oper} {b : Act} {V0 : World} {R : Value → World → Prop} {Q : Exit → Act → World → Prop} {α : Type} (d : Kd α) (base : Nat) (hw : Region.wanted o (yielded ops b.tmps) = true) (s x : Operand) (t e : TypeId) (z : Value) (bytes : Nat)
    (ho : o.op = .call { callee := .builtin .append, args := #[s, x], argTypes := #[t, t] })
    (ht : P.underlying t = some (.slice e)) (hinfo : (P.info? e).map (fun i => (i.zero, i.size, i.bytes)) = some (some z, d.sz, bytes)) (hz : z.cells.size = d.sz) (hs0 : 0 < d.sz) (hb0 : 0 < bytes)
    (v : Value) (xs : List α) (p : α) (cs : List Value) (ok okp : Nat → Prop) (hs : b.eval s = v) (hx : b.eval x = .slice (some ⟨V0.heap.size, 0, none⟩) 1 1) (hp : Kd.FK d V0 okp p cs) (hokp : ∀ k, okp k → ok k ∧ some k ≠ v.ownBlock) (hfresh : ∀ k, V0.heap.size ≤ k → ok k)
    (HO : Kd.N d e V0 base ok v xs) (hbase : base ≤ V0.heap.size) (hl : (xs.length + 1) * bytes ≤ 140737488355328)
    (h : ∀ v1 w1, Kd.N d e w1 base ok v1 (xs ++ [p]) → Below base V0 w1 → V0.grownBy w1 v.ownBlock → R v1 w1) :
    zli P Q ops o b R (V0.alloc (.cells cs.toArray e)) := fun K hK =>
  Kd.N_append_step (w0 := V0) (Kc := K) d base hw s x t e z bytes ho ht hinfo hz hs0 hb0 v xs p cs ok okp hs hx hp hokp hfresh HO (Below.refl _ _) hbase hl (fun v1 w1 h1 h2 h3 _ => hK v1 w1 (h v1 w1 h1 h2 h3))
structure PrX (w : World) (Ao : Option Addr) (co : Nat) (os : List ByteArray) (Ai : Option Addr) (ci : Nat) (ims : List Int) (n : Int) (fe : FuncId) (ecap : Array Value) (g7 : Nat) (v7 vL : Value) (ls : List (List S69)) (W : World) : Prop where
  below : Below w.heap.size w W
  hi : w.heap.size + 3 < g7
  bL : W.heap[w.heap.size]? = some (.cells #[.slice Ao os.length co, .slice Ai ims.length ci] 34 (0, 0))
  bn : W.heap[w.heap.size + 1]? = some (.cells #[.int .i64 n] 3 (0, 0))
  be : W.heap[w.heap.size + 1 + 1]? = some (.cells #[.func (.func fe) #[] ecap] 66 (0, 0))
  b7 : W.heap[g7]? = some (.cells #[v7] 43 (0, 0))
  nl : Kd.N (Kd.slice 69 k69) 29 W (w.heap.size + 3) (fun k => w.heap.size + 3 ≤ k ∧ k ≠ g7) vL ls
section
variable {w : World} {Ao : Option Addr} {co : Nat} {os : List ByteArray} {Ai : Option Addr} {ci : Nat} {ims : List Int} {n : Int} {fe : FuncId} {ecap : Array Value} {g7 : Nat} {v7 vL v1 : Value} {ls ls1 : List (List S69)} {W W1 : World}
theorem PrX.step (h : PrX w Ao co os Ai ci ims n fe ecap g7 v7 vL ls W) (hb : Below W.heap.size W W1) : PrX w Ao co os Ai ci ims n fe ecap g7 v7 vL ls W1 :=
  ⟨zaa h.below hb, h.hi, zai h.bL hb, zai h.bn hb, zai h.be hb, zai h.b7 hb, Kd.N_below h.nl hb⟩
theorem PrX.grow (h : PrX w Ao co os Ai ci ims n fe ecap g7 v7 vL ls W) (hb : Below (w.heap.size + 3) W W1) (hg : W.grownBy W1 vL.ownBlock) (hN : Kd.N (Kd.slice 69 k69) 29 W1 (w.heap.size + 3) (fun k => w.heap.size + 3 ≤ k ∧ k ≠ g7) v1 ls1) : PrX w Ao co os Ai ci ims n fe ecap g7 v7 v1 ls1 W1 :=
  have key : ∀ k, ¬ (w.heap.size + 3 ≤ k ∧ k ≠ g7) → k < W.heap.size → W1.heap[k]? = W.heap[k]? := fun k hk hl => hg.block k hl (fun e => hk (h.nl.1 k e.symm))
  ⟨h.below.trans (hb.mono (by omega)), h.hi, (key _ (by omega) (ze7 h.bL)).trans h.bL, (key _ (by omega) (ze7 h.bn)).trans h.bn, (key _ (by omega) (ze7 h.be)).trans h.be, (key _ (by omega) (ze7 h.b7)).trans h.b7, hN⟩
theorem PrX.fill (h : PrX w Ao co os Ai ci ims n fe ecap g7 v7 vL ls W) (h7 : W1.heap[g7]? = some (.cells #[v1] 43 (0, 0))) (hb : ∀ base, base ≤ g7 → Below base W W1) (hfar : ∀ k, k ≠ g7 → W1.heap[k]? = W.heap[k]?) : PrX w Ao co os Ai ci ims n fe ecap g7 v1 vL ls W1 :=
  have hi := h.hi
  ⟨h.below.trans (hb _ (by omega)), hi, (hfar _ (by omega)).trans h.bL, (hfar _ (by omega)).trans h.bn, (hfar _ (by omega)).trans h.be, h7, Kd.N_step h.nl (fun k hk _ => hfar k hk.2)⟩
end
section
variable {σ : Type} {B : Bs} {fe : FuncId} {ecap : Array Value} {Inv : σ → World → Prop} {st : List S69 → List (List Int) → σ → Option (Bool × σ)}
set_option maxHeartbeats 8000000 in
set_option maxRecDepth 100000 in
theorem ydl (k : Nat) (hE : EachC B fe ecap Inv st) (Ao : Option Addr) (co : Nat) (os : List ByteArray) (Ai : Option Addr) (ci : Nat) (ims : List Int) (n : Int) (s0 s' : σ) (b : Bool) (w : World) (hI : Inv s0 w) (hB : B.ok w)
    (hro : Kd.C Kd.string w Ao os.length os) (hco : os.length ≤ co) (hri : Kd.C (Kd.int .i64) w Ai ims.length ims) (hci : ims.length ≤ ci) (h : pgP k os ims n st s0 = some (b, s')) :
    Calls Tryz.prog 94 #[.agg #[.slice Ao os.length co, .slice Ai ims.length ci], .int .i64 n, .func (.func fe) #[] ecap] w fun e W' => e = .returned (.bool b) ∧ Inv s' W' ∧ KeptB w W' B := by
  have HE := Aside0.mk hE
  have HI := Aside0.mk hI
  have HBW := Aside0.mk hB
  have HO := Aside0.mk hro
  have HM := Aside0.mk hri
  have HCO := Aside0.mk hco
  have HCI := Aside0.mk hci
  unfold pgP at h
  obtain ⟨lists, hls, h⟩ := Option.bind_eq_some_iff.1 h
  obtain ⟨cs, hcs, h⟩ := Option.bind_eq_some_iff.1 h
  have h0 : 0 < cs.length := by
    by_cases q : 0 < cs.length
    · exact q
    · rw [if_neg q] at h
      cases h
  rw [if_pos h0] at h
  have HLS := Aside0.mk hls
  have HCS := Aside0.mk hcs
  have H0 := Aside0.mk h0
  have H := Aside0.mk h
  clear hE hI hB hro hri hco hci hls hcs h0 h
  go_enter Tryz.func94, Tryz.ntmps94
  go_wp2_with (first
    | ((with_reducible refine zkx (N := 7) rfl ?_); go_must (
        obtain ⟨W0, hW0⟩ : ∃ W0, (((w.alloc (.cells #[.slice Ao os.length co, .slice Ai ims.length ci] 34)).alloc (.cells #[.int .i64 n] 3)).alloc (.cells #[.func (.func fe) #[] ecap] 66)).alloc (.cells #[] 29) = W0 := ⟨_, rfl⟩
        have hz : W0.heap.size = w.heap.size + 4 := by rw [← hW0]; simp
        have hb0 : Below w.heap.size w W0 := hW0 ▸ zba (zba (zba (zba (Below.refl _ _) _) _) _) _
        have h1 : W0.heap[w.heap.size]? = some (.cells #[.slice Ao os.length co, .slice Ai ims.length ci] 34 (0, 0)) := hW0 ▸ zka (zka (zka (zi4 w _) _) _) _
        have h2 : W0.heap[w.heap.size + 1]? = some (.cells #[.int .i64 n] 3 (0, 0)) := by rw [← hW0]; exact zka (zka (by simpa using zi4 (w.alloc (.cells #[.slice Ao os.length co, .slice Ai ims.length ci] 34)) (.cells #[.int .i64 n] 3)) _) _
        have h3 : W0.heap[w.heap.size + 1 + 1]? = some (.cells #[.func (.func fe) #[] ecap] 66 (0, 0)) := by rw [← hW0]; exact zka (by simpa using zi4 ((w.alloc (.cells #[.slice Ao os.length co, .slice Ai ims.length ci] 34)).alloc (.cells #[.int .i64 n] 3)) (.cells #[.func (.func fe) #[] ecap] 66)) _
        have h4 : W0.heap[w.heap.size + 1 + 1 + 1]? = some (.cells #[] 29 (0, 0)) := by rw [← hW0]; simpa using zi4 (((w.alloc (.cells #[.slice Ao os.length co, .slice Ai ims.length ci] 34)).alloc (.cells #[.int .i64 n] 3)).alloc (.cells #[.func (.func fe) #[] ecap] 66)) (.cells #[] 29)
        rw [hW0]
        clear hW0
        refine zh9 ?hg (N := 7) ?hd (cs := #[.slice none 0 0]) (t := 43) ?hr ?_
        (case hd => rfl)
        (case hg => rfl)
        (case hr => first | (go_simp; done) | (go_simp; rfl))
        intro g7 hg w5 hbox hb
        have HX5 := Aside0.mk (show PrX w Ao co os Ai ci ims n fe ecap g7 (.slice none 0 0) (.slice (some ⟨w.heap.size + 1 + 1 + 1, 0, none⟩) 0 0) [] w5 from ⟨zaa hb0 hb, by omega, zai h1 hb, zai h2 hb, zai h3 hb, hbox, zzt _ (zai h4 hb) (by omega) ⟨by omega, by omega⟩⟩)
        clear hz hb0 h1 h2 h3 h4 hg hbox hb))
    | ((with_reducible refine zi1 (t := 43) (p := 7) rfl ?_); go_must (refine ziv rfl (t := 43) (p := 7) rfl rfl (g := g7) (u := .slice (some ⟨w.heap.size + 1 + 1 + 1, 0, none⟩) 0 0) (seg := [.slice (some ⟨w.heap.size + 1 + 1 + 1, 0, none⟩) 0 0]) rfl rfl HX5.out.b7 rfl rfl rfl (by simp [Value.oneCell']) ?_; intro w6 hbb hbw hfar; have HX := Aside0.mk (HX5.out.fill hbb hbw hfar); have q1 := zae HX.out.bn 0; clear hbb hbw hfar HX5)))
  go_loopw [12] (fun v12 wr => ∃ (m : Nat) (vL : Value) (ls : List (List S69)), v12 = .int .i64 (ls.length : Int) ∧ ls.length + m = n.toNat ∧ Aside0 (pgGo k os ims m ls = some lists) ∧ Aside0 (PrX w Ao co os Ai ci ims n fe ecap g7 vL vL ls wr)) (fun v12 _ => n.toNat - (intOf v12).toNat)
  case atStart => exact ⟨n.toNat, _, [], rfl, by simp, HLS, ⟨HX.out.step (by repeat (first | exact Below.refl _ _ | apply zbn | apply zbd))⟩⟩
  case round =>
    clear HX q1 HLS
    obtain ⟨m, vL, ls, rfl, hm, HLS, HX⟩ := hrel
    cases m with
    | succ m =>
      have h := HLS.out
      simp only [pgGo] at h
      have hl : ls.length < 1048576 := by
        by_cases q : ls.length < 1048576
        · exact q
        · rw [if_neg q] at h
          cases h
      rw [if_pos hl] at h
      obtain ⟨xs, hxs, h⟩ := Option.bind_eq_some_iff.1 h
      have HL := Aside0.mk hl
      have HXS := Aside0.mk hxs
      have HNX := Aside0.mk h
      have d1 : decide ((ls.length : Int) < n) = true := decide_eq_true (by omega)
      have hw : wrap64 ((ls.length : Int) + 1) = ((ls.length + 1 : Nat) : Int) := by unfold wrap64; omega
      have HW := Aside0.mk hw
      clear h hl hxs HLS hw
      obtain ⟨Al, cl, rfl⟩ := Kd.N_slice HX.out.nl
      go_wp2_with fail
      refine zot [[], [], [], [1, 2], [1, 2, 3], [0, 1, 2, 3, 4], [0, 1, 2, 3, 4, 5]] [[5, 6], [3, 4, 5, 6], [3, 4, 5, 6], [4, 5, 6], [5, 6], [6], []] (zgr [3, 4, 5])
        (zjd [.slice Al ls.length cl, .agg #[.slice Ao os.length co, .slice Ai ims.length ci], .int .i64 (ls.length : Int), undef, undef, undef, undef])
        (fun L s V => (L 5 = false → Below wr.heap.size wr V) ∧ (L 3 = true → L 4 = false → ∃ A' c', s 3 = .slice A' xs.length c' ∧ xs.length ≤ c' ∧ Kd.F k69 V (fun k => wr.heap.size ≤ k) A' xs.length xs) ∧ (L 4 = true → L 5 = false → ∃ V0 A' c', V = World.alloc V0 (.cells #[.slice A' xs.length c'] 29) ∧ s 4 = .slice (some ⟨V0.heap.size, 0, none⟩) 1 1 ∧ xs.length ≤ c' ∧ Below wr.heap.size wr V0 ∧ Kd.F k69 V0 (fun k => wr.heap.size ≤ k) A' xs.length xs) ∧ (L 5 = true → L 6 = false → PrX w Ao co os Ai ci ims n fe ecap g7 (.slice Al ls.length cl) (s 5) (ls ++ [xs]) V) ∧ (L 6 = true → ∃ v1, PrX w Ao co os Ai ci ims n fe ecap g7 v1 v1 (ls ++ [xs]) V))
        rfl (fun _ _ _ _ _ h => h) (by kernel_rfl) ⟨fun _ => ze8 (Below.refl _ _), fun h => Bool.noConfusion h, fun h => Bool.noConfusion h, fun h => Bool.noConfusion h, fun h => Bool.noConfusion h⟩ ⟨?_, ?_, ?_, ?_, ?_, ?_, ?_, trivial⟩ ?_
      · intro L s V hu hd hn hJ
        have z0 := zae (HX.out.step (hJ.1 (zaj _ hn 5 (by decide)))).b7 0
        exact rm_v ⟨fun _ => rfl, hJ⟩
      · intro L s V hu hd hn hJ
        have z0 := zae (HX.out.step (hJ.1 (zaj _ hn 5 (by decide)))).bL 0
        have z1 := zae (HX.out.step (hJ.1 (zaj _ hn 5 (by decide)))).bL 1
        exact rm_v ⟨fun _ => rfl, hJ⟩
      · exact fun L s V hu hd hn hJ => rm_v ⟨fun _ => rfl, hJ⟩
      · rintro L s V hu hd hn ⟨hB, g3, g4, g5, g6⟩
        have hb0 := hB (zaj _ hn 5 (by decide))
        have hbw := zaa HX.out.below hb0
        refine zil Tryz.func131 (by kernel_rfl) rfl #[.agg #[.slice Ao os.length co, .slice Ai ims.length ci], .int .i64 (ls.length : Int)] (by rfl) rfl (by simp only [List.map_toArray, List.map_cons, List.map_nil]; rfl) ((zsk k Ao co os (fun k_ => k_ < w.heap.size) Ai ci ims (ls.length : Int) xs V (Kd.C_below HO.out hbw) HCO.out (Kd.V_mk HCI.out (Kd.F_below (Kd.C_F (Kd.heap_int .i64) HM.out) hbw)) HXS.out).mono ?_)
        rintro e U ⟨v0, rfl, hR, hb⟩
        obtain ⟨A', c', rfl⟩ := Kd.R_slice hR
        exact ⟨_, rfl, fun h => absurd h (by decide), fun _ => zaa hb0 hb, fun _ _ => ⟨A', c', rfl, (Kd.R_reads' hR).2.1, Kd.F_mono (Kd.N_F (Kd.R_N hR)) (fun k hk => Nat.le_trans hb0.size hk)⟩, fun h => absurd (h.symm.trans (zaj _ hn 4 (by decide))) (by simp), fun h => absurd (h.symm.trans (zaj _ hn 5 (by decide))) (by simp), fun h => absurd (h.symm.trans (zaj _ hn 6 (by decide))) (by simp)⟩
      · rintro L s V hu hd hn ⟨hB, g3, g4, g5, g6⟩
        have hb0 := hB (zaj _ hn 5 (by decide))
        obtain ⟨A', c', e3, hle, hF⟩ := g3 (zaj _ hd 3 (by decide)) hu
        refine zj7 (v := .slice (some ⟨V.heap.size, 0, none⟩) 1 1) (w1 := V.alloc (.cells #[.slice A' xs.length c'] 29)) (by rfl) ⟨fun h => absurd h (by decide), fun _ => zba hb0 _, fun _ h => Bool.noConfusion h, fun _ _ => ⟨V, A', c', rfl, rfl, hle, hb0, hF⟩, fun h => absurd (h.symm.trans (zaj _ hn 5 (by decide))) (by simp), fun h => absurd (h.symm.trans (zaj _ hn 6 (by decide))) (by simp)⟩ ?_
        simp only [zdp, riGo, zgt, zf9, zgr, zjd, mixV, Nat.reduceBEq, Nat.reduceAdd, List.headD, List.tail, List.getD, List.getElem?_cons_zero, List.getElem?_cons_succ, Option.getD_some, cond_true, cond_false]
        rw [e3]
        first | (go_simp; done) | (go_simp; rfl)
      · rintro L s V hu hd hn ⟨hB, g3, g4, g5, g6⟩
        obtain ⟨V0, A', c', rfl, e4, hle, hb0, hF⟩ := g4 (zaj _ hd 4 (by decide)) hu
        have hX := HX.out.step hb0
        have hl := HL.out
        have hz := hb0.size
        have h7 := ze7 HX.out.b7
        have hhi := HX.out.hi
        refine rm_N (Kd.slice 69 k69) (w.heap.size + 3) (by rfl) (.tmp 15) (.tmp 19) 43 29 (.slice none 0 0) 24 rfl Tryz.underlying43 (by kernel_rfl) rfl (by decide) (by decide) (.slice Al ls.length cl) ls xs [.slice A' xs.length c'] (fun k => w.heap.size + 3 ≤ k ∧ k ≠ g7) (fun k => wr.heap.size ≤ k) (by rfl) e4 (Kd.FK_slice_mk hle hF) (fun k hk => ⟨⟨by omega, by omega⟩, fun e => by have := Kd.N_lt HX.out.nl k e.symm; omega⟩) (fun k hk => ⟨by omega, by omega⟩) hX.nl (by omega) (by omega) (fun v1 w1 h1 h2 h3 => ?_)
        exact ⟨fun h => absurd h (by decide), fun h => Bool.noConfusion h, fun _ h => absurd (h.symm.trans (zaj _ hd 4 (by decide))) (by simp), fun _ h => Bool.noConfusion h, fun _ _ => hX.grow h2 h3 h1, fun h => absurd (h.symm.trans (zaj _ hn 6 (by decide))) (by simp)⟩
      · rintro L s V hu hd hn ⟨hB, g3, g4, g5, g6⟩
        have hX := g5 (zaj _ hd 5 (by decide)) hu
        have hv := Kd.N_val hX.nl
        refine zzr (by rfl) (t := 43) (p := .tmp 7) (v := .tmp 20) rfl rfl (g := g7) (u := s 5) (seg := [s 5]) (by rfl) (by rfl) hX.b7 hv.1 (by kernel_rfl) rfl (fun q hq => by rw [List.mem_singleton.1 hq]; exact hv.2) (fun W1 h1 h2 h3 => ?_)
        exact ⟨fun _ => rfl, fun h => absurd (h.symm.trans (zaj _ hd 5 (by decide))) (by simp), fun _ h => absurd (h.symm.trans (zaj _ hd 4 (by decide))) (by simp), fun _ h => absurd (h.symm.trans (zaj _ hd 5 (by decide))) (by simp), fun _ h => Bool.noConfusion h, fun _ => ⟨s 5, hX.fill h1 h2 h3⟩⟩
      · rintro L s V hL ⟨hB, g3, g4, g5, g6⟩
        obtain ⟨v1, hX⟩ := g6 (hL 6 (by rfl))
        have HX1 := Aside0.mk hX
        clear hB g3 g4 g5 g6 hX hL
        simp only [zdp, riGo, zgt, zf9, zgr, zjd, mixV, Nat.reduceBEq, Nat.reduceAdd, List.headD, List.tail, List.getD, List.getElem?_cons_zero, List.getElem?_cons_succ, Option.getD_some, cond_true, cond_false]
        go_wp2_with fail
        go_roundw
        case rel => exact ⟨m, v1, ls ++ [xs], by rw [HW.out, List.length_append]; rfl, by rw [List.length_append, List.length_singleton]; omega, HNX, ⟨HX1.out.step (by repeat (first | exact Below.refl _ _ | apply zbn | apply zbd))⟩⟩
        case measure => rw [HW.out]; simp [intOf]; omega
    | zero =>
      have h := HLS.out
      simp only [pgGo] at h
      obtain rfl := Option.some.inj h
      have d1 : decide ((ls.length : Int) < n) = false := decide_eq_false (by omega)
      obtain ⟨Al, cl, rfl⟩ := Kd.N_slice HX.out.nl
      clear h hm HLS
      go_wp2_with (first
        | ((with_reducible refine zkx (N := 9) rfl ?_); go_must (refine zh9 ?hg (N := 9) ?hd (cs := #[Value.nilFunc]) (t := 66) ?hr ?_; (case hd => rfl); (case hg => rfl); (case hr => first | (go_simp; done) | (go_simp; rfl)); intro gf hg w5 hbox hb; have GX := Aside0.mk (Nat.le_of_eq hg.symm); have BX := Aside0.mk hbox; have HBX := Aside0.mk hb; clear hg hbox hb))
        | ((with_reducible refine zi1 (t := 66) (p := 9) rfl ?_); go_must (refine ziv rfl (t := 66) (p := 9) rfl rfl (g := gf) (u := .func (.func 132) #[] #[.pointer (some ⟨w.heap.size + 1, 0, none⟩), .pointer (some ⟨w.heap.size + 1 + 1, 0, none⟩), .pointer (some ⟨g7, 0, none⟩), .pointer (some ⟨gf, 0, none⟩)]) (seg := [.func (.func 132) #[] #[.pointer (some ⟨w.heap.size + 1, 0, none⟩), .pointer (some ⟨w.heap.size + 1 + 1, 0, none⟩), .pointer (some ⟨g7, 0, none⟩), .pointer (some ⟨gf, 0, none⟩)]]) rfl rfl BX.out rfl rfl rfl (by simp [Value.oneCell']) ?_; intro w6 hbb hbw hfar; have hb6 := HBX.out.trans (hbw _ GX.out); have HX6 := Aside0.mk (HX.out.step (by repeat (first | exact hb6 | apply zbn | apply zbd))); have HG := Aside0.mk (show w.heap.size ≤ gf from Nat.le_trans HX.out.below.size (by have := GX.out; first | exact this | simpa using this)); have BX := Aside0.mk hbb; clear hb6 hbw hfar hbb GX HBX)))
      have HP := Aside0.mk (show PgX B fe ecap ls Al cl n (w.heap.size + 1) (w.heap.size + 1 + 1) g7 gf w6 from ⟨HX6.out.bn, HX6.out.be, HX6.out.b7, BX.out, ⟨fun h => by have := B.old HBW.out HX6.out.below h; omega, fun h => by have := B.old HBW.out HX6.out.below h; omega, fun h => by have := B.old HBW.out HX6.out.below h; have := HX6.out.hi; omega, fun h => by have := B.old HBW.out HX6.out.below h; have := HG.out; omega⟩, fun W' hk => (Kd.N_reads' (Kd.N_kept HX6.out.nl hk (fun k hk hb => by have := B.old HBW.out HX6.out.below hb; omega))).2.2⟩)
      refine zot [[], [], [0, 1], [0, 1, 2]] [[2, 3], [2, 3], [3], []] (zgr [1])
        (zjd [.func (.func 132) #[] #[.pointer (some ⟨w.heap.size + 1, 0, none⟩), .pointer (some ⟨w.heap.size + 1 + 1, 0, none⟩), .pointer (some ⟨g7, 0, none⟩), .pointer (some ⟨gf, 0, none⟩)], undef, .bool b, .bool b])
        (fun L s V => (L 2 = false → Below w6.heap.size w6 V) ∧ (L 1 = true → L 2 = false → ∃ g' c', s 1 = .slice (some ⟨g', 0, none⟩) cs.length c' ∧ cs.length ≤ c' ∧ ∀ W', Kept V W' (B.B V) → Kd.C (Kd.slice 5 (Kd.int .u8)) W' (some ⟨g', 0, none⟩) cs.length cs) ∧ (L 2 = true → Inv s' V ∧ KeptB w6 V B))
        rfl (fun _ _ _ _ _ h => h) (by kernel_rfl) ⟨fun _ => ze8 (Below.refl _ _), fun h => Bool.noConfusion h, fun h => Bool.noConfusion h⟩ ⟨?_, ?_, ?_, ?_, trivial⟩ ?_
      · refine fun L s V hu hd hn hJ => zj7 (by rfl) ⟨fun _ => rfl, hJ⟩ ?_
        have z0 := zae (HP.out.step (zcb (hJ.1 (zaj _ hn 2 (by decide))))).bf 0
        clear hJ
        simp only [zdp, riGo, zgt, zf9, zgr, zjd, mixV, Nat.reduceBEq, Nat.reduceAdd, List.headD, List.tail, List.getD, List.getElem?_cons_zero, List.getElem?_cons_succ, Option.getD_some, cond_true, cond_false]
        first | (go_simp; done) | (go_simp; rfl)
      · rintro L s V hu hd hn ⟨hB, g1, g2⟩
        have hb0 := hB (zaj _ hn 2 (by decide))
        refine zil Tryz.func134 (by kernel_rfl) rfl #[] (by rfl) rfl (by simp) ((zso k cs V HCS.out).mono ?_)
        rintro e U ⟨v0, rfl, hR, hb⟩
        obtain ⟨g', c', rfl, _⟩ := Kd.N_form hR H0.out
        exact ⟨_, rfl, fun h => absurd h (by decide), fun _ => zaa hb0 hb, fun _ _ => ⟨g', c', rfl, (Kd.N_reads' hR).2.1, fun W' hk => (Kd.N_reads' (Kd.N_kept hR hk (fun k hk hbk => by have := B.old HBW.out (zaa (zaa HX6.out.below hb0) hb) hbk; have := HX6.out.below.size; have := hb0.size; omega))).2.2⟩, fun h => absurd (h.symm.trans (zaj _ hn 2 (by decide))) (by simp)⟩
      · rintro L s V hu hd hn ⟨hB, g1, g2⟩
        have hb0 := hB hu
        obtain ⟨g', c', e1, hle, hC⟩ := g1 (zaj _ hd 1 (by decide)) hu
        have hz : w.heap.size ≤ V.heap.size := Nat.le_trans HX6.out.below.size hb0.size
        refine zxz Tryz.func132 (by kernel_rfl) rfl #[.slice none 0 0, .slice (some ⟨g', 0, none⟩) cs.length c', .pointer (some ⟨w.heap.size + 1, 0, none⟩), .pointer (some ⟨w.heap.size + 1 + 1, 0, none⟩), .pointer (some ⟨g7, 0, none⟩), .pointer (some ⟨gf, 0, none⟩)] (first := #[]) (cap := #[.pointer (some ⟨w.heap.size + 1, 0, none⟩), .pointer (some ⟨w.heap.size + 1 + 1, 0, none⟩), .pointer (some ⟨g7, 0, none⟩), .pointer (some ⟨gf, 0, none⟩)]) (by rfl) rfl (by rfl) (by simp only [List.map_toArray, List.map_cons, List.map_nil]; rw [show Act.eval _ (.tmp 24) = s 1 from rfl, e1]; rfl) ((ybx k HE.out k none 0 [] g' c' cs s0 s' b V (HP.out.step (zcb hb0)) (HE.out.stab _ _ _ HI.out (zaa HX6.out.below hb0)) (B.okb (zaa HX6.out.below hb0) HBW.out) (fun W' _ => Kd.C_nil _ W') (Nat.le_refl _) (.inl ⟨rfl, rfl, rfl⟩) hC hle H.out).mono ?_)
        rintro e U ⟨rfl, hI, hK⟩
        exact ⟨_, rfl, fun _ => rfl, fun h => Bool.noConfusion h, fun _ h => Bool.noConfusion h, fun _ => ⟨hI, zd1 (zcb hb0) hK⟩⟩
      · exact fun L s V hu hd hn hJ => rm_v ⟨fun _ => rfl, hJ⟩
      · rintro L s V hL ⟨hB, g1, g2⟩
        obtain ⟨hI, hK⟩ := g2 (hL 2 (by rfl))
        have HI9 := Aside0.mk hI
        have HK9 := Aside0.mk (zd1 (zcb HX6.out.below) hK)
        clear hB g1 g2 hI hK hL
        simp only [zdp, riGo, zgt, zf9, zgr, zjd, mixV, Nat.reduceBEq, Nat.reduceAdd, List.headD, List.tail, List.getD, List.getElem?_cons_zero, List.getElem?_cons_succ, Option.getD_some, cond_true, cond_false]
        go_wp2_with fail
        go_ret
        exact ⟨rfl, HE.out.stab _ _ _ HI9.out (by repeat (first | exact Below.refl _ _ | apply zbn | apply zbd)), zd1 HK9.out (zcb (by repeat (first | exact Below.refl _ _ | apply zbn | apply zbd)))⟩
end
end Go.Proofs.YtnaafcleafbejaaGreat.Q
end
section
namespace Go.Proofs.YtnaafcleafbejaaGreat.Q
open Go.RowKit Go.Proofs.YtnaafcleafbejaaGreatW.PrintWords Go.Proofs.YtnaafcleafbejaaGreatW.PrintLast Go.Proofs.YtnaafcleafbejaaGreatW.PrintMore
set_option maxHeartbeats 8000000
set_option maxRecDepth 100000
attribute [local go_sem] zbc zbg zb8 zb9 za1 za2 zbi zbj
set_option linter.unusedVariables false
set_option linter.unusedSimpArgs false
def zcp : Nat → List (List Int) → List Int → Int → Int → ByteArray → Int → Int → Int → Int → Option (Bool)
 | 0, _, _, _, _, _, _, _, _, _ => none
 | k + 1, x1, x9, x10, x11, x102000, x102001, x102002, x102003, x102004 => if x11 < x10 then (if 0 ≤ x11 then (if x11 < (x9.length : Int) then ((zf1 k x102000 x102001 x102002 x102003 x102004 x1 x11).bind fun t103 => (if t103 = (rd x9 x11) then (zcp k x1 x9 x10 (wrap64 (x11 + 1)) x102000 x102001 x102002 x102003 x102004) else (some false))) else (none)) else (none)) else (some true)
def zfn (k : Nat) (a0_0 : ByteArray) (a0_1 : Int) (a0_2 : Int) (a0_3 : Int) (a0_4 : Int) (l1 : List (List Int)) (l2 : List Int) : Option (Bool) := zcp k l1 l2 (l2.length : Int) 0 a0_0 a0_1 a0_2 a0_3 a0_4
theorem zlk : ∀ k, (∀ y0 y1 y2 y3 y4 y5 y6 y7 y8, LeO (zcp k y0 y1 y2 y3 y4 y5 y6 y7 y8) (zcp (k + 1) y0 y1 y2 y3 y4 y5 y6 y7 y8))
 | 0 => fun _ _ _ _ _ _ _ _ _ r h => by simp [zcp] at h
 | k + 1 => by
   have ih0 := zlk k
   · intro y0 y1 y2 y3 y4 y5 y6 y7 y8
     unfold zcp
     exact zm2 ih0 zja
theorem zqg : ∀ a0 a1 a2 a3 a4 a5 a6 k, LeO (zfn k a0 a1 a2 a3 a4 a5 a6) (zfn (k + 1) a0 a1 a2 a3 a4 a5 a6) := by
 intro a0 a1 a2 a3 a4 a5 a6 k
 have ih0 := zlk k
 unfold zfn
 exact zm2 ih0 zja
theorem zpw (k : Nat) (a0_0 : ByteArray) (a0_1 : Int) (a0_2 : Int) (a0_3 : Int) (a0_4 : Int) (A1 : Option Addr) (c1 : Nat) (l1 : List (List Int)) (A2 : Option Addr) (c2 : Nat) (l2 : List Int) (r : Bool) (w : World) (hr1 : Kd.C (Kd.slice 5 (Kd.int .u8)) w A1 l1.length l1) (hc1 : l1.length ≤ c1) (hr2 : Kd.C (Kd.int .u8) w A2 l2.length l2) (hc2 : l2.length ≤ c2) (h : zfn k a0_0 a0_1 a0_2 a0_3 a0_4 l1 l2 = some r) :
   Calls Tryz.prog 97 #[.agg #[.string a0_0, .int .i64 a0_1, .int .i64 a0_2, .int .i64 a0_3, .int .i64 a0_4], .slice A1 l1.length c1, .slice A2 l2.length c2] w fun e w' => e = .returned (.bool r) ∧ Below w.heap.size w w' := by
 have hu69 := Tryz.underlying69
 have HR1 := zA hr1
 have HC1 := zA hc1
 clear hr1 hc1
 have HR2 := zA hr2
 have HC2 := zA hc2
 clear hr2 hc2
 have HB := zA (Below.refl w.heap.size w)
 have H := h
 unfold zfn at H
 clear h
 have H' := zA H
 clear H
 go_enter Tryz.func97, Tryz.ntmps97
 go_wp2_with (first | ((with_reducible refine zgd 3 ?_); refine zbx #[.string a0_0, .int .i64 a0_1, .int .i64 a0_2, .int .i64 a0_3, .int .i64 a0_4] 69 ?_; intro gb101 hg w4 hbox hb; have zs := zpair zq2 hb; replace HB := zA (zs.1); have BK101 := zA (hbox); have GW101 := zA (zge hg zs.2); have GE101 := GW101; clear zs hb hbox hg))
 go_loopg [11] k (fun kq v11 w' => ∃ (x11_1 : Int), v11 = .int .i64 x11_1 ∧ Aside0 (zcp kq l1 l2 (l2.length : Int) x11_1 a0_0 a0_1 a0_2 a0_3 a0_4 = some r) ∧ Aside0 (kq ≤ k) ∧ Aside0 (w'.heap[gb101]? = some (.cells #[.string a0_0, .int .i64 a0_1, .int .i64 a0_2, .int .i64 a0_3, .int .i64 a0_4] 69 (0, 0))) ∧ Aside0 (Below w.heap.size w w'))
 case atStart => exact ⟨(0), zq5, H', ⟨zlr _⟩, ⟨zq6 BK101⟩, ⟨zq1 GE101⟩⟩
 clear H'
 try clear c1
 try clear c2
 obtain ⟨x11_1, rfl, HA, HK1, BK101, HB⟩ := hrel
 cases gk with
 | zero => exact absurd HA.out (by simp [zcp])
 | succ k1 =>
 have H := HA.out
 clear HA
 simp only [zcp] at H
 revert H
 refine zit (fun c5 H => ?_) fun c5 H => ?_
 rotate_left
 · obtain rfl := zsi H
   go_wp2
   go_ret
   exact ⟨zq4, zq1 GE101⟩
 revert H
 refine zin fun c6 H => ?_
 revert H
 refine zin fun c7 H => ?_
 replace H := zob H
 obtain ⟨t103, A80, H⟩ := H
 have A8 := zA A80
 clear A80
 by_cases c9 : t103 = (rd l2 x11_1)
 rotate_left
 · rw [if_neg c9] at H
   obtain ⟨c9b0, c9b1⟩ := zbq c9
   obtain rfl := zsi H
   obtain ⟨p102, q102⟩ := zpq x11_1 l2.length
   obtain ⟨ad102, e102, hx102_0⟩ := Kd.at_int HR2.out x11_1 (zoe p102) (zoe q102)
   cases e102
   replace hx102_0 := zkep HB.out hx102_0
   obtain ⟨hcz12_0, hcz12_1, hcz12_2, hcz12_3, hcz12_4⟩ := zc5 wr (.string a0_0) (.int .i64 a0_1) (.int .i64 a0_2) (.int .i64 a0_3) (.int .i64 a0_4) BK101.out
   obtain ⟨hfz12_0, hfz12_1, hfz12_2, hfz12_3, hfz12_4⟩ := zf5 BK101.out
   go_wp2_with (first | ((with_reducible refine zgc 135 ?_); refine zca 19 Tryz.func135 #[.agg #[.string a0_0, .int .i64 a0_1, .int .i64 a0_2, .int .i64 a0_3, .int .i64 a0_4], .slice A1 l1.length c1, .int .i64 x11_1] (zkm k1 a0_0 a0_1 a0_2 a0_3 a0_4 _ _ l1 x11_1 t103 _ (zq7 HR1) HC1.out A8.out) ?_; rintro e w13 ⟨rfl, hb⟩; refine ⟨_, rfl, ?_⟩; replace BK101 := zbb BK101 hb; replace HB := zA (zaa (zq1 GE101) hb); (try clear hb)))
   go_ret
   exact ⟨zq4, zq1 GE101⟩
 rw [if_pos c9] at H
 obtain ⟨c9b0, c9b1⟩ := zbe c9
 clear c9
 have H' := zA H
 clear H
 obtain ⟨p102, q102⟩ := zpq x11_1 l2.length
 obtain ⟨ad102, e102, hx102_0⟩ := Kd.at_int HR2.out x11_1 (zoe p102) (zoe q102)
 cases e102
 replace hx102_0 := zkep HB.out hx102_0
 obtain ⟨hcz10_0, hcz10_1, hcz10_2, hcz10_3, hcz10_4⟩ := zc5 wr (.string a0_0) (.int .i64 a0_1) (.int .i64 a0_2) (.int .i64 a0_3) (.int .i64 a0_4) BK101.out
 obtain ⟨hfz10_0, hfz10_1, hfz10_2, hfz10_3, hfz10_4⟩ := zf5 BK101.out
 go_wp2_with (first | ((with_reducible refine zgc 135 ?_); refine zca 19 Tryz.func135 #[.agg #[.string a0_0, .int .i64 a0_1, .int .i64 a0_2, .int .i64 a0_3, .int .i64 a0_4], .slice A1 l1.length c1, .int .i64 x11_1] (zkm k1 a0_0 a0_1 a0_2 a0_3 a0_4 _ _ l1 x11_1 t103 _ (zq7 HR1) HC1.out A8.out) ?_; rintro e w11 ⟨rfl, hb⟩; refine ⟨_, rfl, ?_⟩; replace BK101 := zbb BK101 hb; replace HB := zA (zaa (zq1 GE101) hb); (try clear hb)))
 go_roundg k1
 case measure => have := HK1.out; omega
 case rel => exact ⟨(wrap64 (x11_1 + 1)), zq5, H', ⟨zq31 HK1⟩, ⟨zq6 BK101⟩, ⟨zq1 GE101⟩⟩
def zbp : Nat → List Int → List Int → Int → Int → Option (Bool)
 | 0, _, _, _, _ => none
 | k + 1, x0, x1, x12, x13 => if x13 < x12 then (if 0 ≤ x13 then (if x13 < (x0.length : Int) then (if x13 < (x1.length : Int) then (if (rd x0 x13) = (rd x1 x13) then (zbp k x0 x1 x12 (wrap64 (x13 + 1))) else (some false)) else (none)) else (none)) else (none)) else (some true)
def zdq (k : Nat) (l0 : List Int) (l1 : List Int) : Option (Bool) := if (l0.length : Int) = (l1.length : Int) then (zbp k l0 l1 (l0.length : Int) 0) else (some false)
theorem zjk : ∀ k, (∀ y0 y1 y2 y3, LeO (zbp k y0 y1 y2 y3) (zbp (k + 1) y0 y1 y2 y3))
 | 0 => fun _ _ _ _ r h => by simp [zbp] at h
 | k + 1 => by
   have ih0 := zjk k
   · intro y0 y1 y2 y3
     unfold zbp
     exact zm1 ih0
theorem zon : ∀ a0 a1 k, LeO (zdq k a0 a1) (zdq (k + 1) a0 a1) := by
 intro a0 a1 k
 have ih0 := zjk k
 unfold zdq
 exact zm1 ih0
theorem zn5 (k : Nat) (A0 : Option Addr) (c0 : Nat) (l0 : List Int) (A1 : Option Addr) (c1 : Nat) (l1 : List Int) (r : Bool) (w : World) (hr0 : Kd.C (Kd.int .u8) w A0 l0.length l0) (hc0 : l0.length ≤ c0) (hr1 : Kd.C (Kd.int .u8) w A1 l1.length l1) (hc1 : l1.length ≤ c1) (h : zdq k l0 l1 = some r) :
   Calls Tryz.prog 96 #[.slice A0 l0.length c0, .slice A1 l1.length c1] w fun e w' => e = .returned (.bool r) ∧ Drawn0 w w' := by
 have HR0 := zA hr0
 have HC0 := zA hc0
 clear hr0 hc0
 have HR1 := zA hr1
 have HC1 := zA hc1
 clear hr1 hc1
 have H := h
 unfold zdq at H
 clear h
 by_cases c3 : (l0.length : Int) = (l1.length : Int)
 rotate_left
 · rw [if_neg c3] at H
   obtain ⟨c3b0, c3b1⟩ := zbq c3
   have c3b2 : (l0.length == l1.length) = false := by first | simpa using c3 | (simp at c3 ⊢; omega)
   obtain rfl := zsi H
   go_enter Tryz.func96, Tryz.ntmps96
   go_wp2
   repeat (go_quiet (fail); try go_wp2)
   exact zr_5
 rw [if_pos c3] at H
 obtain ⟨c3b0, c3b1⟩ := zbe c3
 have c3b2 : (l0.length == l1.length) = true := by first | simpa using c3 | (simp at c3 ⊢; omega)
 clear c3
 have H' := zA H
 clear H
 go_enter Tryz.func96, Tryz.ntmps96
 go_wp2
 repeat (go_quiet (fail); try go_wp2)
 go_loopg [13] k (fun kq v13 w' => ∃ (x13_1 : Int), v13 = .int .i64 x13_1 ∧ Aside0 (zbp kq l0 l1 (l0.length : Int) x13_1 = some r) ∧ Aside0 (kq ≤ k) ∧ Drawn0 w w')
 case atStart => exact ⟨(0), zq5, H', ⟨zlr _⟩, zq8⟩
 clear H'
 try clear c1
 try clear c3
 try clear c3b0
 try clear c3b1
 try clear c3b2
 obtain ⟨x13_1, rfl, HA, HK1, ⟨m1, rfl⟩⟩ := hrel
 cases gk with
 | zero => exact absurd HA.out (by simp [zbp])
 | succ k1 =>
 have H := HA.out
 clear HA
 simp only [zbp] at H
 revert H
 refine zit (fun c4 H => ?_) fun c4 H => ?_
 rotate_left
 · obtain rfl := zsi H
   go_wp2
   repeat (go_quiet (fail); try go_wp2)
   exact zr_5
 revert H
 refine zin fun c5 H => ?_
 revert H
 refine zin fun c6 H => ?_
 revert H
 refine zin fun c7 H => ?_
 by_cases c8 : (rd l0 x13_1) = (rd l1 x13_1)
 rotate_left
 · rw [if_neg c8] at H
   obtain ⟨c8b0, c8b1⟩ := zbq c8
   obtain rfl := zsi H
   obtain ⟨p101, q101⟩ := zpq x13_1 l0.length
   obtain ⟨ad101, e101, hx101_0⟩ := Kd.at_int HR0.out x13_1 (zoe p101) (zoe q101)
   cases e101
   obtain ⟨p102, q102⟩ := zpq x13_1 l1.length
   obtain ⟨ad102, e102, hx102_0⟩ := Kd.at_int HR1.out x13_1 (zoe p102) (zoe q102)
   cases e102
   go_wp2
   repeat (go_quiet (fail); try go_wp2)
   exact zr_5
 rw [if_pos c8] at H
 obtain ⟨c8b0, c8b1⟩ := zbe c8
 clear c8
 have H' := zA H
 clear H
 obtain ⟨p101, q101⟩ := zpq x13_1 l0.length
 obtain ⟨ad101, e101, hx101_0⟩ := Kd.at_int HR0.out x13_1 (zoe p101) (zoe q101)
 cases e101
 obtain ⟨p102, q102⟩ := zpq x13_1 l1.length
 obtain ⟨ad102, e102, hx102_0⟩ := Kd.at_int HR1.out x13_1 (zoe p102) (zoe q102)
 cases e102
 go_wp2
 repeat (go_quiet (fail); try go_wp2)
 go_roundg k1
 case measure => have := HK1.out; omega
 case rel => exact ⟨(wrap64 (x13_1 + 1)), zq5, H', ⟨zq31 HK1⟩, zq8⟩
end Go.Proofs.YtnaafcleafbejaaGreat.Q
end
section
namespace Go.Proofs.YtnaafcleafbejaaGreat.Q
open Go.RowKit Go.Proofs.YtnaafcleafbejaaGreatW.PrintWords Go.Proofs.YtnaafcleafbejaaGreatW.PrintLast Go.Proofs.YtnaafcleafbejaaGreatW.PrintMore
attribute [local go_sem] zbc zbg zb8 zb9 za1 za2 zbi zbj
set_option linter.unusedVariables false
set_option linter.unusedSimpArgs false
def rcIs (k : Nat) (n : Int) (goal : List Int) (code : List S69) (cols : List (List Int)) : Option Bool :=
  if n = 0 then if 0 < cols.length then zdq k (cols.getD 0 []) goal else none
  else if 0 ≤ wrap64 (n - 1) ∧ wrap64 (n - 1) < code.length then zfn k (zag code (wrap64 (n - 1))).f0 (zag code (wrap64 (n - 1))).f1 (zag code (wrap64 (n - 1))).f2 (zag code (wrap64 (n - 1))).f3 (zag code (wrap64 (n - 1))).f4 cols goal else none
def rcSt {σ : Type} (k : Nat) (n : Int) (goal : List Int) (st : List S69 → List (List Int) → σ → Option (Bool × σ)) (code : List S69) (cols : List (List Int)) (s : σ) : Option (Bool × σ) :=
  (rcIs k n goal code cols).bind fun is => if is = true then st code cols s else some (true, s)
structure RcX (B : Bs) (gn gg ge : Nat) (n : Int) (Ag : Option Addr) (cgl : Nat) (goal : List Int) (fe : FuncId) (ecap : Array Value) (W : World) : Prop where
  bn : W.heap[gn]? = some (.cells #[.int .i64 n] 3 (0, 0))
  bg : W.heap[gg]? = some (.cells #[.slice Ag goal.length cgl] 77 (0, 0))
  be : W.heap[ge]? = some (.cells #[.func (.func fe) #[] ecap] 66 (0, 0))
  nb : ¬ B.B W gn ∧ ¬ B.B W gg ∧ ¬ B.B W ge
  hc : goal.length ≤ cgl
  gl : ∀ W', Kept W W' (B.B W) → Kd.C (Kd.int .u8) W' Ag goal.length goal
section
variable {σ : Type} {B : Bs} {fe : FuncId} {ecap : Array Value} {Inv : σ → World → Prop} {st : List S69 → List (List Int) → σ → Option (Bool × σ)} {gn gg ge : Nat} {n : Int} {Ag : Option Addr} {cgl : Nat} {goal : List Int}
theorem RcX.step {W W1 : World} (h : RcX B gn gg ge n Ag cgl goal fe ecap W) (hk : KeptB W W1 B) : RcX B gn gg ge n Ag cgl goal fe ecap W1 :=
  ⟨zl6 h.bn hk h.nb.1, zl6 h.bg hk h.nb.2.1, zl6 h.be hk h.nb.2.2, ⟨zpv h.bn hk h.nb.1, zpv h.bg hk h.nb.2.1, zpv h.be hk h.nb.2.2⟩, h.hc, fun W' hk' => h.gl W' (zid hk hk')⟩
set_option maxHeartbeats 8000000 in
set_option maxRecDepth 100000 in
theorem yfa (k : Nat) (hE : EachC B fe ecap Inv st) (s0 s' : σ) (b : Bool) (W : World) (Ac : Option Addr) (cc : Nat) (code : List S69) (g cg : Nat) (cols : List (List Int)) (hI : Inv s0 W) (hX : RcX B gn gg ge n Ag cgl goal fe ecap W) (hc : ∀ W', Kept W W' (B.B W) → Kd.C k69 W' Ac code.length code) (hcc : code.length ≤ cc) (hsl : SlOk Ac code.length cc) (hg : ∀ W', Kept W W' (B.B W) → Kd.C (Kd.slice 5 (Kd.int .u8)) W' (some ⟨g, 0, none⟩) cols.length cols) (hcg : cols.length ≤ cg) (h : rcSt k n goal st code cols s0 = some (b, s')) :
    Calls Tryz.prog 95 (#[.slice Ac code.length cc, .slice (some ⟨g, 0, none⟩) cols.length cg] ++ #[.pointer (some ⟨gn, 0, none⟩), .pointer (some ⟨gg, 0, none⟩), .pointer (some ⟨ge, 0, none⟩)]) W fun e W' => e = .returned (.bool b) ∧ Inv s' W' ∧ KeptB W W' B := by
  have HE := Aside0.mk hE
  have HI := Aside0.mk hI
  have HX := Aside0.mk hX
  have HC := Aside0.mk hc
  have HCC := Aside0.mk hcc
  have HSL := Aside0.mk hsl
  have HG := Aside0.mk hg
  have HCG := Aside0.mk hcg
  unfold rcSt at h
  obtain ⟨is, his, h⟩ := Option.bind_eq_some_iff.1 h
  have HIS := Aside0.mk his
  have H := Aside0.mk h
  have q1 := zae hX.bn 0
  clear hE hI hX hc hcc hsl hg hcg his h
  obtain ⟨bq, hbq⟩ : ∃ bq, (n == 0) = bq := ⟨_, rfl⟩
  go_enter Tryz.func95, Tryz.ntmps95
  go_upto_if 10 with fail
  go_cut [8] (fun v8 wc => v8 = .bool is ∧ Aside0 (Below W.heap.size W wc))
  case first =>
    cases bq with
    | true =>
      have hn := HIS.out
      unfold rcIs at hn
      rw [if_pos (eq_of_beq hbq)] at hn
      have hl : 0 < cols.length := by
        by_cases q : 0 < cols.length
        · exact q
        · rw [if_neg q] at hn
          cases hn
      rw [if_pos hl] at hn
      have HN := Aside0.mk hn
      obtain ⟨ad, Ax, cx, el, x0, hxc, hxs⟩ := zx1 HG.out 0 hl
      cases el
      have HXC := Aside0.mk hxc
      have HXS := Aside0.mk hxs
      have d1 : (0 : Int) < (cols.length : Int) := by omega
      clear hn hl hxc hxs
      go_wp2_with fail
      refine zot [[], [0], [0, 1], [], [0, 1, 2, 3], [0, 1, 2, 3, 4]] [[1, 2, 4, 5], [2, 4, 5], [4, 5], [4, 5], [5], []] (zgr [])
        (zjd [.slice (some ⟨g, 0, none⟩) cols.length cg, .pointer (some ⟨g, 0, none⟩), .slice Ax (cols.getD 0 []).length cx, .slice Ag goal.length cgl, .bool is, .bool is])
        (fun L s V => Below W.heap.size W V)
        rfl (fun _ _ _ _ _ h => h) (by kernel_rfl) (ze8 (by repeat (first | exact Below.refl _ _ | apply zbn | apply zbd))) ⟨?_, ?_, ?_, ?_, ?_, ?_, trivial⟩ ?_
      · exact fun L s V hu hd hn hJ => rm_v ⟨fun _ => rfl, hJ⟩
      · refine fun L s V hu hd hn hJ => zj7 (by rfl) ⟨fun _ => rfl, hJ⟩ ?_
        clear hJ
        simp only [zdp, riGo, zgt, zf9, zgr, zjd, mixV, Nat.reduceBEq, Nat.reduceAdd, List.headD, List.tail, List.getD, List.getElem?_cons_zero, List.getElem?_cons_succ, Option.getD_some, cond_true, cond_false]
        first | (go_simp; done) | (go_simp; intro e; rw [e] at d1; exact absurd d1 (by decide))
      · intro L s V hu hd hn hJ
        have z0 : V.cell? ⟨g, 0, none⟩ = _ := (hJ.cell (World.block_lt_of_cell? W _ x0)).trans x0
        exact rm_v ⟨fun _ => rfl, hJ⟩
      · intro L s V hu hd hn hJ
        have z0 := zae (HX.out.step (zcb hJ)).bg 0
        exact rm_v ⟨fun _ => rfl, hJ⟩
      · refine fun L s V hu hd hn hJ => zil Tryz.func96 (by kernel_rfl) rfl #[.slice Ax (cols.getD 0 []).length cx, .slice Ag goal.length cgl] (by rfl) rfl (by simp only [List.map_toArray, List.map_cons, List.map_nil]; rfl) ((zn5 k Ax cx (cols.getD 0 []) Ag cgl goal is V (HXS.out V (zf8 hJ _)) HXC.out (HX.out.gl V (zf8 hJ _)) HX.out.hc HN.out).mono ?_)
        rintro e U ⟨rfl, hb⟩
        obtain ⟨nd, rfl⟩ := hb.out
        exact ⟨_, rfl, fun _ => rfl, zbn hJ _⟩
      · exact fun L s V hu hd hn hJ => rm_v ⟨fun _ => rfl, hJ⟩
      · rintro L s V hL hJ
        have HB1 := Aside0.mk hJ
        clear hJ hL
        simp only [zdp, riGo, zgt, zf9, zgr, zjd, mixV, Nat.reduceBEq, Nat.reduceAdd, List.headD, List.tail, List.getD, List.getElem?_cons_zero, List.getElem?_cons_succ, Option.getD_some, cond_true, cond_false]
        go_wp2_with fail
        go_meet
        case rel => exact ⟨rfl, ⟨by repeat (first | exact HB1.out | apply zbn | apply zbd)⟩⟩
    | false =>
      have hn := HIS.out
      unfold rcIs at hn
      rw [if_neg (fun e => by rw [e] at hbq; cases hbq)] at hn
      have hl : 0 ≤ wrap64 (n - 1) ∧ wrap64 (n - 1) < code.length := by
        by_cases q : 0 ≤ wrap64 (n - 1) ∧ wrap64 (n - 1) < code.length
        · exact q
        · rw [if_neg q] at hn
          cases hn
      rw [if_pos hl] at hn
      obtain ⟨ix, hix⟩ : ∃ ix, wrap64 (n - 1) = ix := ⟨_, rfl⟩
      rw [hix] at hn hl
      obtain ⟨x, hx⟩ : ∃ x, x = zag code ix := ⟨_, rfl⟩
      rw [← hx] at hn
      have HN := Aside0.mk hn
      obtain ⟨ad, ea, _⟩ := zog (HC.out W (Kept.refl _ _)) ix hl.1 hl.2
      subst ea
      have d1 := hl.1
      have d2 := hl.2
      have HV := Aside0.mk hx
      clear hn hl hx
      go_wp2_with fail
      refine zot [[], [], [1], [0, 1, 2], [0, 1, 2, 3], [], [], [0, 1, 2, 3, 4, 5, 6], [0, 1, 2, 3, 4, 5, 6, 7]] [[3, 4, 7, 8], [2, 3, 4, 7, 8], [3, 4, 7, 8], [4, 7, 8], [7, 8], [7, 8], [7, 8], [8], []] (zgr [])
        (zjd [.slice (some ad) code.length cc, .int .i64 n, .int .i64 ix, .pointer (some (ad.add (ix.toNat * 5))), .agg #[.string x.f0, .int .i64 x.f1, .int .i64 x.f2, .int .i64 x.f3, .int .i64 x.f4], .slice (some ⟨g, 0, none⟩) cols.length cg, .slice Ag goal.length cgl, .bool is, .bool is])
        (fun L s V => Below W.heap.size W V)
        rfl (fun _ _ _ _ _ h => h) (by kernel_rfl) (ze8 (by repeat (first | exact Below.refl _ _ | apply zbn | apply zbd))) ⟨?_, ?_, ?_, ?_, ?_, ?_, ?_, ?_, ?_, trivial⟩ ?_
      · exact fun L s V hu hd hn hJ => rm_v ⟨fun _ => rfl, hJ⟩
      · intro L s V hu hd hn hJ
        have z0 := zae (HX.out.step (zcb hJ)).bn 0
        exact rm_v ⟨fun _ => rfl, hJ⟩
      · refine fun L s V hu hd hn hJ => zj7 (by rfl) ⟨fun _ => rfl, hJ⟩ ?_
        clear hJ
        simp only [zdp, riGo, zgt, zf9, zgr, zjd, mixV, Nat.reduceBEq, Nat.reduceAdd, List.headD, List.tail, List.getD, List.getElem?_cons_zero, List.getElem?_cons_succ, Option.getD_some, cond_true, cond_false]
        first | (go_simp; done) | (go_simp; exact (zic _).trans hix)
      · exact fun L s V hu hd hn hJ => rm_v ⟨fun _ => rfl, hJ⟩
      · intro L s V hu hd hn hJ
        obtain ⟨ad', ea, x0, x1, x2, x3, x4⟩ := zog (HC.out V (zf8 hJ _)) ix d1 d2
        rw [← HV.out] at x0 x1 x2 x3 x4
        cases ea
        exact rm_v ⟨fun _ => rfl, hJ⟩
      · exact fun L s V hu hd hn hJ => rm_v ⟨fun _ => rfl, hJ⟩
      · intro L s V hu hd hn hJ
        have z0 := zae (HX.out.step (zcb hJ)).bg 0
        exact rm_v ⟨fun _ => rfl, hJ⟩
      · refine fun L s V hu hd hn hJ => zil Tryz.func97 (by kernel_rfl) rfl #[.agg #[.string x.f0, .int .i64 x.f1, .int .i64 x.f2, .int .i64 x.f3, .int .i64 x.f4], .slice (some ⟨g, 0, none⟩) cols.length cg, .slice Ag goal.length cgl] (by rfl) rfl (by simp only [List.map_toArray, List.map_cons, List.map_nil]; rfl) ((zpw k x.f0 x.f1 x.f2 x.f3 x.f4 (some ⟨g, 0, none⟩) cg cols Ag cgl goal is V (HG.out V (zf8 hJ _)) HCG.out (HX.out.gl V (zf8 hJ _)) HX.out.hc HN.out).mono ?_)
        rintro e U ⟨rfl, hb⟩
        exact ⟨_, rfl, fun _ => rfl, zaa hJ hb⟩
      · exact fun L s V hu hd hn hJ => rm_v ⟨fun _ => rfl, hJ⟩
      · rintro L s V hL hJ
        have HB1 := Aside0.mk hJ
        clear hJ hL
        simp only [zdp, riGo, zgt, zf9, zgr, zjd, mixV, Nat.reduceBEq, Nat.reduceAdd, List.headD, List.tail, List.getD, List.getElem?_cons_zero, List.getElem?_cons_succ, Option.getD_some, cond_true, cond_false]
        go_wp2_with fail
        go_meet
        case rel => exact ⟨rfl, ⟨by repeat (first | exact HB1.out | apply zbn | apply zbd)⟩⟩
  case rest =>
    obtain ⟨rfl, HBC⟩ := hcut
    clear hbq HIS
    have HXC := Aside0.mk (HX.out.step (zcb HBC.out))
    have q2 := zae HXC.out.be 0
    cases is with
    | false =>
      obtain ⟨rfl, rfl⟩ : true = b ∧ s0 = s' := by have := H.out; exact Prod.mk.inj (Option.some.inj this)
      go_wp2_with fail
      go_ret
      exact ⟨rfl, HE.out.stab _ _ _ HI.out (by repeat (first | exact HBC.out | apply zbn | apply zbd)), zcb (by repeat (first | exact HBC.out | apply zbn | apply zbd))⟩
    | true =>
      have HS := Aside0.mk (show st code cols s0 = some (b, s') from H.out)
      go_wp2_with fail
      obtain ⟨fn, hf, hnm, hbd⟩ := HE.out.fn
      rw [show Sem.run Tryz.prog (callFunc fe (#[.slice Ac code.length cc, .slice (some ⟨g, 0, none⟩) cols.length cg] ++ ecap)) wc = .ok (.enter fe (#[.slice Ac code.length cc, .slice (some ⟨g, 0, none⟩) cols.length cg] ++ ecap)) wc from ztt hf hnm hbd _ wc, Oper.upon_enter]
      refine (HE.out.call s0 s' b wc Ac cc code g cg cols (HE.out.stab _ _ _ HI.out HBC.out) (fun W' hk => HC.out W' (zid (zcb HBC.out) hk)) HCC.out HSL.out (fun W' hk => HG.out W' (zid (zcb HBC.out) hk)) HCG.out HS.out).mono ?_
      rintro e w9 ⟨rfl, hI, hK⟩
      have HI9 := Aside0.mk hI
      have HK9 := Aside0.mk (zd1 (zcb HBC.out) hK)
      clear hI hK hf hnm hbd
      go_wp2_with fail
      go_ret
      exact ⟨rfl, HI9.out, HK9.out⟩
end
end Go.Proofs.YtnaafcleafbejaaGreat.Q
end
section
namespace Go.Proofs.YtnaafcleafbejaaGreat.Q
open Go.RowKit Go.Proofs.YtnaafcleafbejaaGreatW.PrintWords Go.Proofs.YtnaafcleafbejaaGreatW.PrintLast Go.Proofs.YtnaafcleafbejaaGreatW.PrintMore
attribute [local go_sem] zbc zbg zb8 zb9 za1 za2 zbi zbj
set_option linter.unusedVariables false
set_option linter.unusedSimpArgs false
section
variable {σ : Type} {B : Bs} {fe : FuncId} {ecap : Array Value} {Inv : σ → World → Prop} {st : List S69 → List (List Int) → σ → Option (Bool × σ)}
theorem yfb (k : Nat) (hE : EachC B fe ecap Inv st) (gn gg ge : Nat) (n : Int) (Ag : Option Addr) (cgl : Nat) (goal : List Int) : EachC B 95 #[.pointer (some ⟨gn, 0, none⟩), .pointer (some ⟨gg, 0, none⟩), .pointer (some ⟨ge, 0, none⟩)] (fun s W => Inv s W ∧ RcX B gn gg ge n Ag cgl goal fe ecap W) (rcSt k n goal st) where
  fn := ⟨_, Tryz.func95, by kernel_rfl, rfl⟩
  call := fun s s' b W Ac cc code g cg cols hI hc hcc hsl hg hcg h => (yfa k hE s s' b W Ac cc code g cg cols hI.1 hI.2 hc hcc hsl hg hcg h).mono (fun e W' ⟨h1, h2, h3⟩ => ⟨h1, ⟨h2, hI.2.step h3⟩, h3⟩)
  stab := fun s W W' hI hb => ⟨hE.stab _ _ _ hI.1 hb, hI.2.step (zcb hb)⟩
set_option maxHeartbeats 8000000 in
set_option maxRecDepth 100000 in
theorem zzu (k : Nat) (hE : EachC B fe ecap Inv st) (Ao : Option Addr) (co : Nat) (os : List ByteArray) (Ai : Option Addr) (ci : Nat) (ims : List Int) (n : Int) (Ag : Option Addr) (cgl : Nat) (goal : List Int) (s0 s' : σ) (b : Bool) (w : World) (hI : Inv s0 w) (hB : B.ok w)
    (hro : Kd.C Kd.string w Ao os.length os) (hco : os.length ≤ co) (hri : Kd.C (Kd.int .i64) w Ai ims.length ims) (hci : ims.length ≤ ci) (hgc : goal.length ≤ cgl) (hgl : ∀ W', Kept w W' (B.B w) → Kd.C (Kd.int .u8) W' Ag goal.length goal) (h : pgP k os ims n (rcSt k n goal st) s0 = some (b, s')) :
    Calls Tryz.prog 58 #[.agg #[.slice Ao os.length co, .slice Ai ims.length ci], .int .i64 n, .slice Ag goal.length cgl, .func (.func fe) #[] ecap] w fun e W' => ∃ u, e = .returned u ∧ Inv s' W' ∧ KeptB w W' B := by
  have HE := Aside0.mk hE
  have HI := Aside0.mk hI
  have HBW := Aside0.mk hB
  have HO := Aside0.mk hro
  have HM := Aside0.mk hri
  have HCO := Aside0.mk hco
  have HCI := Aside0.mk hci
  have HGC := Aside0.mk hgc
  have HGL := Aside0.mk hgl
  have H := Aside0.mk h
  clear hE hI hB hro hri hco hci hgc hgl h
  go_enter Tryz.func58, Tryz.ntmps58
  go_wp2_with (go_at_call 94; go_must (
    obtain ⟨W0, hW0⟩ : ∃ W0, (((w.alloc (.cells #[.slice Ao os.length co, .slice Ai ims.length ci] 34)).alloc (.cells #[.int .i64 n] 3)).alloc (.cells #[.slice Ag goal.length cgl] 77)).alloc (.cells #[.func (.func fe) #[] ecap] 66) = W0 := ⟨_, rfl⟩
    have hz : W0.heap.size = w.heap.size + 4 := by rw [← hW0]; simp
    have hb0 : Below w.heap.size w W0 := hW0 ▸ zba (zba (zba (zba (Below.refl _ _) _) _) _) _
    have h2 : W0.heap[w.heap.size + 1]? = some (.cells #[.int .i64 n] 3 (0, 0)) := by rw [← hW0]; exact zka (zka (by simpa using zi4 (w.alloc (.cells #[.slice Ao os.length co, .slice Ai ims.length ci] 34)) (.cells #[.int .i64 n] 3)) _) _
    have h3 : W0.heap[w.heap.size + 1 + 1]? = some (.cells #[.slice Ag goal.length cgl] 77 (0, 0)) := by rw [← hW0]; exact zka (by simpa using zi4 ((w.alloc (.cells #[.slice Ao os.length co, .slice Ai ims.length ci] 34)).alloc (.cells #[.int .i64 n] 3)) (.cells #[.slice Ag goal.length cgl] 77)) _
    have h4 : W0.heap[w.heap.size + 1 + 1 + 1]? = some (.cells #[.func (.func fe) #[] ecap] 66 (0, 0)) := by rw [← hW0]; simpa using zi4 (((w.alloc (.cells #[.slice Ao os.length co, .slice Ai ims.length ci] 34)).alloc (.cells #[.int .i64 n] 3)).alloc (.cells #[.slice Ag goal.length cgl] 77)) (.cells #[.func (.func fe) #[] ecap] 66)
    rw [hW0]
    clear hW0
    refine (ydl k (yfb k HE.out (w.heap.size + 1) (w.heap.size + 1 + 1) (w.heap.size + 1 + 1 + 1) n Ag cgl goal) Ao co os Ai ci ims n s0 s' b W0 ⟨HE.out.stab _ _ _ HI.out hb0, ⟨h2, h3, h4, ⟨fun h => by have := B.old HBW.out hb0 h; omega, fun h => by have := B.old HBW.out hb0 h; omega, fun h => by have := B.old HBW.out hb0 h; omega⟩, HGC.out, fun W' hk => HGL.out W' (zid (zcb hb0) hk)⟩⟩ (B.okb hb0 HBW.out) (Kd.C_below HO.out hb0) HCO.out (Kd.C_below HM.out hb0) HCI.out H.out).mono ?_
    rintro e w9 ⟨rfl, hI, hK⟩
    have HI9 := Aside0.mk hI.1
    have HK9 := Aside0.mk (zd1 (zcb hb0) hK)
    clear hI hK hz hb0 h2 h3 h4))
  go_end0
  exact ⟨_, rfl, HI9.out, HK9.out⟩
end
end Go.Proofs.YtnaafcleafbejaaGreat.Q
end
section
namespace Go.Proofs.YtnaafcleafbejaaGreat.Q
open Go.RowKit Go.Proofs.YtnaafcleafbejaaGreatW.PrintWords Go.Proofs.YtnaafcleafbejaaGreatW.PrintLast Go.Proofs.YtnaafcleafbejaaGreatW.PrintMore
set_option maxHeartbeats 8000000
set_option maxRecDepth 100000
attribute [local go_sem] zbc zbg zb8 zb9 za1 za2 zbi zbj
set_option linter.unusedVariables false
set_option linter.unusedSimpArgs false
def zhu (l0 : List (S69)) : Option ((List (S69))) := (some (([] : List (S69)) : List (S69))).bind fun y101 => (if y101.length + l0.length < 2932031007402 then (some (y101 ++ l0)) else (none))
theorem zrp (A0 : Option Addr) (c0 : Nat) (l0 : List (S69)) (r : List (S69)) (w : World) (hr0 : Kd.C k69 w A0 l0.length l0) (hc0 : l0.length ≤ c0) (hnil0 : A0.isNone = false) (h : zhu l0 = some r) :
   Calls Tryz.prog 61 #[.slice A0 l0.length c0] w fun e w' => ∃ v0_ : Value, e = .returned (v0_) ∧ Kd.R k69 69 w' w.heap.size (fun _ => True) v0_ r ∧ Below w.heap.size w w' := by
 have hneql_0 : ∀ (W : World), (binOp .eql 29 (.slice A0 l0.length c0) (.slice none 0 0)).run Tryz.prog W = .ok (.bool false) W := fun W => by rw [Go.Lib.run_eql_slice_nil W _ _ _ _ _ _ _ Tryz.underlying29, hnil0]
 have HR0 := zA hr0
 have HC0 := zA hc0
 clear hr0 hc0
 have HB := zA (Below.refl w.heap.size w)
 have H := h
 unfold zhu at H
 clear h
 obtain ⟨y101, hy101⟩ : ∃ y_ : List (S69), y_ = (([] : List (S69))) := ⟨_, rfl⟩
 rw [← hy101] at H; try with_reducible replace H := zbs H
 have Ny101 := zA hy101
 clear hy101
 by_cases c2 : y101.length + l0.length < 2932031007402
 · rw [if_pos c2] at H
   have LMc2 := zA c2
   clear c2
   obtain ⟨y104, hy104⟩ : ∃ y_ : List (S69), y_ = (y101 ++ l0) := ⟨_, rfl⟩
   rw [← hy104] at H; try with_reducible replace H := zbs H
   have Ny104 := zA hy104
   clear hy104
   obtain rfl := zsi H
   go_enter Tryz.func61, Tryz.ntmps61
   go_wp2_with (first | ((with_reducible refine zgd 5 ?_); refine Kd.R_lit k69 _ 69 ?hg (N := 5) ?hd (xs := ([] : List (S69))) (inner := []) (ok := fun _ => True) (okp := fun _ => True) ?hr ?hp (fun _ hk => hk) trivial (Below.refl _ _) (zlr _) (by simp) ?_; (case hd => rfl); (case hg => rfl); (case hr => go_simp <;> rfl); (case hp => exact (Reps.none _ _)); intro v102 w3 ho4 hb hg_ hnew_; clear hg_ hnew_; (first | rw [← Ny101.out] at ho4 | (simp only [Int.reduceToNat] at ho4; rw [← Ny101.out] at ho4)); have HO103 := zA (Kd.R_lower ho4 (zaf zq2)); replace HB := zA (zaa zq2 hb); clear hb ho4) | ((with_reducible refine zez (b := .append) (xs := #[.tmp 5, .tmp 6]) rfl ?_); at_builtin; refine Kd.R_append_rows k69 (w0 := w) w.heap.size rfl (.tmp 5) (.tmp 6) 29 69 (.agg #[(.string ⟨#[]⟩), (.int .i64 0), (.int .i64 0), (.int .i64 0), (.int .i64 0)]) 48 rfl Tryz.underlying29 zxu rfl (by decide) (by omega) v102 y101 l0 _ _ _ (fun _ => True) (fun _ => False) rfl rfl ?aO ?aR (fun _ _ h => h) (fun _ h => h.elim) ?aF ?aB ?aS ?aL ?_; (case aR => repeat (first | exact (zCb HR0.out HB.out) | (with_reducible first | refine zCa ?_ _ | refine zCn ?_ _ | refine zCd ?_))); (case aB => exact zq2); (case aF => exact (fun _ _ => trivial)); (case aO => exact (zq3 HO103)); (case aS => exact (zaf zq2)); (case aL => have := LMc2.out; omega); intro v105 w5 ho hb hg hat; rw [← Ny104.out] at ho; replace HB := zA (hb); have HO106 := zA (ho); clear HO103; clear ho hb hg hat))
   go_ret
   exact ⟨_, zq4, zq3 HO106, zq2⟩
 · rw [if_neg c2] at H
   exact absurd H (by simp)
theorem zoi (A0 : Option Addr) (c0 : Nat) (l0 : List (S69)) (r : List (S69)) (w : World) (hr0 : Kd.C k69 w A0 l0.length l0) (hc0 : l0.length ≤ c0) (h : zhu l0 = some r) : Calls Tryz.prog 61 #[.slice A0 l0.length c0] w fun e w' => ∃ v0_ : Value, e = .returned (v0_) ∧ Kd.R k69 69 w' w.heap.size (fun _ => True) v0_ r ∧ Below w.heap.size w w' := by
 cases hA : A0.isNone with
 | false => exact zrp A0 c0 l0 r w hr0 hc0 hA h
 | true =>
   obtain rfl : A0 = none := by simpa using hA
   have hl : l0 = [] := by
     rcases Nat.eq_zero_or_pos l0.length with h0 | h0
     · exact List.eq_nil_of_length_eq_zero h0
     · obtain ⟨ad, e, _⟩ := hr0.2.2 h0
       cases e
   subst hl
   have hr : r = [] := by
     unfold zhu at h
     simpa using h.symm
   subst hr
   clear h hr0
   have hne : ∀ (W : World), (binOp .eql 29 (.slice none 0 c0) (.slice none 0 0)).run Tryz.prog W = .ok (.bool true) W := fun W => by rw [Go.Lib.run_eql_slice_nil W _ _ _ _ _ _ _ Tryz.underlying29]; rfl
   show Calls _ _ #[.slice none 0 c0] _ _
   go_enter Tryz.func61, Tryz.ntmps61
   go_wp2
   go_ret
   exact ⟨_, rfl, Kd.R_nil _ _ _ _ _, Below.refl _ _⟩
end Go.Proofs.YtnaafcleafbejaaGreat.Q
end
section
namespace Go.Proofs.YtnaafcleafbejaaGreat.Q
open Go.RowKit Go.Proofs.YtnaafcleafbejaaGreatW.PrintWords Go.Proofs.YtnaafcleafbejaaGreatW.PrintLast Go.Proofs.YtnaafcleafbejaaGreatW.PrintMore
attribute [local go_sem] zbc zbg zb8 zb9 za1 za2 zbi zbj
set_option linter.unusedVariables false
set_option linter.unusedSimpArgs false
structure AccC (fa : FuncId) (ea : Array Value) (ac : List S69 → List (List Int) → Option Bool) : Prop where
  fn : ∃ fn, Tryz.prog.funcs[fa]? = some fn ∧ (fn.name == "runtime.NumGoroutine") = false ∧ fn.body.isSome = true
  call : ∀ (b : Bool) (W : World) (Ac : Option Addr) (cc : Nat) (code : List S69) (g cg : Nat) (cols : List (List Int)), Kd.C k69 W Ac code.length code → code.length ≤ cc → SlOk Ac code.length cc → Kd.C (Kd.slice 5 (Kd.int .u8)) W (some ⟨g, 0, none⟩) cols.length cols → cols.length ≤ cg → ac code cols = some b →
    Calls Tryz.prog fa (#[.slice Ac code.length cc, .slice (some ⟨g, 0, none⟩) cols.length cg] ++ ea) W fun e W' => e = .returned (.bool b) ∧ Below W.heap.size W W'
def shSt (ac : List S69 → List (List Int) → Option Bool) (code : List S69) (cols : List (List Int)) (s : List S69 × Bool) : Option (Bool × (List S69 × Bool)) :=
  (ac code cols).bind fun a => if a = true then if code.length < 1048576 then some (false, (code, true)) else none else some (!s.2, s)
structure ShI (w0 : World) (fa : FuncId) (ea : Array Value) (ga go gf : Nat) (s : List S69 × Bool) (W : World) : Prop where
  below : Below w0.heap.size w0 W
  hs : w0.heap.size ≤ go ∧ ga < go ∧ go < gf
  ba : W.heap[ga]? = some (.cells #[.func (.func fa) #[] ea] 66 (0, 0))
  bo : ∃ vo, W.heap[go]? = some (.cells #[vo] 29 (0, 0)) ∧ Kd.R k69 69 W w0.heap.size (fun k => k ≠ go ∧ k ≠ gf) vo s.1
  bf : W.heap[gf]? = some (.cells #[.bool s.2] 4 (0, 0))
section
variable {w0 : World} {fa : FuncId} {ea : Array Value} {ga go gf : Nat} {ac : List S69 → List (List Int) → Option Bool}
theorem ShI.step {s : List S69 × Bool} {W W1 : World} (h : ShI w0 fa ea ga go gf s W) (hb : Below W.heap.size W W1) : ShI w0 fa ea ga go gf s W1 :=
  ⟨zaa h.below hb, h.hs, zai h.ba hb, let ⟨vo, h1, h2⟩ := h.bo; ⟨vo, zai h1 hb, Kd.R_below h2 hb⟩, zai h.bf hb⟩
theorem ShI.put {s : List S69 × Bool} {code : List S69} {v : Value} {W W1 W2 W3 : World} (h : ShI w0 fa ea ga go gf s W) (hb : Below W.heap.size W W1) (hR : Kd.R k69 69 W1 W.heap.size (fun _ => True) v code) (g2 : W2.heap[go]? = some (.cells #[v] 29 (0, 0))) (b2 : ∀ base, base ≤ go → Below base W1 W2) (f2 : ∀ k, k ≠ go → W2.heap[k]? = W1.heap[k]?)
    (g3 : W3.heap[gf]? = some (.cells #[.bool true] 4 (0, 0))) (b3 : ∀ base, base ≤ gf → Below base W2 W3) (f3 : ∀ k, k ≠ gf → W3.heap[k]? = W2.heap[k]?) : ShI w0 fa ea ga go gf (code, true) W3 ∧ Kept W W3 (fun k => k = go ∨ k = gf) := by
  obtain ⟨i1, i2, i3⟩ := h.hs
  obtain ⟨vo, k1, _⟩ := h.bo
  have l1 := ze7 k1
  have l2 := ze7 h.bf
  refine ⟨⟨((zaa h.below hb).trans (b2 _ (by omega))).trans (b3 _ (by omega)), h.hs, ((f3 _ (by omega)).trans (f2 _ (by omega))).trans (zai h.ba hb), ⟨v, (f3 _ (by omega)).trans g2, ?_⟩, g3⟩, ?_⟩
  · refine Kd.R_lower (Kd.R_mono (Kd.R_step (Kd.R_bound hR) (fun k hk hlt => ?_)) (fun k hk => ⟨?_, ?_⟩)) h.below.size
    · have := hk.2.1
      exact (f3 _ (by omega)).trans (f2 _ (by omega))
    · have := hk.2.1
      omega
    · have := hk.2.1
      omega
  · refine ⟨Nat.le_trans hb.size (Nat.le_trans (b2 0 (Nat.zero_le _)).size (b3 0 (Nat.zero_le _)).size), fun i hi hn => ?_⟩
    exact ((f3 i (fun e => hn (.inr e))).trans (f2 i (fun e => hn (.inl e)))).trans (hb.block i hi)
set_option maxHeartbeats 8000000 in
set_option maxRecDepth 100000 in
theorem yfc (hA : AccC fa ea ac) (s0 s' : List S69 × Bool) (b : Bool) (W : World) (Ac : Option Addr) (cc : Nat) (code : List S69) (g cg : Nat) (cols : List (List Int)) (hI : ShI w0 fa ea ga go gf s0 W) (hc : ∀ W', Kept W W' ((bsC (fun k => k = go ∨ k = gf)).B W) → Kd.C k69 W' Ac code.length code) (hcc : code.length ≤ cc) (hsl : SlOk Ac code.length cc) (hg : ∀ W', Kept W W' ((bsC (fun k => k = go ∨ k = gf)).B W) → Kd.C (Kd.slice 5 (Kd.int .u8)) W' (some ⟨g, 0, none⟩) cols.length cols) (hcg : cols.length ≤ cg) (h : shSt ac code cols s0 = some (b, s')) :
    Calls Tryz.prog 80 (#[.slice Ac code.length cc, .slice (some ⟨g, 0, none⟩) cols.length cg] ++ #[.pointer (some ⟨ga, 0, none⟩), .pointer (some ⟨go, 0, none⟩), .pointer (some ⟨gf, 0, none⟩)]) W fun e W' => e = .returned (.bool b) ∧ ShI w0 fa ea ga go gf s' W' ∧ KeptB W W' (bsC (fun k => k = go ∨ k = gf)) := by
  have HA := Aside0.mk hA
  have HI := Aside0.mk hI
  have HC := Aside0.mk hc
  have HCC := Aside0.mk hcc
  have HSL := Aside0.mk hsl
  have HG := Aside0.mk hg
  have HCG := Aside0.mk hcg
  unfold shSt at h
  obtain ⟨a, ha, h⟩ := Option.bind_eq_some_iff.1 h
  have HAC := Aside0.mk ha
  have q1 := zae hI.ba 0
  clear hA hI hc hcc hsl hg hcg ha
  cases a with
  | false =>
    obtain ⟨rfl, rfl⟩ : (!s0.2) = b ∧ s0 = s' := by rw [if_neg (by decide)] at h; exact Prod.mk.inj (Option.some.inj h)
    clear h
    go_enter Tryz.func80, Tryz.ntmps80
    go_wp2_with ((with_reducible refine zkx (N := 11) rfl ?_); go_must (obtain ⟨fn, hf, hnm, hbd⟩ := HA.out.fn; refine zw2 (first := #[]) (cap := ea) (some 11) rfl rfl hf hnm hbd (#[.slice Ac code.length cc, .slice (some ⟨g, 0, none⟩) cols.length cg] ++ ea) rfl (by rfl) (by simp only [List.map_toArray, List.map_cons, List.map_nil]; rfl) ?_; refine (HA.out.call false W Ac cc code g cg cols (HC.out W (Kept.refl _ _)) HCC.out HSL.out (HG.out W (Kept.refl _ _)) HCG.out HAC.out).mono ?_; rintro e w1 ⟨rfl, hb⟩; refine ⟨_, rfl, ?_⟩; have HB1 := Aside0.mk hb; have HI1 := Aside0.mk (HI.out.step hb); have q2 := zae HI1.out.bf 0; clear hf hnm hbd hb))
    go_ret
    exact ⟨rfl, HI1.out.step (by repeat (first | exact Below.refl _ _ | apply zbn | apply zbd)), zcb (by repeat (first | exact HB1.out | apply zbn | apply zbd))⟩
  | true =>
    rw [if_pos rfl] at h
    have hl : code.length < 1048576 := by
      by_cases q : code.length < 1048576
      · exact q
      · rw [if_neg q] at h
        cases h
    rw [if_pos hl] at h
    obtain ⟨rfl, rfl⟩ : false = b ∧ (code, true) = s' := Prod.mk.inj (Option.some.inj h)
    have HL := Aside0.mk (show zhu code = some code by unfold zhu; simp only [Option.bind_some]; rw [if_pos (by simp; omega)]; rfl)
    clear h hl
    go_enter Tryz.func80, Tryz.ntmps80
    go_wp2_with (first
      | ((with_reducible refine zkx (N := 11) rfl ?_); go_must (obtain ⟨fn, hf, hnm, hbd⟩ := HA.out.fn; refine zw2 (first := #[]) (cap := ea) (some 11) rfl rfl hf hnm hbd (#[.slice Ac code.length cc, .slice (some ⟨g, 0, none⟩) cols.length cg] ++ ea) rfl (by rfl) (by simp only [List.map_toArray, List.map_cons, List.map_nil]; rfl) ?_; refine (HA.out.call true W Ac cc code g cg cols (HC.out W (Kept.refl _ _)) HCC.out HSL.out (HG.out W (Kept.refl _ _)) HCG.out HAC.out).mono ?_; rintro e w1 ⟨rfl, hb⟩; refine ⟨_, rfl, ?_⟩; have HB1 := Aside0.mk hb; have HI1 := Aside0.mk (HI.out.step hb); clear hf hnm hbd hb))
      | (go_at_call 61; go_must (refine (zoi Ac cc code code _ (HC.out _ (zf8 HB1.out _)) HCC.out HL.out).mono ?_; rintro e w2 ⟨vc, rfl, hR, hb⟩; have HR := Aside0.mk hR; have HB2 := Aside0.mk hb; have HBO : Aside0 (∃ vo, w2.heap[go]? = some (.cells #[vo] 29 (0, 0))) := (by obtain ⟨vo, h1, _⟩ := HI1.out.bo; exact ⟨vo, zai h1 hb⟩); clear hR hb))
      | ((with_reducible refine zi1 (t := 29) (p := 3) rfl ?_); go_must (obtain ⟨vo, ho⟩ := HBO.out; refine ziv rfl (t := 29) (p := 3) rfl rfl (g := go) (u := vc) (seg := [vc]) rfl rfl ho (Kd.N_val (Kd.R_N HR.out)).1 rfl rfl (fun q hq => by rw [List.mem_singleton.1 hq]; exact (Kd.N_val (Kd.R_N HR.out)).2) ?_; intro w3 hbb hbw hfar; have HB3 := Aside0.mk hbb; have HW3 := Aside0.mk hbw; have HF3 := Aside0.mk hfar; have HS3 := Aside0.mk ((hfar gf (by have := HI1.out.hs; omega)).trans (zai HI1.out.bf HB2.out)); clear ho hbb hbw hfar))
      | ((with_reducible refine zi1 (t := 4) (p := 4) rfl ?_); go_must (refine ziv rfl (t := 4) (p := 4) rfl rfl (g := gf) (u := .bool true) (seg := [.bool true]) rfl rfl HS3.out rfl rfl rfl (by simp [Value.oneCell']) ?_; intro w4 hbb hbw hfar; have HP := Aside0.mk (HI1.out.put HB2.out HR.out HB3.out HW3.out HF3.out hbb hbw hfar); have q2 := zae HP.out.1.bf 0; clear hbb hbw hfar)))
    go_ret
    exact ⟨rfl, HP.out.1.step (by repeat (first | exact Below.refl _ _ | apply zbn | apply zbd)), zd1 (zcb HB1.out) (zd1 (yew HP.out.2) (zcb (by repeat (first | exact Below.refl _ _ | apply zbn | apply zbd))))⟩
theorem yfd (hA : AccC fa ea ac) : EachC (bsC (fun k => k = go ∨ k = gf)) 80 #[.pointer (some ⟨ga, 0, none⟩), .pointer (some ⟨go, 0, none⟩), .pointer (some ⟨gf, 0, none⟩)] (ShI w0 fa ea ga go gf) (shSt ac) where
  fn := ⟨_, Tryz.func80, by kernel_rfl, rfl⟩
  call := fun s s' b W Ac cc code g cg cols hI hc hcc hsl hg hcg h => yfc hA s s' b W Ac cc code g cg cols hI hc hcc hsl hg hcg h
  stab := fun s W W' hI hb => hI.step hb
set_option maxHeartbeats 8000000 in
theorem yfe : AccC 44 #[] (fun _ _ => some true) where
  fn := ⟨_, Tryz.func44, by kernel_rfl, rfl⟩
  call := by
    intro b W Ac cc code g cg cols _ _ _ _ _ h
    obtain rfl := Option.some.inj h
    clear h
    go_enter Tryz.func44, Tryz.ntmps44
    go_wp2_with fail
    go_ret
    exact ⟨rfl, Below.refl _ _⟩
end
end Go.Proofs.YtnaafcleafbejaaGreat.Q
end
section
namespace Go.Proofs.YtnaafcleafbejaaGreat.Q
open Go.RowKit Go.Proofs.YtnaafcleafbejaaGreatW.PrintWords Go.Proofs.YtnaafcleafbejaaGreatW.PrintLast Go.Proofs.YtnaafcleafbejaaGreatW.PrintMore
set_option maxHeartbeats 8000000
set_option maxRecDepth 100000
attribute [local go_sem] zbc zbg zb8 zb9 za1 za2 zbi zbj
set_option linter.unusedVariables false
set_option linter.unusedSimpArgs false
def za4 : Nat → List Int → Int → Int → Int → Option (Int)
 | 0, _, _, _, _ => none
 | k + 1, x0, x1, x7, x8 => if x8 < x7 then (if 0 ≤ x8 then (if x8 < (x0.length : Int) then (if x1 = (rd x0 x8) then (some x8) else (za4 k x0 x1 x7 (wrap64 (x8 + 1)))) else (none)) else (none)) else (some (-1))
def zcn (k : Nat) (l0 : List Int) (a1 : Int) : Option (Int) := za4 k l0 a1 (l0.length : Int) 0
theorem zim : ∀ k, (∀ y0 y1 y2 y3, LeO (za4 k y0 y1 y2 y3) (za4 (k + 1) y0 y1 y2 y3))
 | 0 => fun _ _ _ _ r h => by simp [za4] at h
 | k + 1 => by
   have ih0 := zim k
   · intro y0 y1 y2 y3
     unfold za4
     exact zm1 ih0
theorem znj : ∀ a0 a1 k, LeO (zcn k a0 a1) (zcn (k + 1) a0 a1) := by
 intro a0 a1 k
 have ih0 := zim k
 unfold zcn
 exact zm1 ih0
theorem zmm (k : Nat) (A0 : Option Addr) (c0 : Nat) (l0 : List Int) (a1 : Int) (r : Int) (w : World) (hr0 : Kd.C (Kd.int .i64) w A0 l0.length l0) (hc0 : l0.length ≤ c0) (h : zcn k l0 a1 = some r) :
   Calls Tryz.prog 159 #[.slice A0 l0.length c0, .int .i64 a1] w fun e w' => e = .returned (.int .i64 r) ∧ Drawn0 w w' := by
 have HR0 := zA hr0
 have HC0 := zA hc0
 clear hr0 hc0
 have H := h
 unfold zcn at H
 clear h
 have H' := zA H
 clear H
 go_enter Tryz.func159, Tryz.ntmps159
 go_wp2
 go_loopg [8] k (fun kq v8 w' => ∃ (x8_1 : Int), v8 = .int .i64 x8_1 ∧ Aside0 (za4 kq l0 a1 (l0.length : Int) x8_1 = some r) ∧ Aside0 (kq ≤ k) ∧ Drawn0 w w')
 case atStart => exact ⟨(0), zq5, H', ⟨zlr _⟩, zq8⟩
 clear H'
 obtain ⟨x8_1, rfl, HA, HK1, ⟨m1, rfl⟩⟩ := hrel
 cases gk with
 | zero => exact absurd HA.out (by simp [za4])
 | succ k1 =>
 have H := HA.out
 clear HA
 simp only [za4] at H
 revert H
 refine zit (fun c3 H => ?_) fun c3 H => ?_
 rotate_left
 · obtain rfl := zsi H
   exact zr_1
 revert H
 refine zin fun c4 H => ?_
 revert H
 refine zin fun c5 H => ?_
 by_cases c6 : a1 = (rd l0 x8_1)
 · rw [if_pos c6] at H
   obtain ⟨c6b0, c6b1⟩ := zbe c6
   clear c6
   obtain rfl := zsi H
   obtain ⟨p101, q101⟩ := zpq x8_1 l0.length
   obtain ⟨ad101, e101, hx101_0⟩ := Kd.at_int HR0.out x8_1 (zoe p101) (zoe q101)
   cases e101
   exact zr_1
 rw [if_neg c6] at H
 obtain ⟨c6b0, c6b1⟩ := zbq c6
 have H' := zA H
 clear H
 obtain ⟨p101, q101⟩ := zpq x8_1 l0.length
 obtain ⟨ad101, e101, hx101_0⟩ := Kd.at_int HR0.out x8_1 (zoe p101) (zoe q101)
 cases e101
 go_wp2
 go_roundg k1
 case measure => have := HK1.out; omega
 case rel => exact ⟨(wrap64 (x8_1 + 1)), zq5, H', ⟨zq31 HK1⟩, zq8⟩
def za8 (k : Nat) (l0 : List Int) (a1 : Int) : Option (Bool) := (zcn k l0 a1).bind fun t101 => (some (decide (t101 ≥ 0)))
theorem ze0 : ∀ a0 a1 k, LeO (za8 k a0 a1) (za8 (k + 1) a0 a1) := by
 intro a0 a1 k
 unfold za8
 exact zm1 znj
theorem zf0 (k : Nat) (A0 : Option Addr) (c0 : Nat) (l0 : List Int) (a1 : Int) (r : Bool) (w : World) (hr0 : Kd.C (Kd.int .i64) w A0 l0.length l0) (hc0 : l0.length ≤ c0) (h : za8 k l0 a1 = some r) :
   Calls Tryz.prog 123 #[.slice A0 l0.length c0, .int .i64 a1] w fun e w' => e = .returned (.bool r) ∧ Drawn0 w w' := by
 have HR0 := zA hr0
 have HC0 := zA hc0
 clear hr0 hc0
 have H := h
 unfold za8 at H
 clear h
 replace H := zob H
 obtain ⟨t101, A30, H⟩ := H
 have A3 := zA A30
 clear A30
 obtain rfl := zsi H
 go_enter Tryz.func123, Tryz.ntmps123
 go_wp2_with (first | ((with_reducible refine zgc 159 ?_); refine zca 7 Tryz.func159 #[.slice A0 l0.length c0, .int .i64 a1] (zmm k _ _ l0 a1 t101 _ (zq37 HR0) HC0.out A3.out) ?_; rintro e w' ⟨rfl, ⟨nd, rfl⟩⟩; refine ⟨_, rfl, ?_⟩))
 exact zr_5
def zay : Nat → List Int → List Int → Int → Int → Option (Bool)
 | 0, _, _, _, _ => none
 | k + 1, x0, x5, x6, x7 => if x7 < x6 then (if 0 ≤ x7 then (if x7 < (x5.length : Int) then (if x7 ≤ (x0.length : Int) then ((za8 k (x0.take (x7 : Int).toNat) (rd x5 x7)).bind fun t103 => (if t103 = true then (some false) else (zay k x0 x5 x6 (wrap64 (x7 + 1))))) else (none)) else (none)) else (none)) else (some true)
def zch (k : Nat) (l0 : List Int) : Option (Bool) := zay k l0 l0 (l0.length : Int) 0
theorem zie : ∀ k, (∀ y0 y1 y2 y3, LeO (zay k y0 y1 y2 y3) (zay (k + 1) y0 y1 y2 y3))
 | 0 => fun _ _ _ _ r h => by simp [zay] at h
 | k + 1 => by
   have ih0 := zie k
   · intro y0 y1 y2 y3
     unfold zay
     exact zm2 ih0 ze0
theorem zfg : ∀ a0 k, LeO (zch k a0) (zch (k + 1) a0) := by
 intro a0 k
 have ih0 := zie k
 unfold zch
 exact zm2 ih0 ze0
theorem zl7 (k : Nat) (A0 : Option Addr) (c0 : Nat) (l0 : List Int) (r : Bool) (w : World) (hr0 : Kd.C (Kd.int .i64) w A0 l0.length l0) (hc0 : l0.length ≤ c0) (h : zch k l0 = some r) :
   Calls Tryz.prog 126 #[.slice A0 l0.length c0] w fun e w' => e = .returned (.bool r) ∧ Drawn0 w w' := by
 have HR0 := zA hr0
 have HC0 := zA hc0
 clear hr0 hc0
 have H := h
 unfold zch at H
 clear h
 have H' := zA H
 clear H
 go_enter Tryz.func126, Tryz.ntmps126
 go_wp2
 go_loopg [7] k (fun kq v7 w' => ∃ (x7_1 : Int), v7 = .int .i64 x7_1 ∧ Aside0 (zay kq l0 l0 (l0.length : Int) x7_1 = some r) ∧ Aside0 (kq ≤ k) ∧ Drawn0 w w')
 case atStart => exact ⟨(0), zq5, H', ⟨zlr _⟩, zq8⟩
 clear H'
 obtain ⟨x7_1, rfl, HA, HK1, ⟨m1, rfl⟩⟩ := hrel
 cases gk with
 | zero => exact absurd HA.out (by simp [zay])
 | succ k1 =>
 have H := HA.out
 clear HA
 simp only [zay] at H
 revert H
 refine zit (fun c2 H => ?_) fun c2 H => ?_
 rotate_left
 · obtain rfl := zsi H
   exact zr_1
 revert H
 refine zin fun c3 H => ?_
 revert H
 refine zin fun c4 H => ?_
 have c5b0 := eq_true (zde zq14 : 0 ≤ x7_1)
 by_cases c6 : x7_1 ≤ (l0.length : Int)
 rotate_left
 · rw [if_neg c6] at H
   exact absurd H (by simp)
 rw [if_pos c6] at H
 have c6b0 := eq_true c6
 have c6b1 := zdt c6
 clear c6
 replace H := zob H
 obtain ⟨t103, A70, H⟩ := H
 have A7 := zA A70
 clear A70
 by_cases c8 : t103 = true
 · subst c8
   replace H := zih H
   obtain rfl := zsi H
   obtain ⟨p101, q101⟩ := zpq x7_1 l0.length
   obtain ⟨ad101, e101, hx101_0⟩ := Kd.at_int HR0.out x7_1 (zoe p101) (zoe q101)
   cases e101
   obtain ⟨i09, hi09, _, hsz9, _⟩ := info_parts zl5
   obtain ⟨hcut9, hA9, hC9⟩ := zfm (P := Tryz.prog) (Value.int .i64) 0 24 3 .i64 Tryz.underlying24 hi09 hsz9 (some ad101) c0 l0 x7_1 (zde zq14) (zde zq14) HC0.out
   have HR102 := zA (Kd.C_of_reads (h1 := fun _ => rfl) (hA9 _ (Kd.reads_of_C HR0.out)))
   have HC102 := zA hC9
   clear hA9 hC9 hi09 hsz9
   go_wp2_with (first | ((with_reducible refine zkv (f := 123) rfl ?_); refine zsh (some 16) rfl rfl Tryz.func123 zq23 rfl #[.slice (some ad101) (l0.take (x7_1 : Int).toNat).length c0, .int .i64 (rd l0 x7_1)] rfl zq26 ?_; (with_reducible refine (zf0 k1 _ _ (l0.take (x7_1 : Int).toNat) (rd l0 x7_1) true _ ?side1 ?side2 A7.out).mono ?_); (case side1 => repeat (first | exact HR102.out | (with_reducible first | refine zCa ?_ _ | refine zCn ?_ _ | refine zCd ?_))); (case side2 => exact HC102.out); rintro e w' ⟨rfl, ⟨nd, rfl⟩⟩; refine ⟨_, rfl, ?_⟩))
   exact zr_5
 replace c8 := zbf c8
 subst c8
 replace H := zif H
 have H' := zA H
 clear H
 obtain ⟨p101, q101⟩ := zpq x7_1 l0.length
 obtain ⟨ad101, e101, hx101_0⟩ := Kd.at_int HR0.out x7_1 (zoe p101) (zoe q101)
 cases e101
 obtain ⟨i010, hi010, _, hsz10, _⟩ := info_parts zl5
 obtain ⟨hcut10, hA10, hC10⟩ := zfm (P := Tryz.prog) (Value.int .i64) 0 24 3 .i64 Tryz.underlying24 hi010 hsz10 (some ad101) c0 l0 x7_1 (zde zq14) (zde zq14) HC0.out
 have HR102 := zA (Kd.C_of_reads (h1 := fun _ => rfl) (hA10 _ (Kd.reads_of_C HR0.out)))
 have HC102 := zA hC10
 clear hA10 hC10 hi010 hsz10
 go_wp2_with (first | ((with_reducible refine zkv (f := 123) rfl ?_); refine zsh (some 16) rfl rfl Tryz.func123 zq23 rfl #[.slice (some ad101) (l0.take (x7_1 : Int).toNat).length c0, .int .i64 (rd l0 x7_1)] rfl zq26 ?_; (with_reducible refine (zf0 k1 _ _ (l0.take (x7_1 : Int).toNat) (rd l0 x7_1) false _ ?side1 ?side2 A7.out).mono ?_); (case side1 => repeat (first | exact HR102.out | (with_reducible first | refine zCa ?_ _ | refine zCn ?_ _ | refine zCd ?_))); (case side2 => exact HC102.out); rintro e w' ⟨rfl, ⟨nd, rfl⟩⟩; refine ⟨_, rfl, ?_⟩))
 go_roundg k1
 case measure => have := HK1.out; omega
 case rel => exact ⟨(wrap64 (x7_1 + 1)), zq5, H', ⟨zq31 HK1⟩, zq8⟩
def zaq : Nat → List ByteArray → List ByteArray → Int → Int → Option (Bool)
 | 0, _, _, _, _ => none
 | k + 1, x0, x5, x6, x7 => if x7 < x6 then (if 0 ≤ x7 then (if x7 < (x5.length : Int) then (if x7 ≤ (x0.length : Int) then ((zan k (x0.take (x7 : Int).toNat) (rdOf ByteArray.empty x5 x7)).bind fun t103 => (if t103 = true then (some false) else (zaq k x0 x5 x6 (wrap64 (x7 + 1))))) else (none)) else (none)) else (none)) else (some true)
def zbz (k : Nat) (l0 : List ByteArray) : Option (Bool) := zaq k l0 l0 (l0.length : Int) 0
theorem zhn : ∀ k, (∀ y0 y1 y2 y3, LeO (zaq k y0 y1 y2 y3) (zaq (k + 1) y0 y1 y2 y3))
 | 0 => fun _ _ _ _ r h => by simp [zaq] at h
 | k + 1 => by
   have ih0 := zhn k
   · intro y0 y1 y2 y3
     unfold zaq
     exact zm2 ih0 zcc
theorem zep : ∀ a0 k, LeO (zbz k a0) (zbz (k + 1) a0) := by
 intro a0 k
 have ih0 := zhn k
 unfold zbz
 exact zm2 ih0 zcc
theorem zhv (k : Nat) (A0 : Option Addr) (c0 : Nat) (l0 : List ByteArray) (r : Bool) (w : World) (hr0 : Kd.C Kd.string w A0 l0.length l0) (hc0 : l0.length ≤ c0) (h : zbz k l0 = some r) :
   Calls Tryz.prog 125 #[.slice A0 l0.length c0] w fun e w' => e = .returned (.bool r) ∧ Drawn0 w w' := by
 have HR0 := zA hr0
 have HC0 := zA hc0
 clear hr0 hc0
 have H := h
 unfold zbz at H
 clear h
 have H' := zA H
 clear H
 go_enter Tryz.func125, Tryz.ntmps125
 go_wp2
 go_loopg [7] k (fun kq v7 w' => ∃ (x7_1 : Int), v7 = .int .i64 x7_1 ∧ Aside0 (zaq kq l0 l0 (l0.length : Int) x7_1 = some r) ∧ Aside0 (kq ≤ k) ∧ Drawn0 w w')
 case atStart => exact ⟨(0), zq5, H', ⟨zlr _⟩, zq8⟩
 clear H'
 obtain ⟨x7_1, rfl, HA, HK1, ⟨m1, rfl⟩⟩ := hrel
 cases gk with
 | zero => exact absurd HA.out (by simp [zaq])
 | succ k1 =>
 have H := HA.out
 clear HA
 simp only [zaq] at H
 revert H
 refine zit (fun c2 H => ?_) fun c2 H => ?_
 rotate_left
 · obtain rfl := zsi H
   exact zr_1
 revert H
 refine zin fun c3 H => ?_
 revert H
 refine zin fun c4 H => ?_
 have c5b0 := eq_true (zde zq14 : 0 ≤ x7_1)
 by_cases c6 : x7_1 ≤ (l0.length : Int)
 rotate_left
 · rw [if_neg c6] at H
   exact absurd H (by simp)
 rw [if_pos c6] at H
 have c6b0 := eq_true c6
 have c6b1 := zdt c6
 clear c6
 replace H := zob H
 obtain ⟨t103, A70, H⟩ := H
 have A7 := zA A70
 clear A70
 by_cases c8 : t103 = true
 · subst c8
   replace H := zih H
   obtain rfl := zsi H
   obtain ⟨p101, q101⟩ := zpq x7_1 l0.length
   obtain ⟨ad101, e101, hx101_0⟩ := Kd.at_string HR0.out x7_1 (zoe p101) (zoe q101)
   cases e101
   obtain ⟨i09, hi09, _, hsz9, _⟩ := info_parts zw0
   obtain ⟨hcut9, hA9, hC9⟩ := zfm (P := Tryz.prog) Value.string (⟨#[]⟩ : ByteArray) 23 9 .i64 Tryz.underlying23 hi09 hsz9 (some ad101) c0 l0 x7_1 (zde zq14) (zde zq14) HC0.out
   have HR102 := zA (Kd.C_of_reads (h1 := fun _ => rfl) (hA9 _ (Kd.reads_of_C HR0.out)))
   have HC102 := zA hC9
   clear hA9 hC9 hi09 hsz9
   go_wp2_with (first | ((with_reducible refine zkv (f := 161) rfl ?_); refine zsh (some 16) rfl rfl Tryz.func161 zq23 rfl #[.slice (some ad101) (l0.take (x7_1 : Int).toNat).length c0, .string (rdOf ByteArray.empty l0 x7_1)] rfl zq26 ?_; (with_reducible refine (zah k1 _ _ (l0.take (x7_1 : Int).toNat) (rdOf ByteArray.empty l0 x7_1) true _ ?side1 ?side2 A7.out).mono ?_); (case side1 => repeat (first | exact HR102.out | (with_reducible first | refine zCa ?_ _ | refine zCn ?_ _ | refine zCd ?_))); (case side2 => exact HC102.out); rintro e w' ⟨rfl, ⟨nd, rfl⟩⟩; refine ⟨_, rfl, ?_⟩))
   exact zr_5
 replace c8 := zbf c8
 subst c8
 replace H := zif H
 have H' := zA H
 clear H
 obtain ⟨p101, q101⟩ := zpq x7_1 l0.length
 obtain ⟨ad101, e101, hx101_0⟩ := Kd.at_string HR0.out x7_1 (zoe p101) (zoe q101)
 cases e101
 obtain ⟨i010, hi010, _, hsz10, _⟩ := info_parts zw0
 obtain ⟨hcut10, hA10, hC10⟩ := zfm (P := Tryz.prog) Value.string (⟨#[]⟩ : ByteArray) 23 9 .i64 Tryz.underlying23 hi010 hsz10 (some ad101) c0 l0 x7_1 (zde zq14) (zde zq14) HC0.out
 have HR102 := zA (Kd.C_of_reads (h1 := fun _ => rfl) (hA10 _ (Kd.reads_of_C HR0.out)))
 have HC102 := zA hC10
 clear hA10 hC10 hi010 hsz10
 go_wp2_with (first | ((with_reducible refine zkv (f := 161) rfl ?_); refine zsh (some 16) rfl rfl Tryz.func161 zq23 rfl #[.slice (some ad101) (l0.take (x7_1 : Int).toNat).length c0, .string (rdOf ByteArray.empty l0 x7_1)] rfl zq26 ?_; (with_reducible refine (zah k1 _ _ (l0.take (x7_1 : Int).toNat) (rdOf ByteArray.empty l0 x7_1) false _ ?side1 ?side2 A7.out).mono ?_); (case side1 => repeat (first | exact HR102.out | (with_reducible first | refine zCa ?_ _ | refine zCn ?_ _ | refine zCd ?_))); (case side2 => exact HC102.out); rintro e w' ⟨rfl, ⟨nd, rfl⟩⟩; refine ⟨_, rfl, ?_⟩))
 go_roundg k1
 case measure => have := HK1.out; omega
 case rel => exact ⟨(wrap64 (x7_1 + 1)), zq5, H', ⟨zq31 HK1⟩, zq8⟩
def zd3 (a0 : Int) (a1 : Int) (a2 : Int) : Option (Bool) := if a1 ≤ a0 then (some (decide (a0 ≤ a2))) else (some false)
theorem zbo (a0 : Int) (a1 : Int) (a2 : Int) (r : Bool) (w : World) (h : zd3 a0 a1 a2 = some r) :
   Calls Tryz.prog 90 #[.int .i64 a0, .int .i64 a1, .int .i64 a2] w fun e w' => e = .returned (.bool r) ∧ Drawn0 w w' := by
 have H := h
 unfold zd3 at H
 clear h
 revert H
 refine zit (fun c4b0 H => ?_) fun c4b0 H => ?_
 · obtain rfl := zsi H
   go_enter Tryz.func90, Tryz.ntmps90
   exact zr_1
 · obtain rfl := zsi H
   go_enter Tryz.func90, Tryz.ntmps90
   exact zr_1
def zhz (a0 : Int) : Option (Bool) := (zd3 a0 0 63).bind fun t101 => (some t101)
theorem zho (a0 : Int) (r : Bool) (w : World) (h : zhz a0 = some r) :
   Calls Tryz.prog 128 #[.int .i64 a0] w fun e w' => e = .returned (.bool r) ∧ Drawn0 w w' := by
 have H := h
 unfold zhz at H
 clear h
 replace H := zob H
 obtain ⟨t101, A20, H⟩ := H
 have A2 := zA A20
 clear A20
 obtain rfl := zsi H
 go_enter Tryz.func128, Tryz.ntmps128
 go_wp2_with (first | ((with_reducible refine zgc 90 ?_); refine zcl 4 Tryz.func90 (zbo a0 0 63 t101 _ A2.out) ?_; rintro e w' ⟨rfl, ⟨nd, rfl⟩⟩; refine ⟨_, rfl, ?_⟩))
 exact zr_5
end Go.Proofs.YtnaafcleafbejaaGreat.Q
end
section
namespace Go.Proofs.YtnaafcleafbejaaGreat.Q
open Go.RowKit Go.Proofs.YtnaafcleafbejaaGreatW.PrintWords Go.Proofs.YtnaafcleafbejaaGreatW.PrintLast Go.Proofs.YtnaafcleafbejaaGreatW.PrintMore
set_option maxHeartbeats 8000000
set_option maxRecDepth 100000
attribute [local go_sem] zbc zbg zb8 zb9 za1 za2 zbi zbj
set_option linter.unusedVariables false
set_option linter.unusedSimpArgs false
mutual
def zbr : Nat → Bool → List ByteArray → List Int → Option (Bool)
 | 0, _, _, _ => none
 | k + 1, x31, x102000, x102001 => if x31 = true then (some false) else (zb4 k x102000 (x102000.length : Int) 0 x102000 x102001)
def zb4 : Nat → List ByteArray → Int → Int → List ByteArray → List Int → Option (Bool)
 | 0, _, _, _, _, _ => none
 | k + 1, x33, x34, x35, x102000, x102001 => if x35 < x34 then (if 0 ≤ x35 then (if x35 < (x33.length : Int) then ((zjp (rdOf ByteArray.empty x33 x35)).bind fun bt106 => (if bt106.2.2.2.2.2.2 = true then (zbv k x33 x34 x35 x102001 (x102001.length : Int) 0 x102000 x102001 bt106.1 bt106.2.1 bt106.2.2.1 bt106.2.2.2.1 bt106.2.2.2.2.1 bt106.2.2.2.2.2.1) else (some false))) else (none)) else (none)) else (some true)
def zbv : Nat → List ByteArray → Int → Int → List Int → Int → Int → List ByteArray → List Int → Bool → Bool → Int → Int → Int → ByteArray → Option (Bool)
 | 0, _, _, _, _, _, _, _, _, _, _, _, _, _, _ => none
 | k + 1, x33, x34, x35, x47, x48, x49, x102000, x102001, x114000, x114001, x114002, x114003, x114004, x114005 => if x49 < x48 then (if 0 ≤ x49 then (if x49 < (x47.length : Int) then ((zhz (rd x47 x49)).bind fun t115 => (if t115 = true then ((zgp x114000 x114001 x114002 x114003 x114004 x114005).bind fun t116 => (if t116 = true then ((zd3 (rd x47 x49) x114002 x114003).bind fun t117 => (if t117 = true then (zbv k x33 x34 x35 x47 x48 (wrap64 (x49 + 1)) x102000 x102001 x114000 x114001 x114002 x114003 x114004 x114005) else (some false))) else (zbv k x33 x34 x35 x47 x48 (wrap64 (x49 + 1)) x102000 x102001 x114000 x114001 x114002 x114003 x114004 x114005))) else (some false))) else (none)) else (none)) else (zb4 k x33 x34 (wrap64 (x35 + 1)) x102000 x102001)
end
def zfo (k : Nat) (l0_0 : List ByteArray) (l0_1 : List Int) : Option (Bool) := (zd3 (l0_0.length : Int) 1 4).bind fun t102 => (if t102 = true then (if (l0_1.length : Int) > 2 then (zbr k true l0_0 l0_1) else ((zbz k l0_0).bind fun t103 => (if t103 = true then ((zch k l0_1).bind fun t104 => (zbr k (!t104) l0_0 l0_1)) else (zbr k true l0_0 l0_1)))) else (zbr k true l0_0 l0_1))
theorem zll : ∀ k, (∀ y0 y1 y2, LeO (zbr k y0 y1 y2) (zbr (k + 1) y0 y1 y2)) ∧ (∀ y0 y1 y2 y3 y4, LeO (zb4 k y0 y1 y2 y3 y4) (zb4 (k + 1) y0 y1 y2 y3 y4)) ∧ (∀ y0 y1 y2 y3 y4 y5 y6 y7 y8 y9 y10 y11 y12 y13, LeO (zbv k y0 y1 y2 y3 y4 y5 y6 y7 y8 y9 y10 y11 y12 y13) (zbv (k + 1) y0 y1 y2 y3 y4 y5 y6 y7 y8 y9 y10 y11 y12 y13))
 | 0 => ⟨fun _ _ _ r h => by simp [zbr] at h, fun _ _ _ _ _ r h => by simp [zb4] at h, fun _ _ _ _ _ _ _ _ _ _ _ _ _ _ r h => by simp [zbv] at h⟩
 | k + 1 => by
   obtain ⟨ih0, ih1, ih2⟩ := zll k
   refine ⟨?_, ?_, ?_⟩
   · intro y0 y1 y2
     unfold zbr
     exact zm5 ih0 ih1 ih2 zfg zep
   · intro y0 y1 y2 y3 y4
     unfold zb4
     exact zm5 ih0 ih1 ih2 zfg zep
   · intro y0 y1 y2 y3 y4 y5 y6 y7 y8 y9 y10 y11 y12 y13
     unfold zbv
     exact zm5 ih0 ih1 ih2 zfg zep
theorem zqh : ∀ a0 a1 k, LeO (zfo k a0 a1) (zfo (k + 1) a0 a1) := by
 intro a0 a1 k
 obtain ⟨ih0, ih1, ih2⟩ := zll k
 unfold zfo
 exact zm5 ih0 ih1 ih2 zfg zep
theorem zl8 (k : Nat) (A0_0 : Option Addr) (c0_0 : Nat) (l0_0 : List ByteArray) (A0_1 : Option Addr) (c0_1 : Nat) (l0_1 : List Int) (r : Bool) (w : World) (hr0_0 : Kd.C Kd.string w A0_0 l0_0.length l0_0) (hc0_0 : l0_0.length ≤ c0_0) (hr0_1 : Kd.C (Kd.int .i64) w A0_1 l0_1.length l0_1) (hc0_1 : l0_1.length ≤ c0_1) (h : zfo k l0_0 l0_1 = some r) :
   Calls Tryz.prog 89 #[.agg #[.slice A0_0 l0_0.length c0_0, .slice A0_1 l0_1.length c0_1]] w fun e w' => e = .returned (.bool r) ∧ Below w.heap.size w w' := by
 have hu34 := Tryz.underlying34
 have hu133 := Tryz.underlying133
 have HR0_0 := zA hr0_0
 have HC0_0 := zA hc0_0
 clear hr0_0 hc0_0
 have HR0_1 := zA hr0_1
 have HC0_1 := zA hc0_1
 clear hr0_1 hc0_1
 have HB := zA (Below.refl w.heap.size w)
 have H := h
 unfold zfo at H
 clear h
 have HC2 := zA H
 clear H
 go_enter Tryz.func89, Tryz.ntmps89
 go_upto_region 1 with (first | ((with_reducible refine zgd 1 ?_); (try (refine zl4 (by rfl) ?_; dsimp only)); refine zh9 ?hg (N := 1) ?hd (cs := #[.slice A0_0 l0_0.length c0_0, .slice A0_1 l0_1.length c0_1]) (t := 34) ?hr ?_; (case hd => rfl); (case hg => rfl); (case hr => go_simp <;> rfl); intro gb101 hg w3 hbox hb; have zs := zpair zq2 hb; replace HB := zA (zs.1); have BK101 := zA (hbox); have GW101 := zA (zge hg zs.2); have GE101 := GW101; clear zs hb hbox hg))
 (try simp only [Act.put, List.setIfInBounds_toArray, List.set_cons_zero, List.set_cons_succ])
 go_cut [31] (fun v31 wc => ∃ (kq : Nat) (x31_1 : Bool), v31 = .bool x31_1 ∧ Aside0 (zbr kq x31_1 l0_0 l0_1 = some r) ∧ Aside0 (kq ≤ k) ∧ Aside0 (wc.heap[gb101]? = some (.cells #[(.slice A0_0 l0_0.length c0_0), (.slice A0_1 l0_1.length c0_1)] 34 (0, 0))) ∧ Aside0 (Below w.heap.size w wc))
 case first =>
   have H := HC2.out
   clear HC2
   replace H := zob H
   obtain ⟨t102, A40, H⟩ := H
   have A4 := zA A40
   clear A40
   by_cases c5 : t102 = true
   rotate_left
   · replace c5 := zbf c5
     subst c5
     replace H := zif H
     have H' := zA H
     clear H
     obtain ⟨hcz13_0, hcz13_1⟩ := zc2 w3 (.slice A0_0 l0_0.length c0_0) (.slice A0_1 l0_1.length c0_1) BK101.out
     obtain ⟨hfz13_0, hfz13_1⟩ := zf2 BK101.out
     go_wp2_with (first | ((with_reducible refine zgc 90 ?_); refine zcl 12 Tryz.func90 (zbo (l0_0.length : Int) 1 4 false _ A4.out) ?_; rintro e w' ⟨rfl, ⟨nd, rfl⟩⟩; refine ⟨_, rfl, ?_⟩))
     go_meet
     case rel => exact ⟨_, (true), zq5, H', ⟨zq41⟩, ⟨zq6 BK101⟩, ⟨zq1 GE101⟩⟩
   subst c5
   replace H := zih H
   by_cases c6 : (l0_1.length : Int) > 2
   · rw [if_pos c6] at H
     have c6b0 := zdt c6
     have c6b1 : decide (2 < l0_1.length) = true := zdt (by omega)
     clear c6
     (first | rw [c6b0] | (simp only [zic, zj6]; rw [c6b0]) | skip)
     have H' := zA H
     clear H
     obtain ⟨hcz7_0, hcz7_1⟩ := zc2 w3 (.slice A0_0 l0_0.length c0_0) (.slice A0_1 l0_1.length c0_1) BK101.out
     obtain ⟨hfz7_0, hfz7_1⟩ := zf2 BK101.out
     go_wp2_with (first | ((with_reducible refine zgc 90 ?_); refine zcl 12 Tryz.func90 (zbo (l0_0.length : Int) 1 4 true _ A4.out) ?_; rintro e w' ⟨rfl, ⟨nd, rfl⟩⟩; refine ⟨_, rfl, ?_⟩))
     go_meet
     case rel => exact ⟨_, (true), zq5, H', ⟨zq41⟩, ⟨zq6 BK101⟩, ⟨zq1 GE101⟩⟩
   rw [if_neg c6] at H
   have c6b0 := zdf c6
   have c6b1 : decide (2 < l0_1.length) = false := zdf (by omega)
   clear c6
   (first | rw [c6b0] | (simp only [zic, zj6]; rw [c6b0]) | skip)
   replace H := zob H
   obtain ⟨t103, A80, H⟩ := H
   have A8 := zA A80
   clear A80
   by_cases c9 : t103 = true
   rotate_left
   · replace c9 := zbf c9
     subst c9
     replace H := zif H
     have H' := zA H
     clear H
     obtain ⟨hcz12_0, hcz12_1⟩ := zc2 w3 (.slice A0_0 l0_0.length c0_0) (.slice A0_1 l0_1.length c0_1) BK101.out
     obtain ⟨hfz12_0, hfz12_1⟩ := zf2 BK101.out
     go_wp2_with (first | ((with_reducible refine zgc 90 ?_); refine zcl 12 Tryz.func90 (zbo (l0_0.length : Int) 1 4 true _ A4.out) ?_; rintro e w' ⟨rfl, ⟨nd, rfl⟩⟩; refine ⟨_, rfl, ?_⟩) | (go_at_call 125; (with_reducible refine (zhv k _ _ l0_0 false _ ?side1 ?side2 A8.out).mono ?_); (case side1 => repeat (first | exact (zCb HR0_0.out (zq1 GE101)) | (with_reducible first | refine zCa ?_ _ | refine zCn ?_ _ | refine zCd ?_))); (case side2 => exact HC0_0.out); rintro e w' ⟨rfl, ⟨nd, rfl⟩⟩))
     go_meet
     case rel => exact ⟨_, (true), zq5, H', ⟨zq41⟩, ⟨zq6 BK101⟩, ⟨zq1 GE101⟩⟩
   subst c9
   replace H := zih H
   replace H := zob H
   obtain ⟨t104, A100, H⟩ := H
   have A10 := zA A100
   clear A100
   have H' := zA H
   clear H
   obtain ⟨hcz11_0, hcz11_1⟩ := zc2 w3 (.slice A0_0 l0_0.length c0_0) (.slice A0_1 l0_1.length c0_1) BK101.out
   obtain ⟨hfz11_0, hfz11_1⟩ := zf2 BK101.out
   go_wp2_with (first | ((with_reducible refine zgc 90 ?_); refine zcl 12 Tryz.func90 (zbo (l0_0.length : Int) 1 4 true _ A4.out) ?_; rintro e w' ⟨rfl, ⟨nd, rfl⟩⟩; refine ⟨_, rfl, ?_⟩) | (go_at_call 125; (with_reducible refine (zhv k _ _ l0_0 true _ ?side1 ?side2 A8.out).mono ?_); (case side1 => repeat (first | exact (zCb HR0_0.out (zq1 GE101)) | (with_reducible first | refine zCa ?_ _ | refine zCn ?_ _ | refine zCd ?_))); (case side2 => exact HC0_0.out); rintro e w' ⟨rfl, ⟨nd, rfl⟩⟩) | (go_at_call 126; (with_reducible refine (zl7 k _ _ l0_1 t104 _ ?side1 ?side2 A10.out).mono ?_); (case side1 => repeat (first | exact (zCb HR0_1.out (zq1 GE101)) | (with_reducible first | refine zCa ?_ _ | refine zCn ?_ _ | refine zCd ?_))); (case side2 => exact HC0_1.out); rintro e w' ⟨rfl, ⟨nd, rfl⟩⟩))
   go_meet
   case rel => exact ⟨_, (!t104), zq5, H', ⟨zq41⟩, ⟨zq6 BK101⟩, ⟨zq1 GE101⟩⟩
 clear HC2
 try clear c5
 try clear c6
 try clear c6b0
 try clear c6b1
 try clear c9
 try clear hcz11_0
 try clear hcz11_1
 try clear hcz12_0
 try clear hcz12_1
 try clear hcz13_0
 try clear hcz13_1
 try clear hcz7_0
 try clear hcz7_1
 try clear hfz11_0
 try clear hfz11_1
 try clear hfz12_0
 try clear hfz12_1
 try clear hfz13_0
 try clear hfz13_1
 try clear hfz7_0
 try clear hfz7_1
 obtain ⟨kq, x31_1, rfl, HA, HJ1, BK101, HB⟩ := hcut
 cases kq with
 | zero => exact absurd HA.out (by simp [zbr])
 | succ kj1 =>
 have H := HA.out
 clear HA
 simp only [zbr] at H
 by_cases c14 : x31_1 = true
 · subst c14
   replace H := zih H
   obtain rfl := zsi H
   go_wp2
   go_ret
   exact ⟨zq4, zq1 GE101⟩
 replace c14 := zbf c14
 subst c14
 replace H := zif H
 have H' := zA H
 clear H
 obtain ⟨hcz15_0, hcz15_1⟩ := zc2 wc (.slice A0_0 l0_0.length c0_0) (.slice A0_1 l0_1.length c0_1) BK101.out
 obtain ⟨hfz15_0, hfz15_1⟩ := zf2 BK101.out
 go_wp2
 go_loopg [35] kj1 (fun kq v35 w' => ∃ (x35_2 : Int), v35 = .int .i64 x35_2 ∧ Aside0 (zb4 kq l0_0 (l0_0.length : Int) x35_2 l0_0 l0_1 = some r) ∧ Aside0 (kq ≤ kj1) ∧ Aside0 (w'.heap[gb101]? = some (.cells #[(.slice A0_0 l0_0.length c0_0), (.slice A0_1 l0_1.length c0_1)] 34 (0, 0))) ∧ Aside0 (Below w.heap.size w w'))
 case atStart => exact ⟨(0), zq5, H', ⟨zlr _⟩, ⟨zq6 BK101⟩, ⟨zq1 GE101⟩⟩
 clear H'
 try clear c5
 try clear c6
 try clear c6b0
 try clear c6b1
 try clear c9
 try clear c14
 try clear hcz11_0
 try clear hcz11_1
 try clear hcz12_0
 try clear hcz12_1
 try clear hcz13_0
 try clear hcz13_1
 try clear hcz15_0
 try clear hcz15_1
 try clear hcz7_0
 try clear hcz7_1
 try clear hfz11_0
 try clear hfz11_1
 try clear hfz12_0
 try clear hfz12_1
 try clear hfz13_0
 try clear hfz13_1
 try clear hfz15_0
 try clear hfz15_1
 try clear hfz7_0
 try clear hfz7_1
 obtain ⟨x35_2, rfl, HA, HK2, BK101, HB⟩ := hrel
 cases gk with
 | zero => exact absurd HA.out (by simp [zb4])
 | succ k2 =>
 have H := HA.out
 clear HA
 simp only [zb4] at H
 revert H
 refine zit (fun c16 H => ?_) fun c16 H => ?_
 rotate_left
 · obtain rfl := zsi H
   go_wp2
   go_ret
   exact ⟨zq4, zq1 GE101⟩
 revert H
 refine zin fun c17 H => ?_
 revert H
 refine zin fun c18 H => ?_
 replace H := zob H
 obtain ⟨⟨t106, t107, t108, t109, t110, t111, t112⟩, A190, H⟩ := H
 have A19 := zA A190
 clear A190
 by_cases c20 : t112 = true
 rotate_left
 · replace c20 := zbf c20
   subst c20
   replace H := zif H
   obtain rfl := zsi H
   obtain ⟨p105, q105⟩ := zpq x35_2 l0_0.length
   obtain ⟨ad105, e105, hx105_0⟩ := Kd.at_string HR0_0.out x35_2 (zoe p105) (zoe q105)
   cases e105
   replace hx105_0 := zkep HB.out hx105_0
   go_wp2_with (first | ((with_reducible refine zgc 127 ?_); refine zcl 41 Tryz.func127 (zkl (rdOf ByteArray.empty l0_0 x35_2) t106 t107 t108 t109 t110 t111 false _ A19.out) ?_; rintro e w46 ⟨rfl, hb⟩; refine ⟨_, rfl, ?_⟩; replace BK101 := zbb BK101 hb; replace HB := zA (zaa (zq1 GE101) hb); (try clear hb)) | ((with_reducible refine zgd 5 ?_); (try (refine zl4 (by rfl) ?_; dsimp only)); refine zh9 ?hg (N := 5) ?hd (cs := #[.bool false, .bool false, .int .i64 0, .int .i64 0, .int .i64 0, .string (⟨#[]⟩ : ByteArray)]) (t := 133) ?hr ?_; (case hd => rfl); (case hg => rfl); (case hr => go_simp <;> rfl); intro gb113 hg w47 hbox hb; have zs := zpair (zq1 GE101) hb; replace HB := zA (zs.1); have BK113 := zA (hbox); have GW113 := zA (zge hg zs.2); have GE113 := GW113; have NB101_113 := zA ((zq21 BK101 : gb101 ≠ gb113)); replace BK101 := zbb BK101 hb; have NB113_101 := zA (Ne.symm NB101_113.out); clear zs hb hbox hg; have hnb48 := NB113_101.out; have hnc48 := NB101_113.out; obtain ⟨hcz49_0, hcz49_1, hcz49_2, hcz49_3, hcz49_4, hcz49_5, hfz49_0, hfz49_1, hfz49_2, hfz49_3, hfz49_4, hfz49_5⟩ := zd6 BK113))
   go_ret
   exact ⟨zq4, zq9 GE101 GE113⟩
 subst c20
 replace H := zih H
 have H' := zA H
 clear H
 obtain ⟨p105, q105⟩ := zpq x35_2 l0_0.length
 obtain ⟨ad105, e105, hx105_0⟩ := Kd.at_string HR0_0.out x35_2 (zoe p105) (zoe q105)
 cases e105
 replace hx105_0 := zkep HB.out hx105_0
 go_wp2_with (first | ((with_reducible refine zgc 127 ?_); refine zcl 41 Tryz.func127 (zkl (rdOf ByteArray.empty l0_0 x35_2) t106 t107 t108 t109 t110 t111 true _ A19.out) ?_; rintro e w21 ⟨rfl, hb⟩; refine ⟨_, rfl, ?_⟩; replace BK101 := zbb BK101 hb; replace HB := zA (zaa (zq1 GE101) hb); (try clear hb)) | ((with_reducible refine zgd 5 ?_); (try (refine zl4 (by rfl) ?_; dsimp only)); refine zh9 ?hg (N := 5) ?hd (cs := #[.bool false, .bool false, .int .i64 0, .int .i64 0, .int .i64 0, .string (⟨#[]⟩ : ByteArray)]) (t := 133) ?hr ?_; (case hd => rfl); (case hg => rfl); (case hr => go_simp <;> rfl); intro gb113 hg w22 hbox hb; have zs := zpair (zq1 GE101) hb; replace HB := zA (zs.1); have BK113 := zA (hbox); have GW113 := zA (zge hg zs.2); have GE113 := GW113; have NB101_113 := zA ((zq21 BK101 : gb101 ≠ gb113)); replace BK101 := zbb BK101 hb; have NB113_101 := zA (Ne.symm NB101_113.out); clear zs hb hbox hg; have hnb23 := NB113_101.out; have hnc23 := NB101_113.out; obtain ⟨hcz24_0, hcz24_1, hcz24_2, hcz24_3, hcz24_4, hcz24_5, hfz24_0, hfz24_1, hfz24_2, hfz24_3, hfz24_4, hfz24_5⟩ := zd6 BK113; obtain ⟨hcz25_0, hcz25_1, hfz25_0, hfz25_1⟩ := zd2 BK101))
 go_loopg [49] k2 (fun kq v49 w' => ∃ (x49_3 : Int), v49 = .int .i64 x49_3 ∧ Aside0 (zbv kq l0_0 (l0_0.length : Int) x35_2 l0_1 (l0_1.length : Int) x49_3 l0_0 l0_1 t106 t107 t108 t109 t110 t111 = some r) ∧ Aside0 (kq ≤ k2) ∧ Aside0 (w'.heap[gb101]? = some (.cells #[(.slice (some ad105) l0_0.length c0_0), (.slice A0_1 l0_1.length c0_1)] 34 (0, 0))) ∧ Aside0 (w'.heap[gb113]? = some (.cells #[.bool t106, .bool t107, .int .i64 t108, .int .i64 t109, .int .i64 t110, .string t111] 133 (0, 0))) ∧ Aside0 (Below w.heap.size w w'))
 case atStart => exact ⟨(0), zq5, H', ⟨zlr _⟩, ⟨zq30 NB101_113 BK101⟩, ⟨zq19 BK113⟩, ⟨zq9 GE101 GE113⟩⟩
 clear H'
 try clear c5
 try clear c6
 try clear c6b0
 try clear c6b1
 try clear c9
 try clear c14
 try clear c16
 try clear c17
 try clear c18
 try clear c20
 try clear hcz11_0
 try clear hcz11_1
 try clear hcz12_0
 try clear hcz12_1
 try clear hcz13_0
 try clear hcz13_1
 try clear hcz15_0
 try clear hcz15_1
 try clear hcz24_0
 try clear hcz24_1
 try clear hcz24_2
 try clear hcz24_3
 try clear hcz24_4
 try clear hcz24_5
 try clear hcz25_0
 try clear hcz25_1
 try clear hcz7_0
 try clear hcz7_1
 try clear hfz11_0
 try clear hfz11_1
 try clear hfz12_0
 try clear hfz12_1
 try clear hfz13_0
 try clear hfz13_1
 try clear hfz15_0
 try clear hfz15_1
 try clear hfz24_0
 try clear hfz24_1
 try clear hfz24_2
 try clear hfz24_3
 try clear hfz24_4
 try clear hfz24_5
 try clear hfz25_0
 try clear hfz25_1
 try clear hfz7_0
 try clear hfz7_1
 try clear hx105_0
 try clear p105
 try clear q105
 obtain ⟨x49_3, rfl, HA, HK3, BK101, BK113, HB⟩ := hrel
 cases gk with
 | zero => exact absurd HA.out (by simp [zbv])
 | succ k3 =>
 have H := HA.out
 clear HA
 simp only [zbv] at H
 revert H
 refine zit (fun c26 H => ?_) fun c26 H => ?_
 rotate_left
 · have H' := zA H
   clear H
   go_wp2
   go_roundg k3
   case measure => have := HJ1.out; have := HK2.out; have := HK3.out; omega
   case rel => exact ⟨(wrap64 (x35_2 + 1)), zq5, H', ⟨by have := HJ1.out; have := HK2.out; have := HK3.out; omega⟩, ⟨zq6 BK101⟩, ⟨zq9 GE101 GE113⟩⟩
 revert H
 refine zin fun c27 H => ?_
 revert H
 refine zin fun c28 H => ?_
 replace H := zob H
 obtain ⟨t115, A290, H⟩ := H
 have A29 := zA A290
 clear A290
 by_cases c30 : t115 = true
 rotate_left
 · replace c30 := zbf c30
   subst c30
   replace H := zif H
   obtain rfl := zsi H
   obtain ⟨p114, q114⟩ := zpq x49_3 l0_1.length
   obtain ⟨ad114, e114, hx114_0⟩ := Kd.at_int HR0_1.out x49_3 (zoe p114) (zoe q114)
   cases e114
   replace hx114_0 := zkep HB.out hx114_0
   go_wp2_with (first | ((with_reducible refine zgc 128 ?_); refine zcl 54 Tryz.func128 (zho (rd l0_1 x49_3) false _ A29.out) ?_; rintro e w' ⟨rfl, ⟨nd, rfl⟩⟩; refine ⟨_, rfl, ?_⟩))
   go_ret
   exact ⟨zq4, zq9 GE101 GE113⟩
 subst c30
 replace H := zih H
 replace H := zob H
 obtain ⟨t116, A310, H⟩ := H
 have A31 := zA A310
 clear A310
 by_cases c32 : t116 = true
 rotate_left
 · replace c32 := zbf c32
   subst c32
   replace H := zif H
   have H' := zA H
   clear H
   obtain ⟨p114, q114⟩ := zpq x49_3 l0_1.length
   obtain ⟨ad114, e114, hx114_0⟩ := Kd.at_int HR0_1.out x49_3 (zoe p114) (zoe q114)
   cases e114
   replace hx114_0 := zkep HB.out hx114_0
   go_wp2_with (first | ((with_reducible refine zgc 128 ?_); refine zcl 54 Tryz.func128 (zho (rd l0_1 x49_3) true _ A29.out) ?_; rintro e w' ⟨rfl, ⟨nd, rfl⟩⟩; refine ⟨_, rfl, ?_⟩; have hnb43 := NB113_101.out; have hnc43 := NB101_113.out; obtain ⟨hcz44_0, hcz44_1, hcz44_2, hcz44_3, hcz44_4, hcz44_5⟩ := zc6 wr (.bool t106) (.bool t107) (.int .i64 t108) (.int .i64 t109) (.int .i64 t110) (.string t111) BK113.out; obtain ⟨hfz44_0, hfz44_1, hfz44_2, hfz44_3, hfz44_4, hfz44_5⟩ := zf6 BK113.out) | (go_at_call 129; (with_reducible refine (zhw t106 t107 t108 t109 t110 t111 false _ A31.out).mono ?_); rintro e w45 ⟨rfl, hb⟩; replace BK101 := zbb BK101 hb; replace BK113 := zbb BK113 hb; replace HB := zA (zaa (zq9 GE101 GE113) hb); (try clear hb)))
   go_roundg k3
   case measure => have := HJ1.out; have := HK2.out; have := HK3.out; omega
   case rel => exact ⟨(wrap64 (x49_3 + 1)), zq5, H', ⟨by have := HJ1.out; have := HK2.out; have := HK3.out; omega⟩, ⟨zq6 BK101⟩, ⟨zq6 BK113⟩, ⟨zq9 GE101 GE113⟩⟩
 subst c32
 replace H := zih H
 replace H := zob H
 obtain ⟨t117, A330, H⟩ := H
 have A33 := zA A330
 clear A330
 by_cases c34 : t117 = true
 rotate_left
 · replace c34 := zbf c34
   subst c34
   replace H := zif H
   obtain rfl := zsi H
   obtain ⟨p114, q114⟩ := zpq x49_3 l0_1.length
   obtain ⟨ad114, e114, hx114_0⟩ := Kd.at_int HR0_1.out x49_3 (zoe p114) (zoe q114)
   cases e114
   replace hx114_0 := zkep HB.out hx114_0
   go_wp2_with (first | ((with_reducible refine zgc 128 ?_); refine zcl 54 Tryz.func128 (zho (rd l0_1 x49_3) true _ A29.out) ?_; rintro e w' ⟨rfl, ⟨nd, rfl⟩⟩; refine ⟨_, rfl, ?_⟩; have hnb39 := NB113_101.out; have hnc39 := NB101_113.out; obtain ⟨hcz40_0, hcz40_1, hcz40_2, hcz40_3, hcz40_4, hcz40_5⟩ := zc6 wr (.bool t106) (.bool t107) (.int .i64 t108) (.int .i64 t109) (.int .i64 t110) (.string t111) BK113.out; obtain ⟨hfz40_0, hfz40_1, hfz40_2, hfz40_3, hfz40_4, hfz40_5⟩ := zf6 BK113.out) | (go_at_call 129; (with_reducible refine (zhw t106 t107 t108 t109 t110 t111 true _ A31.out).mono ?_); rintro e w41 ⟨rfl, hb⟩; replace BK101 := zbb BK101 hb; replace BK113 := zbb BK113 hb; replace HB := zA (zaa (zq9 GE101 GE113) hb); (try clear hb); obtain ⟨hcz42_0, hcz42_1, hcz42_2, hcz42_3, hcz42_4, hcz42_5⟩ := zc6 w41 (.bool t106) (.bool t107) (.int .i64 t108) (.int .i64 t109) (.int .i64 t110) (.string t111) BK113.out; obtain ⟨hfz42_0, hfz42_1, hfz42_2, hfz42_3, hfz42_4, hfz42_5⟩ := zf6 BK113.out) | (go_at_call 90; (with_reducible refine (zbo (rd l0_1 x49_3) t108 t109 false _ A33.out).mono ?_); rintro e w' ⟨rfl, ⟨nd, rfl⟩⟩))
   go_ret
   exact ⟨zq4, zq9 GE101 GE113⟩
 subst c34
 replace H := zih H
 have H' := zA H
 clear H
 obtain ⟨p114, q114⟩ := zpq x49_3 l0_1.length
 obtain ⟨ad114, e114, hx114_0⟩ := Kd.at_int HR0_1.out x49_3 (zoe p114) (zoe q114)
 cases e114
 replace hx114_0 := zkep HB.out hx114_0
 go_wp2_with (first | ((with_reducible refine zgc 128 ?_); refine zcl 54 Tryz.func128 (zho (rd l0_1 x49_3) true _ A29.out) ?_; rintro e w' ⟨rfl, ⟨nd, rfl⟩⟩; refine ⟨_, rfl, ?_⟩; have hnb35 := NB113_101.out; have hnc35 := NB101_113.out; obtain ⟨hcz36_0, hcz36_1, hcz36_2, hcz36_3, hcz36_4, hcz36_5⟩ := zc6 wr (.bool t106) (.bool t107) (.int .i64 t108) (.int .i64 t109) (.int .i64 t110) (.string t111) BK113.out; obtain ⟨hfz36_0, hfz36_1, hfz36_2, hfz36_3, hfz36_4, hfz36_5⟩ := zf6 BK113.out) | (go_at_call 129; (with_reducible refine (zhw t106 t107 t108 t109 t110 t111 true _ A31.out).mono ?_); rintro e w37 ⟨rfl, hb⟩; replace BK101 := zbb BK101 hb; replace BK113 := zbb BK113 hb; replace HB := zA (zaa (zq9 GE101 GE113) hb); (try clear hb); obtain ⟨hcz38_0, hcz38_1, hcz38_2, hcz38_3, hcz38_4, hcz38_5⟩ := zc6 w37 (.bool t106) (.bool t107) (.int .i64 t108) (.int .i64 t109) (.int .i64 t110) (.string t111) BK113.out; obtain ⟨hfz38_0, hfz38_1, hfz38_2, hfz38_3, hfz38_4, hfz38_5⟩ := zf6 BK113.out) | (go_at_call 90; (with_reducible refine (zbo (rd l0_1 x49_3) t108 t109 true _ A33.out).mono ?_); rintro e w' ⟨rfl, ⟨nd, rfl⟩⟩))
 go_roundg k3
 case measure => have := HJ1.out; have := HK2.out; have := HK3.out; omega
 case rel => exact ⟨(wrap64 (x49_3 + 1)), zq5, H', ⟨by have := HJ1.out; have := HK2.out; have := HK3.out; omega⟩, ⟨zq6 BK101⟩, ⟨zq6 BK113⟩, ⟨zq9 GE101 GE113⟩⟩
end Go.Proofs.YtnaafcleafbejaaGreat.Q
end
section
namespace Go.Proofs.YtnaafcleafbejaaGreat.Q
open Go.RowKit Go.Proofs.YtnaafcleafbejaaGreatW.PrintWords Go.Proofs.YtnaafcleafbejaaGreatW.PrintLast Go.Proofs.YtnaafcleafbejaaGreatW.PrintMore
set_option maxHeartbeats 8000000
set_option maxRecDepth 100000
attribute [local go_sem] zbc zbg zb8 zb9 za1 za2 zbi zbj
set_option linter.unusedVariables false
set_option linter.unusedSimpArgs false
mutual
def zcq : Nat → ByteArray → Bool → Option (Int)
 | 0, _, _ => none
 | k + 1, x0, x3 => if x3 = true then (some 0) else (if x0.toList = ([110, 111, 116] : List UInt8) then (zcr k x0 true) else (zcr k x0 (x0.toList == ([110, 101, 103] : List UInt8))))
def zcr : Nat → ByteArray → Bool → Option (Int)
 | 0, _, _ => none
 | k + 1, x0, x10 => if x10 = true then (some 1) else ((zlx).bind fun t101 => ((zan k t101 x0).bind fun t104 => (if t104 = true then (some 2) else (some (-1)))))
end
def ze3 (k : Nat) (a0 : ByteArray) : Option (Int) := if a0.toList = ([105, 110] : List UInt8) then (zcq k a0 true) else (zcq k a0 (a0.toList == ([99, 111, 110, 115, 116] : List UInt8)))
theorem zlm : ∀ k, (∀ y0 y1, LeO (zcq k y0 y1) (zcq (k + 1) y0 y1)) ∧ (∀ y0 y1, LeO (zcr k y0 y1) (zcr (k + 1) y0 y1))
 | 0 => ⟨fun _ _ r h => by simp [zcq] at h, fun _ _ r h => by simp [zcr] at h⟩
 | k + 1 => by
   obtain ⟨ih0, ih1⟩ := zlm k
   refine ⟨?_, ?_⟩
   · intro y0 y1
     unfold zcq
     exact zm3 ih0 ih1 zcc
   · intro y0 y1
     unfold zcr
     exact zm3 ih0 ih1 zcc
theorem zjr : ∀ a0 k, LeO (ze3 k a0) (ze3 (k + 1) a0) := by
 intro a0 k
 obtain ⟨ih0, ih1⟩ := zlm k
 unfold ze3
 exact zm3 ih0 ih1 zcc
theorem zje (k : Nat) (a0 : ByteArray) (r : Int) (w : World) (h : ze3 k a0 = some r) :
   Calls Tryz.prog 158 #[.string a0] w fun e w' => e = .returned (.int .i64 r) ∧ Below w.heap.size w w' := by
 have HB := zA (Below.refl w.heap.size w)
 have H := h
 unfold ze3 at H
 clear h
 have HC2 := zA H
 clear H
 go_enter Tryz.func158, Tryz.ntmps158
 go_upto_region 1 with (fail)
 go_cut [3] (fun v3 wc => ∃ (kq : Nat) (x3_1 : Bool), v3 = .bool x3_1 ∧ Aside0 (zcq kq a0 x3_1 = some r) ∧ Aside0 (kq ≤ k) ∧ Aside0 (Below w.heap.size w wc))
 case first =>
   have H := HC2.out
   clear HC2
   by_cases c3 : a0.toList = ([105, 110] : List UInt8)
   · rw [if_pos c3] at H
     obtain ⟨c3b0, c3b1⟩ := zbe c3
     clear c3
     (first | rw [c3b0] | (simp only [zic, zj6]; rw [c3b0]) | skip)
     have H' := zA H
     clear H
     go_wp2
     go_meet
     case rel => exact ⟨_, (true), zq5, H', ⟨zq41⟩, ⟨zq2⟩⟩
   rw [if_neg c3] at H
   obtain ⟨c3b0, c3b1⟩ := zbq c3
   (first | rw [c3b0] | (simp only [zic, zj6]; rw [c3b0]) | skip)
   have H' := zA H
   clear H
   go_wp2
   go_meet
   case rel => exact ⟨_, ((a0.toList == ([99, 111, 110, 115, 116] : List UInt8))), zq5, H', ⟨zq41⟩, ⟨zq2⟩⟩
 clear HC2
 try clear c3
 try clear c3b0
 try clear c3b1
 obtain ⟨kq, x3_1, rfl, HA, HJ1, HB⟩ := hcut
 cases kq with
 | zero => exact absurd HA.out (by simp [zcq])
 | succ kj1 =>
 have H := HA.out
 clear HA
 simp only [zcq] at H
 by_cases c4 : x3_1 = true
 · subst c4
   replace H := zih H
   obtain rfl := zsi H
   go_wp2
   exact zr_4
 replace c4 := zbf c4
 subst c4
 replace H := zif H
 have HC5 := zA H
 clear H
 go_upto_region 3 with (fail)
 go_cut [10] (fun v10 wc => ∃ (kq : Nat) (x10_4 : Bool), v10 = .bool x10_4 ∧ Aside0 (zcr kq a0 x10_4 = some r) ∧ Aside0 (kq ≤ kj1) ∧ Aside0 (Below w.heap.size w wc))
 case first =>
   have H := HC5.out
   clear HC5
   by_cases c6 : a0.toList = ([110, 111, 116] : List UInt8)
   · rw [if_pos c6] at H
     obtain ⟨c6b0, c6b1⟩ := zbe c6
     clear c6
     (first | rw [c6b0] | (simp only [zic, zj6]; rw [c6b0]) | skip)
     have H' := zA H
     clear H
     go_wp2
     go_meet
     case rel => exact ⟨_, (true), zq5, H', ⟨zq36 HJ1⟩, ⟨zq2⟩⟩
   rw [if_neg c6] at H
   obtain ⟨c6b0, c6b1⟩ := zbq c6
   (first | rw [c6b0] | (simp only [zic, zj6]; rw [c6b0]) | skip)
   have H' := zA H
   clear H
   go_wp2
   go_meet
   case rel => exact ⟨_, ((a0.toList == ([110, 101, 103] : List UInt8))), zq5, H', ⟨zq36 HJ1⟩, ⟨zq2⟩⟩
 clear HC5
 try clear c3
 try clear c3b0
 try clear c3b1
 try clear c4
 try clear c6
 try clear c6b0
 try clear c6b1
 obtain ⟨kq, x10_4, rfl, HA, HJ4, HB⟩ := hcut
 cases kq with
 | zero => exact absurd HA.out (by simp [zcr])
 | succ kj4 =>
 have H := HA.out
 clear HA
 simp only [zcr] at H
 by_cases c7 : x10_4 = true
 · subst c7
   replace H := zih H
   obtain rfl := zsi H
   go_wp2
   exact zr_4
 replace c7 := zbf c7
 subst c7
 replace H := zif H
 replace H := zob H
 obtain ⟨t101, A80, H⟩ := H
 have A8 := zA A80
 clear A80
 replace H := zob H
 obtain ⟨t104, A90, H⟩ := H
 have A9 := zA A90
 clear A90
 by_cases c10 : t104 = true
 · subst c10
   replace H := zih H
   obtain rfl := zsi H
   go_wp2_with (first | ((with_reducible refine zgc 162 ?_); refine zcl 18 Tryz.func162 (za3  t101 _ A8.out) ?_; rintro e w11 ⟨v102, rfl, ho0, hb⟩; refine ⟨_, rfl, ?_⟩; have HO103 := zA (Kd.R_lower ho0 (zaf zq2)); replace HB := zA (zaa zq2 hb); (try clear hb); (try clear ho0); obtain ⟨Ao12, co12, eo12⟩ := Kd.R_slice HO103.out; subst eo12) | ((with_reducible refine zgc 161 ?_); refine zca 20 Tryz.func161 #[.slice Ao12 t101.length co12, .string a0] (zah kj4 _ _ t101 a0 true _ (zq28 HO103) (by exact (zRr HO103.out).2.1) A9.out) ?_; rintro e w' ⟨rfl, ⟨nd, rfl⟩⟩; refine ⟨_, rfl, ?_⟩))
   exact zr_4
 replace c10 := zbf c10
 subst c10
 replace H := zif H
 obtain rfl := zsi H
 go_wp2_with (first | ((with_reducible refine zgc 162 ?_); refine zcl 18 Tryz.func162 (za3  t101 _ A8.out) ?_; rintro e w13 ⟨v102, rfl, ho0, hb⟩; refine ⟨_, rfl, ?_⟩; have HO103 := zA (Kd.R_lower ho0 (zaf zq2)); replace HB := zA (zaa zq2 hb); (try clear hb); (try clear ho0); obtain ⟨Ao14, co14, eo14⟩ := Kd.R_slice HO103.out; subst eo14) | ((with_reducible refine zgc 161 ?_); refine zca 20 Tryz.func161 #[.slice Ao14 t101.length co14, .string a0] (zah kj4 _ _ t101 a0 false _ (zq28 HO103) (by exact (zRr HO103.out).2.1) A9.out) ?_; rintro e w' ⟨rfl, ⟨nd, rfl⟩⟩; refine ⟨_, rfl, ?_⟩))
 exact zr_4
end Go.Proofs.YtnaafcleafbejaaGreat.Q
end
section
namespace Go.Proofs.YtnaafcleafbejaaGreat.Q
open Go.RowKit Go.Proofs.YtnaafcleafbejaaGreatW.PrintWords Go.Proofs.YtnaafcleafbejaaGreatW.PrintLast Go.Proofs.YtnaafcleafbejaaGreatW.PrintMore
set_option maxHeartbeats 8000000
set_option maxRecDepth 100000
attribute [local go_sem] zbc zbg zb8 zb9 za1 za2 zbi zbj
set_option linter.unusedVariables false
set_option linter.unusedSimpArgs false
def zap : Nat → Int → Int → List Int → Int → Int → ByteArray → Int → Int → Int → Option (Bool)
 | 0, _, _, _, _, _, _, _, _, _ => none
 | k + 1, x1, x5, x15, x16, x17, x102000, x102001, x102002, x102003 => if x17 < x16 then (if 0 ≤ x17 then (if x17 < (x15.length : Int) then (if x17 < x5 then ((zd3 (rd x15 x17) 0 (wrap64 (x1 - 1))).bind fun t107 => (if t107 = true then (if x17 ≥ x5 then (if (rd x15 x17) = 0 then (zap k x1 x5 x15 x16 (wrap64 (x17 + 1)) x102000 x102001 x102002 x102003) else (some false)) else (zap k x1 x5 x15 x16 (wrap64 (x17 + 1)) x102000 x102001 x102002 x102003)) else (some false))) else (if x17 ≥ x5 then (if (rd x15 x17) = 0 then (zap k x1 x5 x15 x16 (wrap64 (x17 + 1)) x102000 x102001 x102002 x102003) else (some false)) else (zap k x1 x5 x15 x16 (wrap64 (x17 + 1)) x102000 x102001 x102002 x102003))) else (none)) else (none)) else (if x102000.toList = ([105, 110] : List UInt8) then ((zd3 x102003 0 1).bind fun t108 => (some t108)) else (if x102000.toList = ([99, 111, 110, 115, 116] : List UInt8) then ((zhz x102003).bind fun t109 => (some t109)) else (if x5 > 0 then (some (x102003 == 0)) else (some false))))
def zeb (k : Nat) (a0_0 : ByteArray) (a0_1 : Int) (a0_2 : Int) (a0_3 : Int) (a1 : Int) : Option (Bool) := (ze3 k a0_0).bind fun t102 => ((some (([a0_1, a0_2] : List Int) : List Int)).bind fun y103 => (zap k a1 t102 y103 (y103.length : Int) 0 a0_0 a0_1 a0_2 a0_3))
theorem zjs : ∀ k, (∀ y0 y1 y2 y3 y4 y5 y6 y7 y8, LeO (zap k y0 y1 y2 y3 y4 y5 y6 y7 y8) (zap (k + 1) y0 y1 y2 y3 y4 y5 y6 y7 y8))
 | 0 => fun _ _ _ _ _ _ _ _ _ r h => by simp [zap] at h
 | k + 1 => by
   have ih0 := zjs k
   · intro y0 y1 y2 y3 y4 y5 y6 y7 y8
     unfold zap
     exact zm2 ih0 zjr
theorem zkz : ∀ a0 a1 a2 a3 a4 k, LeO (zeb k a0 a1 a2 a3 a4) (zeb (k + 1) a0 a1 a2 a3 a4) := by
 intro a0 a1 a2 a3 a4 k
 have ih0 := zjs k
 unfold zeb
 exact zm2 ih0 zjr
theorem zj9 (k : Nat) (a0_0 : ByteArray) (a0_1 : Int) (a0_2 : Int) (a0_3 : Int) (a1 : Int) (r : Bool) (w : World) (h : zeb k a0_0 a0_1 a0_2 a0_3 a1 = some r) :
   Calls Tryz.prog 122 #[.agg #[.string a0_0, .int .i64 a0_1, .int .i64 a0_2, .int .i64 a0_3], .int .i64 a1] w fun e w' => e = .returned (.bool r) ∧ Below w.heap.size w w' := by
 have hu62 := Tryz.underlying62
 have HB := zA (Below.refl w.heap.size w)
 have H := h
 unfold zeb at H
 clear h
 replace H := zob H
 obtain ⟨t102, A30, H⟩ := H
 have A3 := zA A30
 clear A30
 obtain ⟨y103, hy103⟩ : ∃ y_ : List Int, y_ = (([a0_1, a0_2] : List Int)) := ⟨_, rfl⟩
 rw [← hy103] at H; try with_reducible replace H := zbs H
 have Ny103 := zA hy103
 clear hy103
 have H' := zA H
 clear H
 go_enter Tryz.func122, Tryz.ntmps122
 go_wp2_with (first | ((with_reducible refine zgd 2 ?_); refine zbh zq2 #[.string a0_0, .int .i64 a0_1, .int .i64 a0_2, .int .i64 a0_3] 62 ?_; clear HB; intro gb101 w4 HB BK101 GW101; have GE101 := GW101; obtain ⟨hcz5_0, hcz5_1, hcz5_2, hcz5_3, hfz5_0, hfz5_1, hfz5_2, hfz5_3⟩ := zd4 BK101) | ((with_reducible refine zgc 158 ?_); refine zcl 10 Tryz.func158 (zje k a0_0 t102 _ A3.out) ?_; rintro e w6 ⟨rfl, hb⟩; refine ⟨_, rfl, ?_⟩; replace BK101 := zbb BK101 hb; replace HB := zA (zaa (zq1 GE101) hb); (try clear hb); obtain ⟨hcz7_0, hcz7_1, hcz7_2, hcz7_3⟩ := zc4 w6 (.string a0_0) (.int .i64 a0_1) (.int .i64 a0_2) (.int .i64 a0_3) BK101.out; obtain ⟨hfz7_0, hfz7_1, hfz7_2, hfz7_3⟩ := zf4 BK101.out) | ((with_reducible refine zgd 15 ?_); refine Kd.R_lit (Kd.int .i64) _ 3 ?hg (N := 15) ?hd (xs := ([a0_1, a0_2] : List Int)) (inner := [.int .i64 a0_1, .int .i64 a0_2]) (ok := fun _ => True) (okp := fun _ => True) ?hr ?hp (fun _ hk => hk) trivial (Below.refl _ _) (zlr _) (by simp) ?_; (case hd => rfl); (case hg => rfl); (case hr => go_simp <;> rfl); (case hp => exact (zaz (show Kd.M (Kd.int .i64) _ _ _ a0_1 [.int .i64 a0_1] from rfl) (zaz (show Kd.M (Kd.int .i64) _ _ _ a0_2 [.int .i64 a0_2] from rfl) (Reps.none _ _)))); intro v104 w8 ho9 hb hg_ hnew_; clear hg_ hnew_; (first | rw [← Ny103.out] at ho9 | (simp only [Int.reduceToNat] at ho9; rw [← Ny103.out] at ho9)); have HO105 := zA (Kd.R_lower ho9 (zaf (zq1 GE101))); replace BK101 := zbb BK101 hb; replace HB := zA (zaa (zq1 GE101) hb); clear hb ho9; obtain ⟨Ao10, co10, eo10⟩ := Kd.R_slice HO105.out; subst eo10))
 go_loopg [17] k (fun kq v17 w' => ∃ (x17_1 : Int), v17 = .int .i64 x17_1 ∧ Aside0 (zap kq a1 t102 y103 (y103.length : Int) x17_1 a0_0 a0_1 a0_2 a0_3 = some r) ∧ Aside0 (kq ≤ k) ∧ Aside0 (Kd.R (Kd.int .i64) 3 w' w.heap.size (fun _ => True) (.slice Ao10 y103.length co10) y103) ∧ Aside0 (w'.heap[gb101]? = some (.cells #[.string a0_0, .int .i64 a0_1, .int .i64 a0_2, .int .i64 a0_3] 62 (0, 0))) ∧ Aside0 (Below w.heap.size w w'))
 case atStart => exact ⟨(0), zq5, H', ⟨zlr _⟩, ⟨zq3 HO105⟩, ⟨zq6 BK101⟩, ⟨zq1 GE101⟩⟩
 clear H'
 try clear hcz5_0
 try clear hcz5_1
 try clear hcz5_2
 try clear hcz5_3
 try clear hcz7_0
 try clear hcz7_1
 try clear hcz7_2
 try clear hcz7_3
 try clear hfz5_0
 try clear hfz5_1
 try clear hfz5_2
 try clear hfz5_3
 try clear hfz7_0
 try clear hfz7_1
 try clear hfz7_2
 try clear hfz7_3
 obtain ⟨x17_1, rfl, HA, HK1, HO_15, BK101, HB⟩ := hrel
 cases gk with
 | zero => exact absurd HA.out (by simp [zap])
 | succ k1 =>
 have H := HA.out
 clear HA
 simp only [zap] at H
 revert H
 refine zit (fun c11 H => ?_) fun c11 H => ?_
 rotate_left
 · by_cases c21 : a0_0.toList = ([105, 110] : List UInt8)
   · rw [if_pos c21] at H
     obtain ⟨c21b0, c21b1⟩ := zbe c21
     clear c21
     replace H := zob H
     obtain ⟨t108, A220, H⟩ := H
     have A22 := zA A220
     clear A220
     obtain rfl := zsi H
     obtain ⟨hcz23_0, hcz23_1, hcz23_2, hcz23_3⟩ := zc4 wr (.string a0_0) (.int .i64 a0_1) (.int .i64 a0_2) (.int .i64 a0_3) BK101.out
     obtain ⟨hfz23_0, hfz23_1, hfz23_2, hfz23_3⟩ := zf4 BK101.out
     go_wp2_with (first | ((with_reducible refine zgc 90 ?_); refine zcl 48 Tryz.func90 (zbo a0_3 0 1 t108 _ A22.out) ?_; rintro e w' ⟨rfl, ⟨nd, rfl⟩⟩; refine ⟨_, rfl, ?_⟩))
     go_ret
     exact ⟨zq4, zq1 GE101⟩
   rw [if_neg c21] at H
   obtain ⟨c21b0, c21b1⟩ := zbq c21
   by_cases c24 : a0_0.toList = ([99, 111, 110, 115, 116] : List UInt8)
   · rw [if_pos c24] at H
     obtain ⟨c24b0, c24b1⟩ := zbe c24
     clear c24
     replace H := zob H
     obtain ⟨t109, A250, H⟩ := H
     have A25 := zA A250
     clear A250
     obtain rfl := zsi H
     obtain ⟨hcz26_0, hcz26_1, hcz26_2, hcz26_3⟩ := zc4 wr (.string a0_0) (.int .i64 a0_1) (.int .i64 a0_2) (.int .i64 a0_3) BK101.out
     obtain ⟨hfz26_0, hfz26_1, hfz26_2, hfz26_3⟩ := zf4 BK101.out
     go_wp2_with (first | ((with_reducible refine zgc 128 ?_); refine zcl 53 Tryz.func128 (zho a0_3 t109 _ A25.out) ?_; rintro e w' ⟨rfl, ⟨nd, rfl⟩⟩; refine ⟨_, rfl, ?_⟩))
     go_ret
     exact ⟨zq4, zq1 GE101⟩
   rw [if_neg c24] at H
   obtain ⟨c24b0, c24b1⟩ := zbq c24
   revert H
   refine zit (fun c27b0 H => ?_) fun c27b0 H => ?_
   · obtain rfl := zsi H
     obtain ⟨hcz28_0, hcz28_1, hcz28_2, hcz28_3⟩ := zc4 wr (.string a0_0) (.int .i64 a0_1) (.int .i64 a0_2) (.int .i64 a0_3) BK101.out
     obtain ⟨hfz28_0, hfz28_1, hfz28_2, hfz28_3⟩ := zf4 BK101.out
     go_wp2
     go_ret
     exact ⟨zq4, zq1 GE101⟩
   obtain rfl := zsi H
   obtain ⟨hcz29_0, hcz29_1, hcz29_2, hcz29_3⟩ := zc4 wr (.string a0_0) (.int .i64 a0_1) (.int .i64 a0_2) (.int .i64 a0_3) BK101.out
   obtain ⟨hfz29_0, hfz29_1, hfz29_2, hfz29_3⟩ := zf4 BK101.out
   go_wp2
   go_ret
   exact ⟨zq4, zq1 GE101⟩
 revert H
 refine zin fun c12 H => ?_
 revert H
 refine zin fun c13 H => ?_
 revert H
 refine zit (fun c14 H => ?_) fun c14 H => ?_
 rotate_left
 · by_cases c19 : x17_1 ≥ t102
   rotate_left
   · rw [if_neg c19] at H
     have c19b0 := zdf c19
     clear c19
     have H' := zA H
     clear H
     obtain ⟨p106, q106⟩ := zpq x17_1 y103.length
     obtain ⟨ad106, e106, hx106_0⟩ := Kd.at_int (zRr HO_15.out).2.2 x17_1 (zoe p106) (zoe q106)
     cases e106
     go_wp2
     go_roundg k1
     case measure => have := HK1.out; omega
     case rel => exact ⟨(wrap64 (x17_1 + 1)), zq5, H', ⟨zq31 HK1⟩, ⟨zq3 HO_15⟩, ⟨zq6 BK101⟩, ⟨zq1 GE101⟩⟩
   rw [if_pos c19] at H
   have c19b0 := zdt c19
   clear c19
   by_cases c20 : (rd y103 x17_1) = 0
   rotate_left
   · rw [if_neg c20] at H
     obtain ⟨c20b0, c20b1⟩ := zbq c20
     obtain rfl := zsi H
     obtain ⟨p106, q106⟩ := zpq x17_1 y103.length
     obtain ⟨ad106, e106, hx106_0⟩ := Kd.at_int (zRr HO_15.out).2.2 x17_1 (zoe p106) (zoe q106)
     cases e106
     go_wp2
     go_ret
     exact ⟨zq4, zq1 GE101⟩
   rw [if_pos c20] at H
   obtain ⟨c20b0, c20b1⟩ := zbe c20
   clear c20
   have H' := zA H
   clear H
   obtain ⟨p106, q106⟩ := zpq x17_1 y103.length
   obtain ⟨ad106, e106, hx106_0⟩ := Kd.at_int (zRr HO_15.out).2.2 x17_1 (zoe p106) (zoe q106)
   cases e106
   go_wp2
   go_roundg k1
   case measure => have := HK1.out; omega
   case rel => exact ⟨(wrap64 (x17_1 + 1)), zq5, H', ⟨zq31 HK1⟩, ⟨zq3 HO_15⟩, ⟨zq6 BK101⟩, ⟨zq1 GE101⟩⟩
 replace H := zob H
 obtain ⟨t107, A150, H⟩ := H
 have A15 := zA A150
 clear A150
 by_cases c16 : t107 = true
 rotate_left
 · replace c16 := zbf c16
   subst c16
   replace H := zif H
   obtain rfl := zsi H
   obtain ⟨p106, q106⟩ := zpq x17_1 y103.length
   obtain ⟨ad106, e106, hx106_0⟩ := Kd.at_int (zRr HO_15.out).2.2 x17_1 (zoe p106) (zoe q106)
   cases e106
   go_wp2_with (first | (go_at_call 90; (with_reducible refine (zbo (rd y103 x17_1) 0 (wrap64 (a1 - 1)) false _ A15.out).mono ?_); rintro e w' ⟨rfl, ⟨nd, rfl⟩⟩))
   go_ret
   exact ⟨zq4, zq1 GE101⟩
 subst c16
 replace H := zih H
 by_cases c17 : x17_1 ≥ t102
 rotate_left
 · rw [if_neg c17] at H
   have c17b0 := zdf c17
   clear c17
   have H' := zA H
   clear H
   obtain ⟨p106, q106⟩ := zpq x17_1 y103.length
   obtain ⟨ad106, e106, hx106_0⟩ := Kd.at_int (zRr HO_15.out).2.2 x17_1 (zoe p106) (zoe q106)
   cases e106
   go_wp2_with (first | (go_at_call 90; (with_reducible refine (zbo (rd y103 x17_1) 0 (wrap64 (a1 - 1)) true _ A15.out).mono ?_); rintro e w' ⟨rfl, ⟨nd, rfl⟩⟩))
   go_roundg k1
   case measure => have := HK1.out; omega
   case rel => exact ⟨(wrap64 (x17_1 + 1)), zq5, H', ⟨zq31 HK1⟩, ⟨zq3 HO_15⟩, ⟨zq6 BK101⟩, ⟨zq1 GE101⟩⟩
 rw [if_pos c17] at H
 have c17b0 := zdt c17
 clear c17
 by_cases c18 : (rd y103 x17_1) = 0
 rotate_left
 · rw [if_neg c18] at H
   obtain ⟨c18b0, c18b1⟩ := zbq c18
   obtain rfl := zsi H
   obtain ⟨p106, q106⟩ := zpq x17_1 y103.length
   obtain ⟨ad106, e106, hx106_0⟩ := Kd.at_int (zRr HO_15.out).2.2 x17_1 (zoe p106) (zoe q106)
   cases e106
   go_wp2_with (first | (go_at_call 90; (with_reducible refine (zbo (rd y103 x17_1) 0 (wrap64 (a1 - 1)) true _ A15.out).mono ?_); rintro e w' ⟨rfl, ⟨nd, rfl⟩⟩))
   go_ret
   exact ⟨zq4, zq1 GE101⟩
 rw [if_pos c18] at H
 obtain ⟨c18b0, c18b1⟩ := zbe c18
 clear c18
 have H' := zA H
 clear H
 obtain ⟨p106, q106⟩ := zpq x17_1 y103.length
 obtain ⟨ad106, e106, hx106_0⟩ := Kd.at_int (zRr HO_15.out).2.2 x17_1 (zoe p106) (zoe q106)
 cases e106
 go_wp2_with (first | (go_at_call 90; (with_reducible refine (zbo (rd y103 x17_1) 0 (wrap64 (a1 - 1)) true _ A15.out).mono ?_); rintro e w' ⟨rfl, ⟨nd, rfl⟩⟩))
 go_roundg k1
 case measure => have := HK1.out; omega
 case rel => exact ⟨(wrap64 (x17_1 + 1)), zq5, H', ⟨zq31 HK1⟩, ⟨zq3 HO_15⟩, ⟨zq6 BK101⟩, ⟨zq1 GE101⟩⟩
def zga (k : Nat) (a0_0 : ByteArray) (a0_1 : Int) (a0_2 : Int) (a0_3 : Int) : Option (List Int) := (some (([a0_1, a0_2] : List Int) : List Int)).bind fun y102 => ((ze3 k a0_0).bind fun t105 => (if 0 ≤ (mx t105 0) then (if (mx t105 0) ≤ (y102.length : Int) then (some (y102.take ((mx t105 0) : Int).toNat)) else (none)) else (none)))
theorem zko : ∀ a0 a1 a2 a3 k, LeO (zga k a0 a1 a2 a3) (zga (k + 1) a0 a1 a2 a3) := by
 intro a0 a1 a2 a3 k
 unfold zga
 exact zm1 zjr
def impl_Node_of.T1 : Bool × List (List Nat × List Nat) := (true, [([], []), ([0], [0]), ([], []), ([2], [2]), ([1, 3], [1, 3]), ([], []), ([5], [5]), ([6], [6]), ([7], [7]), ([4, 8], [4, 8]), ([9, 7, 0, 1, 2, 3, 4, 5, 6, 7, 8, 9], [9])])
def zth : List Nat := [0, 1, 0, 4, 15, 0, 32, 96, 224, 511, 1023]
theorem zrq : rtab .any (zs3 Tryz.f160 1) = impl_Node_of.T1 := by kernel_rfl
theorem zqi : zis impl_Node_of.T1.2 zth = true := by kernel_rfl
theorem zqj (k : Nat) (a0_0 : ByteArray) (a0_1 : Int) (a0_2 : Int) (a0_3 : Int) (r : List Int) (w : World) (h : zga k a0_0 a0_1 a0_2 a0_3 = some r) :
   Calls Tryz.prog 160 #[.agg #[.string a0_0, .int .i64 a0_1, .int .i64 a0_2, .int .i64 a0_3]] w fun e w' => ∃ v0_ : Value, e = .returned (v0_) ∧ Kd.R (Kd.int .i64) 3 w' w.heap.size (fun _ => True) v0_ r ∧ Below w.heap.size w w' := by
 have hu62 := Tryz.underlying62
 have HB := zA (Below.refl w.heap.size w)
 have H := h
 unfold zga at H
 clear h
 obtain ⟨y102, hy102⟩ : ∃ y_ : List Int, y_ = (([a0_1, a0_2] : List Int)) := ⟨_, rfl⟩
 rw [← hy102] at H; try with_reducible replace H := zbs H
 have Ny102 := zA hy102
 clear hy102
 replace H := zob H
 obtain ⟨t105, A20, H⟩ := H
 have A2 := zA A20
 clear A20
 obtain ⟨ji3, hji3⟩ : ∃ j_ : Int, (mx t105 0) = j_ := ⟨_, rfl⟩
 replace H : (if 0 ≤ (ji3) then (if (ji3) ≤ (y102.length : Int) then (some (y102.take ((ji3) : Int).toNat)) else (none)) else (none)) = some r := by first | (rw [hji3] at H; exact H) | (simp only [hji3] at H ⊢; exact H)
 (try rw [hji3] at A2)
 (try (have hji3l : 0 ≤ ji3 := by (rw [← hji3]; unfold mx; (repeat' split) <;> omega)))
 (try (have hji3m : 0 ≤ ji3 := by omega))
 have hji3_ : (if t105 < 0 then 0 else t105) = ji3 := hji3
 by_cases c4 : 0 ≤ (ji3)
 rotate_left
 · rw [if_neg c4] at H
   exact absurd H (by simp)
 rw [if_pos c4] at H
 have c4b0 := eq_true c4
 have c4b1 := zdt c4
 clear c4
 by_cases c5 : (ji3) ≤ (y102.length : Int)
 rotate_left
 · rw [if_neg c5] at H
   exact absurd H (by simp)
 rw [if_pos c5] at H
 have c5b0 := eq_true c5
 have c5b1 := zdt c5
 clear c5
 obtain ⟨y106, hy106⟩ : ∃ y_ : List Int, y_ = (y102.take ((ji3) : Int).toNat) := ⟨_, rfl⟩
 rw [← hy106] at H; try with_reducible replace H := zbs H
 have Ny106 := zA hy106
 clear hy106
 obtain rfl := zsi H
 go_enter Tryz.func160, Tryz.ntmps160
 try go_wp2_with (first | ((with_reducible refine zgd 1 ?_); refine zbx #[.string a0_0, .int .i64 a0_1, .int .i64 a0_2, .int .i64 a0_3] 62 ?_; intro gb101 hg w6 hbox hb; have zs := zpair zq2 hb; replace HB := zA (zs.1); have BK101 := zA (hbox); have GW101 := zA (zge hg zs.2); have GE101 := GW101; clear zs hb hbox hg))
 replace BK101 := zA (zkd BK101.out)
 replace HB := zA (zbd HB.out)
 refine zne (n := 11) (S := fun w' => w'.cell? ⟨gb101, 0, none⟩ = some (.string a0_0) ∧ w'.cell? ⟨gb101, 1, none⟩ = some (.int .i64 a0_1) ∧ w'.cell? ⟨gb101, 2, none⟩ = some (.int .i64 a0_2) ∧ w'.cell? ⟨gb101, 3, none⟩ = some (.int .i64 a0_3)) (ds := []) #[false, false, false, false, false, false, false, false, false, false, false] zq23 rfl rfl ⟨(zae BK101.out 0).trans rfl, (zae BK101.out 1).trans rfl, (zae BK101.out 2).trans rfl, (zae BK101.out 3).trans rfl⟩ (fun hHeld => ?_); refine zhk zrq zqi (fun HT_ HW_ => ?_)
 generalize w6.drew = w7 at BK101 HB hHeld ⊢
 refine zpu 0 3 HT_ ?_
 refine zpu 2 5 HT_ ?_
 refine zpu 5 8 HT_ ?_
 refine ztu 1 4 HT_ HW_ hHeld ?_
 refine ztu 3 6 HT_ HW_ hHeld ?_
 refine ztu 6 9 HT_ HW_ hHeld ?_
 refine join_ (σ := Value) 2 #[true, true, true, true, true, true, true, true, true, false, false] (fun s_ => [(7, s_), (10, .int .i64 t105), (11, .int .i64 ji3)]) (fun s_ w' => (w'.cell? ⟨gb101, 0, none⟩ = some (.string a0_0) ∧ w'.cell? ⟨gb101, 1, none⟩ = some (.int .i64 a0_1) ∧ w'.cell? ⟨gb101, 2, none⟩ = some (.int .i64 a0_2) ∧ w'.cell? ⟨gb101, 3, none⟩ = some (.int .i64 a0_3)) ∧ (Kd.R (Kd.int .i64) 3 w' w.heap.size (fun _ => True) s_ y102) ∧ (w'.heap[gb101]? = some (.cells #[.string a0_0, .int .i64 a0_1, .int .i64 a0_2, .int .i64 a0_3] 62 (0, 0))) ∧ (Below w.heap.size w w')) ?_ ?_
 rotate_left
 · intro hCont
   refine two_ (i := 4) (j := 7) (Ni := some 7) (Nj := some 10) #[true, true, true, true, true, true, true, false, false, false, false] #[true, true, true, true, false, true, true, true, false, false, false] rfl rfl rfl rfl (yf1 HT_.out zq23) (by decide) (by decide) (fun K hK => ?_) (fun K hK => ?_)
   · skip
     refine Kd.R_lit_step (Kd.int .i64) _ 3 ?hg (N := 7) ?hd (xs := ([a0_1, a0_2] : List Int)) (inner := [.int .i64 a0_1, .int .i64 a0_2]) (ok := fun _ => True) (okp := fun _ => True) ?hr ?hp (fun _ hk => hk) trivial (Below.refl _ _) (zlr _) (by simp) ?_; (case hd => rfl); (case hg => rfl); (case hr => go_simp <;> rfl); (case hp => exact (zaz (show Kd.M (Kd.int .i64) _ _ _ a0_1 [.int .i64 a0_1] from rfl) (zaz (show Kd.M (Kd.int .i64) _ _ _ a0_2 [.int .i64 a0_2] from rfl) (Reps.none _ _))))
     intro v103 w8 ho9 hb hg_ hnew_
     clear hg_ hnew_
     (first | rw [← Ny102.out] at ho9 | (simp only [Int.reduceToNat] at ho9; rw [← Ny102.out] at ho9))
     have HO104 := zA (Kd.R_lower ho9 (zaf (zq1 GE101)))
     replace BK101 := zA (zai (g := gb101) (o := .cells #[.string a0_0, .int .i64 a0_1, .int .i64 a0_2, .int .i64 a0_3] 62 (0, 0)) (zq6 BK101) hb)
     replace HB := zA (zaa (zq1 GE101) hb)
     clear hb ho9
     refine hK.out _ _ ⟨(zae BK101.out 0).trans rfl, (zae BK101.out 1).trans rfl, (zae BK101.out 2).trans rfl, (zae BK101.out 3).trans rfl⟩ (fun hHeld => ?_)
     clear hK K
     refine znm 7 ?_
     refine one_ (i := 7) (N := some 10) #[true, true, true, true, true, true, true, true, false, false, false] rfl rfl (zhj HT_.out zq23) (by decide) (fun K hK => ?_)
     refine zgo Tryz.func158 (zje k a0_0 t105 _ A2.out) ?_
     rintro e w10 ⟨rfl, hb⟩
     refine ⟨_, rfl, ?_⟩
     replace HO104 := zA (zRb (zq3 HO104) hb)
     replace BK101 := zA (zai (g := gb101) (o := .cells #[.string a0_0, .int .i64 a0_1, .int .i64 a0_2, .int .i64 a0_3] 62 (0, 0)) (zq6 BK101) hb)
     replace HB := zA (zaa (zq1 GE101) hb)
     (try clear hb)
     (try clear hb2)
     (try clear hk)
     (try clear hi)
     refine hK.out _ _ ⟨(zae BK101.out 0).trans rfl, (zae BK101.out 1).trans rfl, (zae BK101.out 2).trans rfl, (zae BK101.out 3).trans rfl⟩ (fun hHeld => ?_)
     clear hK K
     refine znm 10 ?_
     refine zpu 8 11 HT_ ?_
     exact yci (by simp only [zux, Act.put, List.setIfInBounds_toArray, List.set_cons_zero, List.set_cons_succ]) (hCont (v103) _ ⟨hHeld, (zq3 HO104), (zq6 BK101), (zq1 GE101)⟩)
   skip
   refine zgo Tryz.func158 (zje k a0_0 t105 _ A2.out) ?_
   rintro e w8 ⟨rfl, hb⟩
   refine ⟨_, rfl, ?_⟩
   replace BK101 := zA (zai (g := gb101) (o := .cells #[.string a0_0, .int .i64 a0_1, .int .i64 a0_2, .int .i64 a0_3] 62 (0, 0)) (zq6 BK101) hb)
   replace HB := zA (zaa (zq1 GE101) hb)
   (try clear hb)
   (try clear hb2)
   (try clear hk)
   (try clear hi)
   refine hK.out _ _ ⟨(zae BK101.out 0).trans rfl, (zae BK101.out 1).trans rfl, (zae BK101.out 2).trans rfl, (zae BK101.out 3).trans rfl⟩ (fun hHeld => ?_)
   clear hK K
   refine znm 10 ?_
   refine yfv (i := 8) (N := some 11) (v := ?_) (a' := ?_) #[true, true, true, true, false, true, true, true, true, false, false] rfl rfl (yc7 HT_.out zq23) (fun _ _ _ h => h) (Or.inl ⟨by rfl, ?_⟩) ?_ ?_
   rotate_left
   · intro w'
     go_simp
     with_reducible rfl
   rotate_left
   · simp only [Act.put, List.setIfInBounds_toArray, List.set_cons_zero, List.set_cons_succ, zic, zj6]
     rfl
   refine one_ (i := 4) (N := some 7) #[true, true, true, true, true, true, true, true, true, false, false] rfl rfl (zhj HT_.out zq23) (by decide) (fun K hK => ?_)
   refine Kd.R_lit_step (Kd.int .i64) _ 3 ?hg (N := 7) ?hd (xs := ([a0_1, a0_2] : List Int)) (inner := [.int .i64 a0_1, .int .i64 a0_2]) (ok := fun _ => True) (okp := fun _ => True) ?hr ?hp (fun _ hk => hk) trivial (Below.refl _ _) (zlr _) (by simp) ?_; (case hd => rfl); (case hg => rfl); (case hr => go_simp <;> rfl); (case hp => exact (zaz (show Kd.M (Kd.int .i64) _ _ _ a0_1 [.int .i64 a0_1] from rfl) (zaz (show Kd.M (Kd.int .i64) _ _ _ a0_2 [.int .i64 a0_2] from rfl) (Reps.none _ _))))
   intro v103 w9 ho10 hb hg_ hnew_
   clear hg_ hnew_
   (first | rw [← Ny102.out] at ho10 | (simp only [Int.reduceToNat] at ho10; rw [← Ny102.out] at ho10))
   have HO104 := zA (Kd.R_lower ho10 (zaf (zq1 GE101)))
   replace BK101 := zA (zai (g := gb101) (o := .cells #[.string a0_0, .int .i64 a0_1, .int .i64 a0_2, .int .i64 a0_3] 62 (0, 0)) (zq6 BK101) hb)
   replace HB := zA (zaa (zq1 GE101) hb)
   clear hb ho10
   refine hK.out _ _ ⟨(zae BK101.out 0).trans rfl, (zae BK101.out 1).trans rfl, (zae BK101.out 2).trans rfl, (zae BK101.out 3).trans rfl⟩ (fun hHeld => ?_)
   clear hK K
   refine znm 7 ?_
   exact yci (by simp only [zux, Act.put, List.setIfInBounds_toArray, List.set_cons_zero, List.set_cons_succ]) (hCont (v103) _ ⟨hHeld, (zq3 HO104), (zq6 BK101), (zq1 GE101)⟩)
 rintro v103 w11 ⟨hS_, h0_, h1_, h2_⟩
 have n0_ : Aside0 (Kd.R (Kd.int .i64) 3 w11 w.heap.size (fun _ => True) v103 y102) := ⟨h0_⟩
 have n1_ : Aside0 (w11.heap[gb101]? = some (.cells #[.string a0_0, .int .i64 a0_1, .int .i64 a0_2, .int .i64 a0_3] 62 (0, 0))) := ⟨h1_⟩
 have n2_ : Aside0 (Below w.heap.size w w11) := ⟨h2_⟩
 clear BK101
 clear HB
 clear h0_ h1_ h2_
 have HO104 := n0_
 have BK101 := n1_
 have HB := n2_
 clear n0_ n1_ n2_
 have hHeld : w11.cell? ⟨gb101, 0, none⟩ = some (.string a0_0) ∧ w11.cell? ⟨gb101, 1, none⟩ = some (.int .i64 a0_1) ∧ w11.cell? ⟨gb101, 2, none⟩ = some (.int .i64 a0_2) ∧ w11.cell? ⟨gb101, 3, none⟩ = some (.int .i64 a0_3) := hS_
 obtain ⟨Ao12, co12, eo12⟩ := Kd.R_slice HO104.out
 (first | subst eo12 | (injection eo12 with f1_ f2_ f3_; have f4_ := f1_.symm; have f5_ := f3_.symm; clear f1_ f2_ f3_; subst f4_; subst f5_))
 have q13 : ((ji3) : Int) ≤ ((y102.length : Int) : Int) := zde zq14
 obtain ⟨i013, hi013, _, hsz13, _⟩ := info_parts zl5
 have hcut13 := ybp (P := Tryz.prog) 24 3 .i64 Tryz.underlying24 hi013 Ao12 y102.length co12 (ji3) (zde zq14) q13 (zRr HO104.out).2.1
 have hr13 := Kd.R_take (m := ((ji3) : Int).toNat) HO104.out (by omega)
 have hy13 : y106.length = ((ji3) : Int).toNat := (by rw [Ny106.out, List.length_take]; omega)
 rw [← Ny106.out] at hr13
 rw [← hy13] at hr13 hcut13
 clear hy13 hi013 hsz13 HO104
 have HO108 := zA hr13
 clear hr13
 replace q13 := eq_true q13
 refine yci (a' := ?_) ?_ ?_
 rotate_left
 · simp only [zux, Act.put, List.setIfInBounds_toArray, List.set_cons_zero, List.set_cons_succ]
   rfl
 refine zpu 9 12 HT_ ?_
 refine zpu 10 2 HT_ ?_
 refine zrb (zj4 HT_.out zq23) ?_
 try go_wp2
 go_ret
 exact ⟨_, by first | rfl | (simp [zij, zik] <;> rfl) | (simp only [← hji3]; first | rfl | (simp [zij, zik] <;> rfl)) | (simp [*, zij, zik] <;> rfl), zq3 HO108, zq1 GE101⟩
end Go.Proofs.YtnaafcleafbejaaGreat.Q
end
section
namespace Go.Proofs.YtnaafcleafbejaaGreat.Q
open Go.RowKit Go.Proofs.YtnaafcleafbejaaGreatW.PrintWords Go.Proofs.YtnaafcleafbejaaGreatW.PrintLast Go.Proofs.YtnaafcleafbejaaGreatW.PrintMore
set_option maxHeartbeats 8000000
set_option maxRecDepth 100000
attribute [local go_sem] zbc zbg zb8 zb9 za1 za2 zbi zbj
set_option linter.unusedVariables false
set_option linter.unusedSimpArgs false
mutual
def zev : Nat → List Int → List (S62) → Int → Int → Option (List Int)
 | 0, _, _, _, _ => none
 | k + 1, x3, x11, x12, x13 => if x13 < x12 then (if 0 ≤ x13 then (if x13 < (x11.length : Int) then ((zga k ((zab x11 x13).f0) ((zab x11 x13).f1) ((zab x11 x13).f2) ((zab x11 x13).f3)).bind fun t106 => (zfp k x3 x11 x12 x13 t106 (t106.length : Int) 0)) else (none)) else (none)) else (some x3)
def zfp : Nat → List Int → List (S62) → Int → Int → List Int → Int → Int → Option (List Int)
 | 0, _, _, _, _, _, _, _ => none
 | k + 1, x3, x11, x12, x13, x18, x19, x20 => if x20 < x19 then (if 0 ≤ x20 then (if x20 < (x18.length : Int) then (if 0 ≤ (rd x18 x20) then (if (rd x18 x20) < (x3.length : Int) then (zfp k (x3.set ((rd x18 x20) : Int).toNat (wrap64 ((rd x3 (rd x18 x20)) + 1))) x11 x12 x13 x18 x19 (wrap64 (x20 + 1))) else (none)) else (none)) else (none)) else (none)) else (zev k x3 x11 x12 (wrap64 (x13 + 1)))
end
def zio (k : Nat) (l0 : List (S62)) : Option (List Int) := if 0 ≤ (l0.length : Int) then (if ((l0.length : Int) : Int).toNat ≤ 35184372088832 then (zev k (List.replicate ((l0.length : Int) : Int).toNat 0) l0 (l0.length : Int) 0) else (none)) else (none)
theorem zoj : ∀ k, (∀ y0 y1 y2 y3, LeO (zev k y0 y1 y2 y3) (zev (k + 1) y0 y1 y2 y3)) ∧ (∀ y0 y1 y2 y3 y4 y5 y6, LeO (zfp k y0 y1 y2 y3 y4 y5 y6) (zfp (k + 1) y0 y1 y2 y3 y4 y5 y6))
 | 0 => ⟨fun _ _ _ _ r h => by simp [zev] at h, fun _ _ _ _ _ _ _ r h => by simp [zfp] at h⟩
 | k + 1 => by
   obtain ⟨ih0, ih1⟩ := zoj k
   refine ⟨?_, ?_⟩
   · intro y0 y1 y2 y3
     unfold zev
     exact zm3 ih0 ih1 zko
   · intro y0 y1 y2 y3 y4 y5 y6
     unfold zfp
     exact zm3 ih0 ih1 zko
theorem zpp : ∀ a0 k, LeO (zio k a0) (zio (k + 1) a0) := by
 intro a0 k
 obtain ⟨ih0, ih1⟩ := zoj k
 unfold zio
 exact zm3 ih0 ih1 zko
theorem zti (k : Nat) (A0 : Option Addr) (c0 : Nat) (l0 : List (S62)) (r : List Int) (w : World) (hr0 : Kd.C k62 w A0 l0.length l0) (hc0 : l0.length ≤ c0) (h : zio k l0 = some r) :
   Calls Tryz.prog 124 #[.slice A0 l0.length c0] w fun e w' => ∃ v0_ : Value, e = .returned (v0_) ∧ Kd.R (Kd.int .i64) 3 w' w.heap.size (fun _ => True) v0_ r ∧ Below w.heap.size w w' := by
 have hu62 := Tryz.underlying62
 have HR0 := zA hr0
 have HC0 := zA hc0
 clear hr0 hc0
 have HB := zA (Below.refl w.heap.size w)
 have H := h
 unfold zio at H
 clear h
 by_cases c2 : 0 ≤ (l0.length : Int)
 rotate_left
 · rw [if_neg c2] at H
   exact absurd H (by simp)
 rw [if_pos c2] at H
 have c2b0 := eq_true c2
 have c2b1 := zdt c2
 clear c2
 by_cases c3 : ((l0.length : Int) : Int).toNat ≤ 35184372088832
 rotate_left
 · rw [if_neg c3] at H
   exact absurd H (by simp)
 rw [if_pos c3] at H
 have c3b0 := eq_true c3
 have c3b1 := zdt c3
 clear c3
 obtain ⟨y101, hy101⟩ : ∃ y_ : List Int, y_ = (List.replicate ((l0.length : Int) : Int).toNat 0) := ⟨_, rfl⟩
 rw [← hy101] at H; try with_reducible replace H := zbs H
 have Ny101 := zA hy101
 clear hy101
 have H' := zA H
 clear H
 go_enter Tryz.func124, Tryz.ntmps124
 go_wp2_with (first | ((with_reducible refine zgd 10 ?_); refine Kd.R_make (Kd.int .i64) _ 3 rfl (N := 10) rfl 24 _ _ rfl (l0.length : Int) rfl rfl Tryz.underlying24 (.int .i64 0) 8 zl5 rfl (by decide) (by omega) 0 (ok := fun _ => True) (okp := fun _ => True) rfl (fun _ hk => hk) trivial (zde zq14) (Nat.le_trans (Nat.mul_le_mul_right _ (zde zq14 : (l0.length : Int).toNat ≤ 35184372088832)) (by omega)) (Below.refl _ _) (zlr _) ?_; intro v102 w4 ho5 hb hg_ hnew_; clear hg_ hnew_; (first | rw [← Ny101.out] at ho5 | (simp only [Int.reduceToNat] at ho5; rw [← Ny101.out] at ho5)); have HO103 := zA (Kd.R_lower ho5 (zaf zq2)); replace HB := zA (zaa zq2 hb); clear hb ho5))
 go_loopg [13] k (fun kq v13 w' => ∃ (x3_1 : List Int) (x13_1 : Int), v13 = .int .i64 x13_1 ∧ Aside0 (zev kq x3_1 l0 (l0.length : Int) x13_1 = some r) ∧ Aside0 (kq ≤ k) ∧ Aside0 (Kd.R (Kd.int .i64) 3 w' w.heap.size (fun _ => True) v102 x3_1) ∧ Aside0 (Below w.heap.size w w'))
 case atStart => exact ⟨(y101), (0), zq5, H', ⟨zlr _⟩, ⟨zq3 HO103⟩, ⟨zq2⟩⟩
 clear H'
 try clear c2
 try clear c2b0
 try clear c2b1
 try clear c3
 try clear c3b0
 try clear c3b1
 obtain ⟨x3_1, x13_1, rfl, HA, HK1, HO_3, HB⟩ := hrel
 cases gk with
 | zero => exact absurd HA.out (by simp [zev])
 | succ k1 =>
 have H := HA.out
 clear HA
 simp only [zev] at H
 revert H
 refine zit (fun c6 H => ?_) fun c6 H => ?_
 rotate_left
 · obtain rfl := zsi H
   go_wp2
   go_ret
   exact ⟨_, zq4, zq3 HO_3, zq2⟩
 revert H
 refine zin fun c7 H => ?_
 revert H
 refine zin fun c8 H => ?_
 replace H := zob H
 obtain ⟨t106, A90, H⟩ := H
 have A9 := zA A90
 clear A90
 have H' := zA H
 clear H
 obtain ⟨p104, q104⟩ := zpq x13_1 l0.length
 obtain ⟨ad104, e104, hx104_0, hx104_1, hx104_2, hx104_3⟩ := znn HR0.out x13_1 (zoe p104) (zoe q104)
 cases e104
 replace hx104_0 := zkep HB.out hx104_0
 replace hx104_1 := zkep HB.out hx104_1
 replace hx104_2 := zkep HB.out hx104_2
 replace hx104_3 := zkep HB.out hx104_3
 go_wp2_with (first | ((with_reducible refine zgd 5 ?_); refine zbx #[.string (⟨#[]⟩ : ByteArray), .int .i64 0, .int .i64 0, .int .i64 0] 62 ?_; intro gb105 hg w10 hbox hb; have zs := zpair zq2 hb; replace HO_3 := zA (zRb (zq3 HO_3) hb); replace HB := zA (zs.1); have BK105 := zA (hbox); have GW105 := zA (zge hg zs.2); have GE105 := GW105; clear zs hb hbox hg; obtain ⟨hcz11_0, hcz11_1, hcz11_2, hcz11_3, hfz11_0, hfz11_1, hfz11_2, hfz11_3⟩ := zd4 BK105) | ((with_reducible refine zgc 160 ?_); refine zcl 18 Tryz.func160 (zqj k1 ((zab l0 x13_1).f0) ((zab l0 x13_1).f1) ((zab l0 x13_1).f2) ((zab l0 x13_1).f3) t106 _ A9.out) ?_; rintro e w12 ⟨v107, rfl, ho0, hb⟩; refine ⟨_, rfl, ?_⟩; have HO108 := zA (Kd.R_lower (Kd.R_new' ho0 (Kd.R_lt (zq18 HO_3 BK105))) (zaf (zq1 GE105))); replace HO_3 := zA (Kd.R_elder' (zq18 HO_3 BK105) (Kd.R_base ho0) hb); replace BK105 := zA (zai (g := gb105) (o := .cells #[.string ((zab l0 x13_1).f0), .int .i64 ((zab l0 x13_1).f1), .int .i64 ((zab l0 x13_1).f2), .int .i64 ((zab l0 x13_1).f3)] 62 (0, 0)) (zq27 BK105) hb); replace HB := zA (zaa (zq1 GE105) hb); (try clear hb); (try clear hk); (try clear ho0); obtain ⟨Ao13, co13, eo13⟩ := Kd.R_slice HO108.out; subst eo13))
 go_loopg [20] k1 (fun kq v20 w' => ∃ (x3_2 : List Int) (x20_2 : Int), v20 = .int .i64 x20_2 ∧ Aside0 (zfp kq x3_2 l0 (l0.length : Int) x13_1 t106 (t106.length : Int) x20_2 = some r) ∧ Aside0 (kq ≤ k1) ∧ Aside0 (Kd.R (Kd.int .i64) 3 w' w.heap.size (fun k_ => some k_ ≠ ((.slice Ao13 t106.length co13) : Value).ownBlock) v102 x3_2) ∧ Aside0 (Kd.R (Kd.int .i64) 3 w' w.heap.size (fun k_ => some k_ ≠ (v102 : Value).ownBlock) (.slice Ao13 t106.length co13) t106) ∧ Aside0 (w'.heap[gb105]? = some (.cells #[.string ((zab l0 x13_1).f0), .int .i64 ((zab l0 x13_1).f1), .int .i64 ((zab l0 x13_1).f2), .int .i64 ((zab l0 x13_1).f3)] 62 (0, 0))) ∧ Aside0 (Below w.heap.size w w'))
 case atStart => exact ⟨(x3_1), (0), zq5, H', ⟨zlr _⟩, ⟨zq29 HO_3⟩, ⟨zq29 HO108⟩, ⟨zq6 BK105⟩, ⟨zq1 GE105⟩⟩
 clear H'
 try clear c2
 try clear c2b0
 try clear c2b1
 try clear c3
 try clear c3b0
 try clear c3b1
 try clear c6
 try clear c7
 try clear c8
 try clear hcz11_0
 try clear hcz11_1
 try clear hcz11_2
 try clear hcz11_3
 try clear hfz11_0
 try clear hfz11_1
 try clear hfz11_2
 try clear hfz11_3
 try clear hx104_0
 try clear hx104_1
 try clear hx104_2
 try clear hx104_3
 try clear p104
 try clear q104
 obtain ⟨x3_2, x20_2, rfl, HA, HK2, HO_3, HO_18, BK105, HB⟩ := hrel
 cases gk with
 | zero => exact absurd HA.out (by simp [zfp])
 | succ k2 =>
 have H := HA.out
 clear HA
 simp only [zfp] at H
 revert H
 refine zit (fun c14 H => ?_) fun c14 H => ?_
 rotate_left
 · have H' := zA H
   clear H
   go_wp2
   go_roundg k2
   case measure => have := HK1.out; have := HK2.out; omega
   case rel => exact ⟨(x3_2), (wrap64 (x13_1 + 1)), zq5, H', ⟨zq39 HK1 HK2⟩, ⟨zq35 HO_3⟩, ⟨zq1 GE105⟩⟩
 revert H
 refine zin fun c15 H => ?_
 revert H
 refine zin fun c16 H => ?_
 revert H
 refine zin fun c17 H => ?_
 revert H
 refine zin fun c18 H => ?_
 obtain ⟨y111, hy111⟩ : ∃ y_ : List Int, y_ = (x3_2.set ((rd t106 x20_2) : Int).toNat (wrap64 ((rd x3_2 (rd t106 x20_2)) + 1))) := ⟨_, rfl⟩
 rw [← hy111] at H; try with_reducible replace H := zbs H
 have Ny111 := zA hy111
 clear hy111
 have H' := zA H
 clear H
 obtain ⟨p109, q109⟩ := zpq x20_2 t106.length
 obtain ⟨ad109, e109, hx109_0⟩ := Kd.at_int (zRr HO_18.out).2.2 x20_2 (zoe p109) (zoe q109)
 cases e109
 obtain ⟨Ao20, co20, eo20⟩ := Kd.R_slice HO_3.out
 subst eo20
 have p110 : 0 ≤ ((rd t106 x20_2) : Int) := zde zq14
 have q110 : (rd t106 x20_2) < (x3_2.length : Int) := zde zq14
 obtain ⟨ad110, e110, hx110_0⟩ := Kd.at_int (zRr HO_3.out).2.2 (rd t106 x20_2) p110 q110
 cases e110
 replace p110 := eq_true p110
 replace q110 := eq_true q110
 have p19 : 0 ≤ ((rd t106 x20_2) : Int) := zde zq14
 have q19 : ((rd t106 x20_2) : Int) < ((x3_2.length : Int) : Int) := zde zq14
 obtain ⟨go19, co19, eo19, gb19, gl19, cl19, HG19⟩ := Kd.R_form HO_3.out (by omega)
 (first | cases eo19 | (injection eo19 with ea_ en_ ec_; (first | subst ea_ | (injection ea_ with ea_; subst ea_)); subst ec_; clear en_))
 have GB19 := zA gb19
 have GG19 := zA HG19
 clear gb19 gl19 HG19
 (first | simp only [zml] at hx110_0 | skip)
 obtain ⟨hx19_0, hf19_0⟩ := Kd.R_celln 0 HO_3.out ((rd t106 x20_2) : Int) p19 q19
 replace p19 := eq_true p19
 replace q19 := eq_true q19
 have HP21 := Kd.R_putg HO_3.out ((rd t106 x20_2) : Int) (wrap64 ((rd x3_2 (rd t106 x20_2)) + 1))
 go_wp2_with (first | ((with_reducible refine zgs 3 29 ?_); refine zse (wr.setCell ⟨go19, ((rd t106 x20_2) : Int).toNat, none⟩ (.int .i64 (wrap64 ((rd x3_2 (rd t106 x20_2)) + 1)))) ?_; intro w22 hw; have hg : wr.grownBy w22 (some go19) := (by rw [hw]; exact HP21.2); have hp_ : Kd.R (Kd.int .i64) 3 w22 w.heap.size (fun k_ => some k_ ≠ (.slice (some ad109) t106.length co13 : Value).ownBlock) (.slice (some ⟨go19, 0, none⟩) x3_2.length co20) y111 := (by rw [hw, Ny111.out]; exact HP21.1); clear HP21; replace HO_18 := zA (Kd.R_after (v := (.slice (some ⟨go19, 0, none⟩) x3_2.length co20)) (v1 := (.slice (some ⟨go19, 0, none⟩) x3_2.length co20)) (ok := (fun _ => True)) (by (with_reducible repeat (first | apply zRa | apply zRn | apply zRd)); exact Kd.R_mono HO_18.out (fun _ hk => ⟨trivial, hk⟩)) hg (.inl rfl)); replace BK105 := zA (zgq (g := gb105) (o := .cells #[.string ((zab l0 x13_1).f0), .int .i64 ((zab l0 x13_1).f1), .int .i64 ((zab l0 x13_1).f2), .int .i64 ((zab l0 x13_1).f3)] 62 (0, 0)) (zq6 BK105) hg (Kd.R_ne HO_3.out BK105.out (by decide))); replace HO_3 := zA (hp_); replace HB := zA ((zq32 GB19 : Below w.heap.size w w22)); clear hg hw hp_))
 go_roundg k2
 case measure => have := HK1.out; have := HK2.out; omega
 case rel => exact ⟨(y111), (wrap64 (x20_2 + 1)), zq5, H', ⟨zq39 HK1 HK2⟩, ⟨zq3 HO_3⟩, ⟨zq29 HO_18⟩, ⟨zq6 BK105⟩, ⟨zq1 GE105⟩⟩
end Go.Proofs.YtnaafcleafbejaaGreat.Q
end
section
namespace Go.Proofs.YtnaafcleafbejaaGreat.Q
open Go.RowKit Go.Proofs.YtnaafcleafbejaaGreatW.PrintWords Go.Proofs.YtnaafcleafbejaaGreatW.PrintLast Go.Proofs.YtnaafcleafbejaaGreatW.PrintMore
set_option maxHeartbeats 8000000
set_option maxRecDepth 100000
attribute [local go_sem] zbc zbg zb8 zb9 za1 za2 zbi zbj
set_option linter.unusedVariables false
set_option linter.unusedSimpArgs false
def zdw : Nat → List (S62) → List (S62) → Int → Int → Option (Bool)
 | 0, _, _, _, _ => none
 | k + 1, x0, x9, x10, x11 => if x11 < x10 then (if 0 ≤ x11 then (if x11 < (x9.length : Int) then ((zeb k ((zab x9 x11).f0) ((zab x9 x11).f1) ((zab x9 x11).f2) ((zab x9 x11).f3) x11).bind fun t104 => (if t104 = true then (zdw k x0 x9 x10 (wrap64 (x11 + 1))) else (some false))) else (none)) else (none)) else ((zio k x0).bind fun t105 => (if 0 ≤ (wrap64 ((x0.length : Int) - 1)) then (if (wrap64 ((x0.length : Int) - 1)) ≤ (t105.length : Int) then ((za8 k (t105.take ((wrap64 ((x0.length : Int) - 1)) : Int).toNat) 0).bind fun t112 => (some (!t112))) else (none)) else (none)))
def zg2 (k : Nat) (l0 : List (S62)) : Option (Bool) := (zd3 (l0.length : Int) 1 24).bind fun t101 => (if t101 = true then (zdw k l0 l0 (l0.length : Int) 0) else (some false))
theorem zmp : ∀ k, (∀ y0 y1 y2 y3, LeO (zdw k y0 y1 y2 y3) (zdw (k + 1) y0 y1 y2 y3))
 | 0 => fun _ _ _ _ r h => by simp [zdw] at h
 | k + 1 => by
   have ih0 := zmp k
   · intro y0 y1 y2 y3
     unfold zdw
     exact zm4 ih0 zkz zpp ze0
theorem zsp : ∀ a0 k, LeO (zg2 k a0) (zg2 (k + 1) a0) := by
 intro a0 k
 have ih0 := zmp k
 unfold zg2
 exact zm4 ih0 zkz zpp ze0
theorem zkp (k : Nat) (A0 : Option Addr) (c0 : Nat) (l0 : List (S62)) (r : Bool) (w : World) (hr0 : Kd.C k62 w A0 l0.length l0) (hc0 : l0.length ≤ c0) (h : zg2 k l0 = some r) :
   Calls Tryz.prog 88 #[.slice A0 l0.length c0] w fun e w' => e = .returned (.bool r) ∧ Below w.heap.size w w' := by
 have hu62 := Tryz.underlying62
 have HR0 := zA hr0
 have HC0 := zA hc0
 clear hr0 hc0
 have HB := zA (Below.refl w.heap.size w)
 have H := h
 unfold zg2 at H
 clear h
 replace H := zob H
 obtain ⟨t101, A20, H⟩ := H
 have A2 := zA A20
 clear A20
 by_cases c3 : t101 = true
 rotate_left
 · replace c3 := zbf c3
   subst c3
   replace H := zif H
   obtain rfl := zsi H
   go_enter Tryz.func88, Tryz.ntmps88
   go_wp2_with (first | ((with_reducible refine zgc 90 ?_); refine zcl 7 Tryz.func90 (zbo (l0.length : Int) 1 24 false _ A2.out) ?_; rintro e w' ⟨rfl, ⟨nd, rfl⟩⟩; refine ⟨_, rfl, ?_⟩))
   exact zr_4
 subst c3
 replace H := zih H
 have H' := zA H
 clear H
 go_enter Tryz.func88, Tryz.ntmps88
 go_wp2_with (first | ((with_reducible refine zgc 90 ?_); refine zcl 7 Tryz.func90 (zbo (l0.length : Int) 1 24 true _ A2.out) ?_; rintro e w' ⟨rfl, ⟨nd, rfl⟩⟩; refine ⟨_, rfl, ?_⟩))
 go_loopg [11] k (fun kq v11 w' => ∃ (x11_1 : Int), v11 = .int .i64 x11_1 ∧ Aside0 (zdw kq l0 l0 (l0.length : Int) x11_1 = some r) ∧ Aside0 (kq ≤ k) ∧ Aside0 (Below w.heap.size w w'))
 case atStart => exact ⟨(0), zq5, H', ⟨zlr _⟩, ⟨zq2⟩⟩
 clear H'
 try clear c3
 obtain ⟨x11_1, rfl, HA, HK1, HB⟩ := hrel
 cases gk with
 | zero => exact absurd HA.out (by simp [zdw])
 | succ k1 =>
 have H := HA.out
 clear HA
 simp only [zdw] at H
 revert H
 refine zit (fun c4 H => ?_) fun c4 H => ?_
 rotate_left
 · replace H := zob H
   obtain ⟨t105, A150, H⟩ := H
   have A15 := zA A150
   clear A150
   obtain ⟨ji16, hji16⟩ : ∃ j_ : Int, (wrap64 ((l0.length : Int) - 1)) = j_ := ⟨_, rfl⟩
   replace H : (if 0 ≤ (ji16) then (if (ji16) ≤ (t105.length : Int) then ((za8 k1 (t105.take ((ji16) : Int).toNat) 0).bind fun t112 => (some (!t112))) else (none)) else (none)) = some r := by first | (rw [hji16] at H; exact H) | (simp only [hji16] at H ⊢; exact H)
   (try rw [hji16] at A15)
   have hji16w : (IntKind.i64.wrap ((l0.length : Int) - 1)) = ji16 := (zic _).trans hji16
   by_cases c17 : 0 ≤ (ji16)
   rotate_left
   · rw [if_neg c17] at H
     exact absurd H (by simp)
   rw [if_pos c17] at H
   have c17b0 := eq_true c17
   have c17b1 := zdt c17
   clear c17
   by_cases c18 : (ji16) ≤ (t105.length : Int)
   rotate_left
   · rw [if_neg c18] at H
     exact absurd H (by simp)
   rw [if_pos c18] at H
   have c18b0 := eq_true c18
   have c18b1 := zdt c18
   clear c18
   obtain ⟨y108, hy108⟩ : ∃ y_ : List Int, y_ = (t105.take ((ji16) : Int).toNat) := ⟨_, rfl⟩
   rw [← hy108] at H; try with_reducible replace H := zbs H
   have Ny108 := zA hy108
   clear hy108
   replace H := zob H
   obtain ⟨t112, A190, H⟩ := H
   have A19 := zA A190
   clear A190
   obtain rfl := zsi H
   go_wp2_with (first | ((with_reducible refine zgc 124 ?_); refine zca 22 Tryz.func124 #[.slice A0 l0.length c0] (zti k1 _ _ l0 t105 _ (zq7 HR0) HC0.out A15.out) ?_; rintro e w20 ⟨v106, rfl, ho0, hb⟩; refine ⟨_, rfl, ?_⟩; have HO107 := zA (Kd.R_lower ho0 (zaf zq2)); replace HB := zA (zaa zq2 hb); (try clear hb); (try clear ho0); obtain ⟨Ao22, co22, eo22⟩ := Kd.R_slice HO107.out; subst eo22; have q21 : ((ji16) : Int) ≤ ((t105.length : Int) : Int) := zde zq14; obtain ⟨i021, hi021, _, hsz21, _⟩ := info_parts zl5; have hroom21 : t105.length ≤ co22 := (zRr HO107.out).2.1; have hC21 : Kd.C (Kd.int .i64) _ Ao22 t105.length t105 := (zRr HO107.out).2.2; have hcut21 := ybp (P := Tryz.prog) 24 3 .i64 Tryz.underlying24 hi021 Ao22 t105.length co22 (ji16) (zde zq14) q21 hroom21; have hr21 := Kd.C_take (m := ((ji16) : Int).toNat) hC21 (by omega); have hy21 : y108.length = ((ji16) : Int).toNat := (by rw [Ny108.out, List.length_take]; omega); rw [← Ny108.out] at hr21; rw [← hy21] at hcut21; have HR111 := zA hr21; have HC111 := zA (show y108.length ≤ co22 from by omega); clear hr21 hC21 hroom21 hi021 hsz21; have KY21 := zA hy21; clear hy21; have KL21 := zA (show ((ji16) : Int).toNat ≤ t105.length from by omega); replace q21 := eq_true q21) | ((with_reducible refine zgc 123 ?_); refine zca 27 Tryz.func123 #[.slice Ao22 y108.length co22, .int .i64 0] (zf0 k1 _ _ y108 0 t112 _ (by repeat (first | exact (zq15 HR111) | (with_reducible first | refine zCa ?_ _ | refine zCn ?_ _ | refine zCd ?_))) HC111.out A19.out) ?_; rintro e w' ⟨rfl, ⟨nd, rfl⟩⟩; refine ⟨_, rfl, ?_⟩))
   go_ret
   exact ⟨zq56, zq2⟩
 revert H
 refine zin fun c5 H => ?_
 revert H
 refine zin fun c6 H => ?_
 replace H := zob H
 obtain ⟨t104, A70, H⟩ := H
 have A7 := zA A70
 clear A70
 by_cases c8 : t104 = true
 rotate_left
 · replace c8 := zbf c8
   subst c8
   replace H := zif H
   obtain rfl := zsi H
   obtain ⟨p102, q102⟩ := zpq x11_1 l0.length
   obtain ⟨ad102, e102, hx102_0, hx102_1, hx102_2, hx102_3⟩ := znn HR0.out x11_1 (zoe p102) (zoe q102)
   cases e102
   replace hx102_0 := zkep HB.out hx102_0
   replace hx102_1 := zkep HB.out hx102_1
   replace hx102_2 := zkep HB.out hx102_2
   replace hx102_3 := zkep HB.out hx102_3
   go_wp2_with (first | ((with_reducible refine zgd 4 ?_); refine zbh zq2 #[.string (⟨#[]⟩ : ByteArray), .int .i64 0, .int .i64 0, .int .i64 0] 62 ?_; clear HB; intro gb103 w12 HB BK103 GW103; have GE103 := GW103; obtain ⟨hcz13_0, hcz13_1, hcz13_2, hcz13_3, hfz13_0, hfz13_1, hfz13_2, hfz13_3⟩ := zd4 BK103) | ((with_reducible refine zgc 122 ?_); refine zcl 18 Tryz.func122 (zj9 k1 ((zab l0 x11_1).f0) ((zab l0 x11_1).f1) ((zab l0 x11_1).f2) ((zab l0 x11_1).f3) x11_1 false _ A7.out) ?_; rintro e w14 ⟨rfl, hb⟩; refine ⟨_, rfl, ?_⟩; replace BK103 := zA (zai (g := gb103) (o := .cells #[.string ((zab l0 x11_1).f0), .int .i64 ((zab l0 x11_1).f1), .int .i64 ((zab l0 x11_1).f2), .int .i64 ((zab l0 x11_1).f3)] 62 (0, 0)) (zq11 BK103) hb); replace HB := zA (zaa (zq1 GE103) hb); (try clear hb)))
   go_ret
   exact ⟨zq4, zq1 GE103⟩
 subst c8
 replace H := zih H
 have H' := zA H
 clear H
 obtain ⟨p102, q102⟩ := zpq x11_1 l0.length
 obtain ⟨ad102, e102, hx102_0, hx102_1, hx102_2, hx102_3⟩ := znn HR0.out x11_1 (zoe p102) (zoe q102)
 cases e102
 replace hx102_0 := zkep HB.out hx102_0
 replace hx102_1 := zkep HB.out hx102_1
 replace hx102_2 := zkep HB.out hx102_2
 replace hx102_3 := zkep HB.out hx102_3
 go_wp2_with (first | ((with_reducible refine zgd 4 ?_); refine zbh zq2 #[.string (⟨#[]⟩ : ByteArray), .int .i64 0, .int .i64 0, .int .i64 0] 62 ?_; clear HB; intro gb103 w9 HB BK103 GW103; have GE103 := GW103; obtain ⟨hcz10_0, hcz10_1, hcz10_2, hcz10_3, hfz10_0, hfz10_1, hfz10_2, hfz10_3⟩ := zd4 BK103) | ((with_reducible refine zgc 122 ?_); refine zcl 18 Tryz.func122 (zj9 k1 ((zab l0 x11_1).f0) ((zab l0 x11_1).f1) ((zab l0 x11_1).f2) ((zab l0 x11_1).f3) x11_1 true _ A7.out) ?_; rintro e w11 ⟨rfl, hb⟩; refine ⟨_, rfl, ?_⟩; replace BK103 := zA (zai (g := gb103) (o := .cells #[.string ((zab l0 x11_1).f0), .int .i64 ((zab l0 x11_1).f1), .int .i64 ((zab l0 x11_1).f2), .int .i64 ((zab l0 x11_1).f3)] 62 (0, 0)) (zq11 BK103) hb); replace HB := zA (zaa (zq1 GE103) hb); (try clear hb)))
 go_roundg k1
 case measure => have := HK1.out; omega
 case rel => exact ⟨(wrap64 (x11_1 + 1)), zq5, H', ⟨zq31 HK1⟩, ⟨zq1 GE103⟩⟩
def zfq (k : Nat) (l0 : List (S62)) (l1_0 : List ByteArray) (l1_1 : List Int) (a2 : Int) : Option (Bool) := (zg2 k l0).bind fun t102 => (if t102 = true then ((zfo k l1_0 l1_1).bind fun t103 => (if t103 = true then ((zd3 a2 0 3).bind fun t104 => (some t104)) else (some false))) else (some false))
theorem zqk : ∀ a0 a1 a2 a3 k, LeO (zfq k a0 a1 a2 a3) (zfq (k + 1) a0 a1 a2 a3) := by
 intro a0 a1 a2 a3 k
 unfold zfq
 exact zm2 zqh zsp
theorem zl9 (k : Nat) (A0 : Option Addr) (c0 : Nat) (l0 : List (S62)) (A1_0 : Option Addr) (c1_0 : Nat) (l1_0 : List ByteArray) (A1_1 : Option Addr) (c1_1 : Nat) (l1_1 : List Int) (a2 : Int) (r : Bool) (w : World) (hr0 : Kd.C k62 w A0 l0.length l0) (hc0 : l0.length ≤ c0) (hr1_0 : Kd.C Kd.string w A1_0 l1_0.length l1_0) (hc1_0 : l1_0.length ≤ c1_0) (hr1_1 : Kd.C (Kd.int .i64) w A1_1 l1_1.length l1_1) (hc1_1 : l1_1.length ≤ c1_1) (h : zfq k l0 l1_0 l1_1 a2 = some r) :
   Calls Tryz.prog 55 #[.slice A0 l0.length c0, .agg #[.slice A1_0 l1_0.length c1_0, .slice A1_1 l1_1.length c1_1], .int .i64 a2] w fun e w' => e = .returned (.bool r) ∧ Below w.heap.size w w' := by
 have hu34 := Tryz.underlying34
 have HR0 := zA hr0
 have HC0 := zA hc0
 clear hr0 hc0
 have HR1_0 := zA hr1_0
 have HC1_0 := zA hc1_0
 clear hr1_0 hc1_0
 have HR1_1 := zA hr1_1
 have HC1_1 := zA hc1_1
 clear hr1_1 hc1_1
 have HB := zA (Below.refl w.heap.size w)
 have H := h
 unfold zfq at H
 clear h
 replace H := zob H
 obtain ⟨t102, A40, H⟩ := H
 have A4 := zA A40
 clear A40
 by_cases c5 : t102 = true
 rotate_left
 · replace c5 := zbf c5
   subst c5
   replace H := zif H
   obtain rfl := zsi H
   go_enter Tryz.func55, Tryz.ntmps55
   go_wp2_with (first | ((with_reducible refine zgd 4 ?_); refine zbx #[.slice A1_0 l1_0.length c1_0, .slice A1_1 l1_1.length c1_1] 34 ?_; intro gb101 hg w17 hbox hb; have zs := zpair zq2 hb; replace HB := zA (zs.1); have BK101 := zA (hbox); have GW101 := zA (zge hg zs.2); have GE101 := GW101; clear zs hb hbox hg) | ((with_reducible refine zgc 88 ?_); refine zca 8 Tryz.func88 #[.slice A0 l0.length c0] (zkp k _ _ l0 false _ (zq7 HR0) HC0.out A4.out) ?_; rintro e w18 ⟨rfl, hb⟩; refine ⟨_, rfl, ?_⟩; replace BK101 := zbb BK101 hb; replace HB := zA (zaa (zq1 GE101) hb); (try clear hb)))
   go_ret
   exact ⟨zq4, zq1 GE101⟩
 subst c5
 replace H := zih H
 replace H := zob H
 obtain ⟨t103, A60, H⟩ := H
 have A6 := zA A60
 clear A60
 by_cases c7 : t103 = true
 rotate_left
 · replace c7 := zbf c7
   subst c7
   replace H := zif H
   obtain rfl := zsi H
   go_enter Tryz.func55, Tryz.ntmps55
   go_wp2_with (first | ((with_reducible refine zgd 4 ?_); refine zbx #[.slice A1_0 l1_0.length c1_0, .slice A1_1 l1_1.length c1_1] 34 ?_; intro gb101 hg w13 hbox hb; have zs := zpair zq2 hb; replace HB := zA (zs.1); have BK101 := zA (hbox); have GW101 := zA (zge hg zs.2); have GE101 := GW101; clear zs hb hbox hg) | ((with_reducible refine zgc 88 ?_); refine zca 8 Tryz.func88 #[.slice A0 l0.length c0] (zkp k _ _ l0 true _ (zq7 HR0) HC0.out A4.out) ?_; rintro e w14 ⟨rfl, hb⟩; refine ⟨_, rfl, ?_⟩; replace BK101 := zbb BK101 hb; replace HB := zA (zaa (zq1 GE101) hb); (try clear hb); obtain ⟨hcz15_0, hcz15_1⟩ := zc2 w14 (.slice A1_0 l1_0.length c1_0) (.slice A1_1 l1_1.length c1_1) BK101.out; obtain ⟨hfz15_0, hfz15_1⟩ := zf2 BK101.out) | (go_at_call 89; (with_reducible refine (zl8 k _ _ l1_0 _ _ l1_1 false _ ?side1 ?side2 ?side3 ?side4 A6.out).mono ?_); (case side1 => repeat (first | exact (zCb HR1_0.out HB.out) | (with_reducible first | refine zCa ?_ _ | refine zCn ?_ _ | refine zCd ?_))); (case side2 => exact HC1_0.out); (case side3 => repeat (first | exact (zCb HR1_1.out HB.out) | (with_reducible first | refine zCa ?_ _ | refine zCn ?_ _ | refine zCd ?_))); (case side4 => exact HC1_1.out); rintro e w16 ⟨rfl, hb⟩; replace BK101 := zbb BK101 hb; replace HB := zA (zaa (zq1 GE101) hb); (try clear hb)))
   go_ret
   exact ⟨zq4, zq1 GE101⟩
 subst c7
 replace H := zih H
 replace H := zob H
 obtain ⟨t104, A80, H⟩ := H
 have A8 := zA A80
 clear A80
 obtain rfl := zsi H
 go_enter Tryz.func55, Tryz.ntmps55
 go_wp2_with (first | ((with_reducible refine zgd 4 ?_); refine zbx #[.slice A1_0 l1_0.length c1_0, .slice A1_1 l1_1.length c1_1] 34 ?_; intro gb101 hg w9 hbox hb; have zs := zpair zq2 hb; replace HB := zA (zs.1); have BK101 := zA (hbox); have GW101 := zA (zge hg zs.2); have GE101 := GW101; clear zs hb hbox hg) | ((with_reducible refine zgc 88 ?_); refine zca 8 Tryz.func88 #[.slice A0 l0.length c0] (zkp k _ _ l0 true _ (zq7 HR0) HC0.out A4.out) ?_; rintro e w10 ⟨rfl, hb⟩; refine ⟨_, rfl, ?_⟩; replace BK101 := zbb BK101 hb; replace HB := zA (zaa (zq1 GE101) hb); (try clear hb); obtain ⟨hcz11_0, hcz11_1⟩ := zc2 w10 (.slice A1_0 l1_0.length c1_0) (.slice A1_1 l1_1.length c1_1) BK101.out; obtain ⟨hfz11_0, hfz11_1⟩ := zf2 BK101.out) | (go_at_call 89; (with_reducible refine (zl8 k _ _ l1_0 _ _ l1_1 true _ ?side1 ?side2 ?side3 ?side4 A6.out).mono ?_); (case side1 => repeat (first | exact (zCb HR1_0.out HB.out) | (with_reducible first | refine zCa ?_ _ | refine zCn ?_ _ | refine zCd ?_))); (case side2 => exact HC1_0.out); (case side3 => repeat (first | exact (zCb HR1_1.out HB.out) | (with_reducible first | refine zCa ?_ _ | refine zCn ?_ _ | refine zCd ?_))); (case side4 => exact HC1_1.out); rintro e w12 ⟨rfl, hb⟩; replace BK101 := zbb BK101 hb; replace HB := zA (zaa (zq1 GE101) hb); (try clear hb)) | (go_at_call 90; (with_reducible refine (zbo a2 0 3 t104 _ A8.out).mono ?_); rintro e w' ⟨rfl, ⟨nd, rfl⟩⟩))
 go_ret
 exact ⟨zq4, zq1 GE101⟩
def zc0 : Nat → Int → Int → List Int → List (S62) → Int → Int → Option (List Int)
 | 0, _, _, _, _, _, _ => none
 | k + 1, x1, x2, x7, x13, x14, x15 => if x15 < x14 then (if 0 ≤ x15 then (if x15 < (x13.length : Int) then (if ((zab x13 x15).f0).toList = ([105, 110] : List UInt8) then ((some (([x1, x2] : List Int) : List Int)).bind fun y106 => (if 0 ≤ ((zab x13 x15).f3) then (if ((zab x13 x15).f3) < (y106.length : Int) then (if x15 < (x7.length : Int) then (zc0 k x1 x2 (x7.set (x15 : Int).toNat (rd y106 ((zab x13 x15).f3))) x13 x14 (wrap64 (x15 + 1))) else (none)) else (none)) else (none))) else (if ((zab x13 x15).f0).toList = ([99, 111, 110, 115, 116] : List UInt8) then (if x15 < (x7.length : Int) then (zc0 k x1 x2 (x7.set (x15 : Int).toNat ((zab x13 x15).f3)) x13 x14 (wrap64 (x15 + 1))) else (none)) else (if 0 ≤ ((zab x13 x15).f1) then (if ((zab x13 x15).f1) < (x7.length : Int) then (if 0 ≤ ((zab x13 x15).f2) then (if ((zab x13 x15).f2) < (x7.length : Int) then ((zgz ((zab x13 x15).f0) (rd x7 ((zab x13 x15).f1)) (rd x7 ((zab x13 x15).f2))).bind fun t114 => (if x15 < (x7.length : Int) then (zc0 k x1 x2 (x7.set (x15 : Int).toNat t114) x13 x14 (wrap64 (x15 + 1))) else (none))) else (none)) else (none)) else (none)) else (none)))) else (none)) else (none)) else (some x7)
def zg3 (k : Nat) (l0 : List (S62)) (a1 : Int) (a2 : Int) : Option (List Int) := if 0 ≤ (l0.length : Int) then (if ((l0.length : Int) : Int).toNat ≤ 35184372088832 then (zc0 k a1 a2 (List.replicate ((l0.length : Int) : Int).toNat 0) l0 (l0.length : Int) 0) else (none)) else (none)
theorem zmq : ∀ k, (∀ y0 y1 y2 y3 y4 y5, LeO (zc0 k y0 y1 y2 y3 y4 y5) (zc0 (k + 1) y0 y1 y2 y3 y4 y5))
 | 0 => fun _ _ _ _ _ _ r h => by simp [zc0] at h
 | k + 1 => by
   have ih0 := zmq k
   · intro y0 y1 y2 y3 y4 y5
     unfold zc0
     exact zm1 ih0
theorem zsq : ∀ a0 a1 a2 k, LeO (zg3 k a0 a1 a2) (zg3 (k + 1) a0 a1 a2) := by
 intro a0 a1 a2 k
 have ih0 := zmq k
 unfold zg3
 exact zm1 ih0
def impl_values.T6 : Bool × List (List Nat × List Nat) := (true, [([], []), ([], []), ([], []), ([2], [2]), ([], []), ([], []), ([5], [5]), ([4, 6], [4, 6]), ([7], [7]), ([], []), ([], []), ([10], [10]), ([9, 11], [9, 11]), ([12], [12]), ([3, 8, 13], [3, 8, 13]), ([0, 1, 0, 1, 2, 3, 4, 5, 6, 7, 8, 9, 10, 11, 12, 13, 14], [0, 1]), ([15, 14, 14, 0, 1, 2, 3, 4, 5, 6, 7, 8, 9, 10, 11, 12, 13, 14], [14, 15])])
def zt4 : List Nat := [0, 0, 0, 4, 0, 0, 32, 112, 240, 0, 0, 1024, 3584, 7680, 16380, 32767, 65535]
theorem zsr : rtab .any (zs3 Tryz.f130 6) = impl_values.T6 := by kernel_rfl
theorem zrr : zis impl_values.T6.2 zt4 = true := by kernel_rfl
theorem zrs (k : Nat) (A0 : Option Addr) (c0 : Nat) (l0 : List (S62)) (a1 : Int) (a2 : Int) (r : List Int) (w : World) (hr0 : Kd.C k62 w A0 l0.length l0) (hc0 : l0.length ≤ c0) (h : zg3 k l0 a1 a2 = some r) :
   Calls Tryz.prog 130 #[.slice A0 l0.length c0, .int .i64 a1, .int .i64 a2] w fun e w' => ∃ v0_ : Value, e = .returned (v0_) ∧ Kd.R (Kd.int .i64) 3 w' w.heap.size (fun _ => True) v0_ r ∧ Below w.heap.size w w' := by
 have hu62 := Tryz.underlying62
 have HR0 := zA hr0
 have HC0 := zA hc0
 clear hr0 hc0
 have HB := zA (Below.refl w.heap.size w)
 have H := h
 unfold zg3 at H
 clear h
 by_cases c4 : 0 ≤ (l0.length : Int)
 rotate_left
 · rw [if_neg c4] at H
   exact absurd H (by simp)
 rw [if_pos c4] at H
 have c4b0 := eq_true c4
 have c4b1 := zdt c4
 clear c4
 by_cases c5 : ((l0.length : Int) : Int).toNat ≤ 35184372088832
 rotate_left
 · rw [if_neg c5] at H
   exact absurd H (by simp)
 rw [if_pos c5] at H
 have c5b0 := eq_true c5
 have c5b1 := zdt c5
 clear c5
 obtain ⟨y101, hy101⟩ : ∃ y_ : List Int, y_ = (List.replicate ((l0.length : Int) : Int).toNat 0) := ⟨_, rfl⟩
 rw [← hy101] at H; try with_reducible replace H := zbs H
 have Ny101 := zA hy101
 clear hy101
 have H' := zA H
 clear H
 go_enter Tryz.func130, Tryz.ntmps130
 go_wp2_with (first | ((with_reducible refine zgd 12 ?_); refine Kd.R_make (Kd.int .i64) _ 3 rfl (N := 12) rfl 24 _ _ rfl (l0.length : Int) rfl rfl Tryz.underlying24 (.int .i64 0) 8 zl5 rfl (by decide) (by omega) 0 (ok := fun _ => True) (okp := fun _ => True) rfl (fun _ hk => hk) trivial (zde zq14) (Nat.le_trans (Nat.mul_le_mul_right _ (zde zq14 : (l0.length : Int).toNat ≤ 35184372088832)) (by omega)) (Below.refl _ _) (zlr _) ?_; intro v102 w6 ho7 hb hg_ hnew_; clear hg_ hnew_; (first | rw [← Ny101.out] at ho7 | (simp only [Int.reduceToNat] at ho7; rw [← Ny101.out] at ho7)); have HO103 := zA (Kd.R_lower ho7 (zaf zq2)); replace HB := zA (zaa zq2 hb); clear hb ho7))
 go_loopg [15] k (fun kq v15 w' => ∃ (x7_1 : List Int) (x15_1 : Int), v15 = .int .i64 x15_1 ∧ Aside0 (zc0 kq a1 a2 x7_1 l0 (l0.length : Int) x15_1 = some r) ∧ Aside0 (kq ≤ k) ∧ Aside0 (Kd.R (Kd.int .i64) 3 w' w.heap.size (fun _ => True) v102 x7_1) ∧ Aside0 (Below w.heap.size w w'))
 case atStart => exact ⟨(y101), (0), zq5, H', ⟨zlr _⟩, ⟨zq3 HO103⟩, ⟨zq2⟩⟩
 clear H'
 try clear c4
 try clear c4b0
 try clear c4b1
 try clear c5
 try clear c5b0
 try clear c5b1
 obtain ⟨x7_1, x15_1, rfl, HA, HK1, HO_7, HB⟩ := hrel
 cases gk with
 | zero => exact absurd HA.out (by simp [zc0])
 | succ k1 =>
 have H := HA.out
 clear HA
 simp only [zc0] at H
 revert H
 refine zit (fun c8 H => ?_) fun c8 H => ?_
 rotate_left
 · obtain rfl := zsi H
   go_wp2
   go_ret
   exact ⟨_, zq4, zq3 HO_7, zq2⟩
 revert H
 refine zin fun c9 H => ?_
 revert H
 refine zin fun c10 H => ?_
 by_cases c11 : ((zab l0 x15_1).f0).toList = ([105, 110] : List UInt8)
 · rw [if_pos c11] at H
   obtain ⟨c11b0, c11b1⟩ := zbe c11
   clear c11
   obtain ⟨y106, hy106⟩ : ∃ y_ : List Int, y_ = (([a1, a2] : List Int)) := ⟨_, rfl⟩
   rw [← hy106] at H; try with_reducible replace H := zbs H
   have Ny106 := zA hy106
   clear hy106
   revert H
   refine zin fun c12 H => ?_
   revert H
   refine zin fun c13 H => ?_
   revert H
   refine zin fun c14 H => ?_
   obtain ⟨y110, hy110⟩ : ∃ y_ : List Int, y_ = (x7_1.set (x15_1 : Int).toNat (rd y106 ((zab l0 x15_1).f3))) := ⟨_, rfl⟩
   rw [← hy110] at H; try with_reducible replace H := zbs H
   have Ny110 := zA hy110
   clear hy110
   have H' := zA H
   clear H
   obtain ⟨p104, q104⟩ := zpq x15_1 l0.length
   obtain ⟨ad104, e104, hx104_0, hx104_1, hx104_2, hx104_3⟩ := znn HR0.out x15_1 (zoe p104) (zoe q104)
   cases e104
   replace hx104_0 := zkep HB.out hx104_0
   replace hx104_1 := zkep HB.out hx104_1
   replace hx104_2 := zkep HB.out hx104_2
   replace hx104_3 := zkep HB.out hx104_3
   go_wp2_with (first | ((with_reducible refine zgd 9 ?_); refine zbx #[.string (⟨#[]⟩ : ByteArray), .int .i64 0, .int .i64 0, .int .i64 0] 62 ?_; intro gb105 hg w16 hbox hb; have zs := zpair zq2 hb; replace HO_7 := zA (zRb (zq3 HO_7) hb); replace HB := zA (zs.1); have BK105 := zA (hbox); have GW105 := zA (zge hg zs.2); have GE105 := GW105; clear zs hb hbox hg; obtain ⟨hcz17_0, hcz17_1, hcz17_2, hcz17_3, hfz17_0, hfz17_1, hfz17_2, hfz17_3⟩ := zd4 BK105) | ((with_reducible refine zgd 44 ?_); refine Kd.R_lit (Kd.int .i64) _ 3 ?hg (N := 44) ?hd (xs := ([a1, a2] : List Int)) (inner := [.int .i64 a1, .int .i64 a2]) (ok := fun _ => True) (okp := fun _ => True) ?hr ?hp (fun _ hk => hk) trivial (Below.refl _ _) (zlr _) (by simp) ?_; (case hd => rfl); (case hg => rfl); (case hr => go_simp <;> rfl); (case hp => exact (zaz (show Kd.M (Kd.int .i64) _ _ _ a1 [.int .i64 a1] from rfl) (zaz (show Kd.M (Kd.int .i64) _ _ _ a2 [.int .i64 a2] from rfl) (Reps.none _ _)))); intro v107 w18 ho19 hb hg_ hnew_; clear hg_ hnew_; (first | rw [← Ny106.out] at ho19 | (simp only [Int.reduceToNat] at ho19; rw [← Ny106.out] at ho19)); have HO108 := zA (Kd.R_lower (Kd.R_new' ho19 (Kd.R_lt (zq42 HO_7 BK105))) (zaf (zq1 GE105))); replace HO_7 := zA (Kd.R_elder' (zq42 HO_7 BK105) (Kd.R_base ho19) hb); replace BK105 := zA (zai (g := gb105) (o := .cells #[.string ((zab l0 x15_1).f0), .int .i64 ((zab l0 x15_1).f1), .int .i64 ((zab l0 x15_1).f2), .int .i64 ((zab l0 x15_1).f3)] 62 (0, 0)) (zq16 BK105) hb); replace HB := zA (zaa (zq1 GE105) hb); clear hb ho19; obtain ⟨hcz20_0, hcz20_1, hcz20_2, hcz20_3⟩ := zc4 w18 (.string ((zab l0 x15_1).f0)) (.int .i64 ((zab l0 x15_1).f1)) (.int .i64 ((zab l0 x15_1).f2)) (.int .i64 ((zab l0 x15_1).f3)) BK105.out; obtain ⟨hfz20_0, hfz20_1, hfz20_2, hfz20_3⟩ := zf4 BK105.out; obtain ⟨Ao21, co21, eo21⟩ := Kd.R_slice HO108.out; subst eo21; have p109 : 0 ≤ (((zab l0 x15_1).f3) : Int) := zde zq14; have q109 : ((zab l0 x15_1).f3) < (y106.length : Int) := zde zq14; obtain ⟨ad109, e109, hx109_0⟩ := Kd.at_int (zRr HO108.out).2.2 ((zab l0 x15_1).f3) p109 q109; cases e109; replace p109 := eq_true p109; replace q109 := eq_true q109; have p15 : 0 ≤ (x15_1 : Int) := zde zq14; have q15 : (x15_1 : Int) < ((x7_1.length : Int) : Int) := zde zq14; obtain ⟨go15, co15, eo15, gb15, gl15, cl15, HG15⟩ := Kd.R_form HO_7.out (by omega); (first | cases eo15 | (injection eo15 with ea_ en_ ec_; (first | subst ea_ | (injection ea_ with ea_; subst ea_)); subst ec_; clear en_)); have GB15 := zA gb15; have GG15 := zA HG15; clear gb15 gl15 HG15; obtain ⟨hx15_0, hf15_0⟩ := Kd.R_celln 0 HO_7.out (x15_1 : Int) p15 q15; replace p15 := eq_true p15; replace q15 := eq_true q15; have n_ := zA (Kd.R_mono (ok' := (fun k_ => some k_ ≠ (.slice (some ad109) y106.length co21 : Value).ownBlock)) HO_7.out (fun k_ hk => hk.2)); clear HO_7; have HO_7 := n_; clear n_; obtain ⟨hy22_, hz22_⟩ := Kd.R_celln 0 HO_7.out (x15_1 : Int) (zde zq14) (zde zq14); have HP22 := Kd.R_putg HO_7.out (x15_1 : Int) (rd y106 ((zab l0 x15_1).f3))) | ((with_reducible refine zgs 3 49 ?_); refine zse (w18.setCell ⟨go15, (x15_1 : Int).toNat, none⟩ (.int .i64 (rd y106 ((zab l0 x15_1).f3)))) ?_; intro w23 hw; have hg : w18.grownBy w23 (some go15) := (by rw [hw]; exact HP22.2); have hp_ : Kd.R (Kd.int .i64) 3 w23 w.heap.size (fun k_ => some k_ ≠ (.slice (some ad109) y106.length co21 : Value).ownBlock) (.slice (some ⟨go15, 0, none⟩) x7_1.length co15) y110 := (by rw [hw, Ny110.out]; exact HP22.1); clear HP22; replace BK105 := zA (zgq (g := gb105) (o := .cells #[.string ((zab l0 x15_1).f0), .int .i64 ((zab l0 x15_1).f1), .int .i64 ((zab l0 x15_1).f2), .int .i64 ((zab l0 x15_1).f3)] 62 (0, 0)) (zq6 BK105) hg (Kd.R_ne HO_7.out BK105.out (by decide))); replace HO_7 := zA (hp_); replace HO108 := zA (Kd.R_after (v := (.slice (some ⟨go15, 0, none⟩) x7_1.length co15)) (v1 := (.slice (some ⟨go15, 0, none⟩) x7_1.length co15)) (ok := (fun _ => True)) (zq3 HO108) hg (.inl rfl)); replace HB := zA ((zq32 GB15 : Below w.heap.size w w23)); clear hg hw hp_))
   go_roundg k1
   case measure => have := HK1.out; omega
   case rel => exact ⟨(y110), (wrap64 (x15_1 + 1)), zq5, H', ⟨zq31 HK1⟩, ⟨zq35 HO_7⟩, ⟨zq1 GE105⟩⟩
 rw [if_neg c11] at H
 obtain ⟨c11b0, c11b1⟩ := zbq c11
 by_cases c24 : ((zab l0 x15_1).f0).toList = ([99, 111, 110, 115, 116] : List UInt8)
 · rw [if_pos c24] at H
   obtain ⟨c24b0, c24b1⟩ := zbe c24
   clear c24
   revert H
   refine zin fun c25 H => ?_
   obtain ⟨y111, hy111⟩ : ∃ y_ : List Int, y_ = (x7_1.set (x15_1 : Int).toNat ((zab l0 x15_1).f3)) := ⟨_, rfl⟩
   rw [← hy111] at H; try with_reducible replace H := zbs H
   have Ny111 := zA hy111
   clear hy111
   have H' := zA H
   clear H
   obtain ⟨p104, q104⟩ := zpq x15_1 l0.length
   obtain ⟨ad104, e104, hx104_0, hx104_1, hx104_2, hx104_3⟩ := znn HR0.out x15_1 (zoe p104) (zoe q104)
   cases e104
   replace hx104_0 := zkep HB.out hx104_0
   replace hx104_1 := zkep HB.out hx104_1
   replace hx104_2 := zkep HB.out hx104_2
   replace hx104_3 := zkep HB.out hx104_3
   go_wp2_with (first | ((with_reducible refine zgd 9 ?_); refine zbx #[.string (⟨#[]⟩ : ByteArray), .int .i64 0, .int .i64 0, .int .i64 0] 62 ?_; intro gb105 hg w27 hbox hb; have zs := zpair zq2 hb; replace HO_7 := zA (zRb (zq3 HO_7) hb); replace HB := zA (zs.1); have BK105 := zA (hbox); have GW105 := zA (zge hg zs.2); have GE105 := GW105; clear zs hb hbox hg; obtain ⟨hcz28_0, hcz28_1, hcz28_2, hcz28_3, hfz28_0, hfz28_1, hfz28_2, hfz28_3⟩ := zd4 BK105) | ((with_reducible refine zgs 62 9 ?_); refine zse ((((w27.setCell ⟨gb105, 0, none⟩ (.string ((zab l0 x15_1).f0))).setCell ⟨gb105, 1, none⟩ (.int .i64 ((zab l0 x15_1).f1))).setCell ⟨gb105, 2, none⟩ (.int .i64 ((zab l0 x15_1).f2))).setCell ⟨gb105, 3, none⟩ (.int .i64 ((zab l0 x15_1).f3))) ?_; intro w29 hw; have n0_ : Aside0 (Kd.R (Kd.int .i64) 3 w29 w.heap.size (fun _ => True) v102 x7_1) := ⟨(by rw [hw]; exact (zq40 HO_7 BK105))⟩; have n1_ : Aside0 (w29.heap[gb105]? = some (.cells #[.string ((zab l0 x15_1).f0), .int .i64 ((zab l0 x15_1).f1), .int .i64 ((zab l0 x15_1).f2), .int .i64 ((zab l0 x15_1).f3)] 62 (0, 0))) := ⟨(by rw [hw]; exact (zq16 BK105))⟩; have n2_ : Aside0 (Below w.heap.size w w29) := ⟨(by rw [hw]; exact (zq1 GE105))⟩; clear hw; clear HO_7 BK105 HB; have HO_7 := n0_; have BK105 := n1_; have HB := n2_; clear n0_ n1_ n2_; obtain ⟨hcz30_0, hcz30_1, hcz30_2, hcz30_3⟩ := zc4 w29 (.string ((zab l0 x15_1).f0)) (.int .i64 ((zab l0 x15_1).f1)) (.int .i64 ((zab l0 x15_1).f2)) (.int .i64 ((zab l0 x15_1).f3)) BK105.out; obtain ⟨hfz30_0, hfz30_1, hfz30_2, hfz30_3⟩ := zf4 BK105.out; have p26 : 0 ≤ (x15_1 : Int) := zde zq14; have q26 : (x15_1 : Int) < ((x7_1.length : Int) : Int) := zde zq14; obtain ⟨go26, co26, eo26, gb26, gl26, cl26, HG26⟩ := Kd.R_form HO_7.out (by omega); (first | cases eo26 | (injection eo26 with ea_ en_ ec_; (first | subst ea_ | (injection ea_ with ea_; subst ea_)); subst ec_; clear en_)); have GB26 := zA gb26; have GG26 := zA HG26; clear gb26 gl26 HG26; obtain ⟨hx26_0, hf26_0⟩ := Kd.R_celln 0 HO_7.out (x15_1 : Int) p26 q26; replace p26 := eq_true p26; replace q26 := eq_true q26; obtain ⟨hy31_, hz31_⟩ := Kd.R_celln 0 HO_7.out (x15_1 : Int) (zde zq14) (zde zq14); have HP31 := Kd.R_putg HO_7.out (x15_1 : Int) ((zab l0 x15_1).f3)) | ((with_reducible refine zgs 3 56 ?_); refine zse (w29.setCell ⟨go26, (x15_1 : Int).toNat, none⟩ (.int .i64 ((zab l0 x15_1).f3))) ?_; intro w32 hw; have hg : w29.grownBy w32 (some go26) := (by rw [hw]; exact HP31.2); have hp_ : Kd.R (Kd.int .i64) 3 w32 w.heap.size (fun _ => True) (.slice (some ⟨go26, 0, none⟩) x7_1.length co26) y111 := (by rw [hw, Ny111.out]; exact HP31.1); clear HP31; replace BK105 := zA (zgq (g := gb105) (o := .cells #[.string ((zab l0 x15_1).f0), .int .i64 ((zab l0 x15_1).f1), .int .i64 ((zab l0 x15_1).f2), .int .i64 ((zab l0 x15_1).f3)] 62 (0, 0)) (zq6 BK105) hg (Kd.R_ne HO_7.out BK105.out (by decide))); replace HO_7 := zA (hp_); replace HB := zA ((zq32 GB26 : Below w.heap.size w w32)); clear hg hw hp_))
   go_roundg k1
   case measure => have := HK1.out; omega
   case rel => exact ⟨(y111), (wrap64 (x15_1 + 1)), zq5, H', ⟨zq31 HK1⟩, ⟨zq3 HO_7⟩, ⟨zq1 GE105⟩⟩
 rw [if_neg c24] at H
 obtain ⟨c24b0, c24b1⟩ := zbq c24
 revert H
 refine zin fun c33 H => ?_
 revert H
 refine zin fun c34 H => ?_
 revert H
 refine zin fun c35 H => ?_
 revert H
 refine zin fun c36 H => ?_
 replace H := zob H
 obtain ⟨t114, A370, H⟩ := H
 have A37 := zA A370
 clear A370
 revert H
 refine zin fun c38 H => ?_
 obtain ⟨y115, hy115⟩ : ∃ y_ : List Int, y_ = (x7_1.set (x15_1 : Int).toNat t114) := ⟨_, rfl⟩
 rw [← hy115] at H; try with_reducible replace H := zbs H
 have Ny115 := zA hy115
 clear hy115
 have H' := zA H
 clear H
 obtain ⟨p104, q104⟩ := zpq x15_1 l0.length
 obtain ⟨ad104, e104, hx104_0, hx104_1, hx104_2, hx104_3⟩ := znn HR0.out x15_1 (zoe p104) (zoe q104)
 cases e104
 replace hx104_0 := zkep HB.out hx104_0
 replace hx104_1 := zkep HB.out hx104_1
 replace hx104_2 := zkep HB.out hx104_2
 replace hx104_3 := zkep HB.out hx104_3
 try go_wp2_with (first | ((with_reducible refine zgd 9 ?_); refine zbx #[.string (⟨#[]⟩ : ByteArray), .int .i64 0, .int .i64 0, .int .i64 0] 62 ?_; intro gb105 hg w40 hbox hb; have zs := zpair zq2 hb; replace HO_7 := zA (zRb (zq3 HO_7) hb); replace HB := zA (zs.1); have BK105 := zA (hbox); have GW105 := zA (zge hg zs.2); have GE105 := GW105; clear zs hb hbox hg; obtain ⟨hcz41_0, hcz41_1, hcz41_2, hcz41_3, hfz41_0, hfz41_1, hfz41_2, hfz41_3⟩ := zd4 BK105))
 have n0_ : Aside0 (Kd.R (Kd.int .i64) 3 ((((w40.setCell ⟨gb105, 0, none⟩ (.string ((zab l0 x15_1).f0))).setCell ⟨gb105, 1, none⟩ (.int .i64 ((zab l0 x15_1).f1))).setCell ⟨gb105, 2, none⟩ (.int .i64 ((zab l0 x15_1).f2))).setCell ⟨gb105, 3, none⟩ (.int .i64 ((zab l0 x15_1).f3))) w.heap.size (fun _ => True) v102 x7_1) := ⟨zq40 HO_7 BK105⟩
 have n1_ : Aside0 (((((w40.setCell ⟨gb105, 0, none⟩ (.string ((zab l0 x15_1).f0))).setCell ⟨gb105, 1, none⟩ (.int .i64 ((zab l0 x15_1).f1))).setCell ⟨gb105, 2, none⟩ (.int .i64 ((zab l0 x15_1).f2))).setCell ⟨gb105, 3, none⟩ (.int .i64 ((zab l0 x15_1).f3))).heap[gb105]? = some (.cells #[.string ((zab l0 x15_1).f0), .int .i64 ((zab l0 x15_1).f1), .int .i64 ((zab l0 x15_1).f2), .int .i64 ((zab l0 x15_1).f3)] 62 (0, 0))) := ⟨zq16 BK105⟩
 have n2_ : Aside0 (Below w.heap.size w ((((w40.setCell ⟨gb105, 0, none⟩ (.string ((zab l0 x15_1).f0))).setCell ⟨gb105, 1, none⟩ (.int .i64 ((zab l0 x15_1).f1))).setCell ⟨gb105, 2, none⟩ (.int .i64 ((zab l0 x15_1).f2))).setCell ⟨gb105, 3, none⟩ (.int .i64 ((zab l0 x15_1).f3)))) := ⟨zq1 GE105⟩
 (try clear HO_7)
 (try clear BK105)
 (try clear HB)
 generalize ((((w40.setCell ⟨gb105, 0, none⟩ (.string ((zab l0 x15_1).f0))).setCell ⟨gb105, 1, none⟩ (.int .i64 ((zab l0 x15_1).f1))).setCell ⟨gb105, 2, none⟩ (.int .i64 ((zab l0 x15_1).f2))).setCell ⟨gb105, 3, none⟩ (.int .i64 ((zab l0 x15_1).f3))) = w42 at n0_ n1_ n2_ ⊢
 have HO_7 := n0_
 have BK105 := n1_
 have HB := n2_
 clear n0_ n1_ n2_
 replace HO_7 := zA (zRd HO_7.out)
 replace BK105 := zA (zkd BK105.out)
 replace HB := zA (zbd HB.out)
 obtain ⟨Ao44, co44, eo44⟩ := Kd.R_slice HO_7.out
 (first | subst eo44 | (injection eo44 with f1_ f2_ f3_; have f4_ := f1_.symm; have f5_ := f3_.symm; clear f1_ f2_ f3_; subst f4_; subst f5_))
 have p112 : 0 ≤ (((zab l0 x15_1).f1) : Int) := zde zq14
 have q112 : ((zab l0 x15_1).f1) < (x7_1.length : Int) := zde zq14
 obtain ⟨ad112, e112, hx112_0⟩ := Kd.at_int (zRr HO_7.out).2.2 ((zab l0 x15_1).f1) p112 q112
 cases e112
 replace p112 := eq_true p112
 replace q112 := eq_true q112
 have p113 : 0 ≤ (((zab l0 x15_1).f2) : Int) := zde zq14
 have q113 : ((zab l0 x15_1).f2) < (x7_1.length : Int) := zde zq14
 obtain ⟨ad113, e113, hx113_0⟩ := Kd.at_int (zRr HO_7.out).2.2 ((zab l0 x15_1).f2) p113 q113
 obtain rfl : ad112 = ad113 := (by injection e113)
 replace p113 := eq_true p113
 replace q113 := eq_true q113
 refine zne (n := 17) (S := fun w' => w'.cell? ⟨gb105, 0, none⟩ = some (.string ((zab l0 x15_1).f0)) ∧ w'.cell? ⟨gb105, 1, none⟩ = some (.int .i64 ((zab l0 x15_1).f1)) ∧ w'.cell? ⟨gb105, 2, none⟩ = some (.int .i64 ((zab l0 x15_1).f2)) ∧ w'.cell? ⟨gb105, 3, none⟩ = some (.int .i64 ((zab l0 x15_1).f3)) ∧ w'.cell? (ad112.add (((zab l0 x15_1).f1)).toNat) = some (.int .i64 (rd x7_1 ((zab l0 x15_1).f1))) ∧ w'.cell? (ad112.add (((zab l0 x15_1).f2)).toNat) = some (.int .i64 (rd x7_1 ((zab l0 x15_1).f2)))) (ds := [16]) #[false, false, false, false, false, false, false, false, false, false, false, false, false, false, false, false, false] zq23 rfl rfl ⟨(zae BK105.out 0).trans rfl, (zae BK105.out 1).trans rfl, (zae BK105.out 2).trans rfl, (zae BK105.out 3).trans rfl, hx112_0, hx113_0⟩ (fun hHeld => ?_); refine zhk zsr zrr (fun HT_ HW_ => ?_)
 generalize w42.drew = w43 at HO_7 BK105 HB hx112_0 hx113_0 hHeld ⊢
 refine zpu 0 22 HT_ ?_
 refine zpu 1 23 HT_ ?_
 refine zpu 2 24 HT_ ?_
 refine zpu 4 26 HT_ ?_
 refine zpu 5 27 HT_ ?_
 refine zpu 9 31 HT_ ?_
 refine zpu 10 32 HT_ ?_
 refine ztu 3 25 HT_ HW_ hHeld ?_
 refine ztu 6 28 HT_ HW_ hHeld ?_
 refine zpu 7 29 HT_ ?_
 refine ztu 8 30 HT_ HW_ hHeld ?_
 refine ztu 11 33 HT_ HW_ hHeld ?_
 refine zpu 12 34 HT_ ?_
 refine ztu 13 35 HT_ HW_ hHeld ?_
 refine one_ (i := 14) (N := some 36) #[true, true, true, true, true, true, true, true, true, true, true, true, true, true, true, false, false] rfl rfl (zhj HT_.out zq23) (by decide) (fun K hK => ?_)
 refine zgo Tryz.func163 (zeo ((zab l0 x15_1).f0) (rd x7_1 ((zab l0 x15_1).f1)) (rd x7_1 ((zab l0 x15_1).f2)) t114 _ A37.out) ?_
 rintro e w' ⟨rfl, ⟨nd, rfl⟩⟩
 refine ⟨_, rfl, ?_⟩
 have p39 : 0 ≤ (x15_1 : Int) := zde zq14
 have q39 : (x15_1 : Int) < ((x7_1.length : Int) : Int) := zde zq14
 obtain ⟨go39, co39, eo39, gb39, gl39, cl39, HG39⟩ := Kd.R_form HO_7.out (by omega)
 (first | cases eo39 | (injection eo39 with ea_ en_ ec_; (first | subst ea_ | (injection ea_ with ea_; subst ea_)); subst ec_; clear en_))
 have GB39 := zA gb39
 have GG39 := zA HG39
 clear gb39 gl39 HG39
 (first | simp only [zml] at hx112_0 | skip)
 (first | simp only [zml] at hx113_0 | skip)
 obtain ⟨hx39_0, hf39_0⟩ := Kd.R_celln 0 HO_7.out (x15_1 : Int) p39 q39
 replace p39 := eq_true p39
 replace q39 := eq_true q39
 have HP45 := Kd.R_putn HO_7.out (x15_1 : Int) t114
 rw [← Ny115.out] at HP45
 have HQ45 := zA HP45
 clear HP45
 refine hK.out _ _ ⟨(zae BK105.out 0).trans rfl, (zae BK105.out 1).trans rfl, (zae BK105.out 2).trans rfl, (zae BK105.out 3).trans rfl, hHeld.2.2.2.2.1, hHeld.2.2.2.2.2⟩ (fun hHeld => ?_)
 clear hK K
 refine znm 36 ?_
 refine zpu 15 37 HT_ ?_
 refine zzh (i := 16) (N := none) #[true, true, true, true, true, true, true, true, true, true, true, true, true, true, true, true, true] rfl rfl (zhj HT_.out zq23) (by decide) (fun K hK => ?_)
 refine yeb (w1 := ?_) (by rfl) rfl ?_ ?_
 rotate_left
 · go_simp
   rfl
 refine hK.out _ _ ?_
 clear hK K
 refine zrb (zj4 HT_.out zq23) ?_
 try go_wp2
 go_roundg k1
 case measure => have := HK1.out; omega
 case rel => exact ⟨(y115), (wrap64 (x15_1 + 1)), zq5, H', ⟨zq31 HK1⟩, ⟨zq3 HQ45⟩, ⟨zq9 GB39 GE105⟩⟩
def zh0 (k : Nat) (l0 : List (S62)) (a1 : Int) (a2 : Int) : Option (Int) := (zg3 k l0 a1 a2).bind fun t101 => (if 0 ≤ (wrap64 ((l0.length : Int) - 1)) then (if (wrap64 ((l0.length : Int) - 1)) < (t101.length : Int) then (some (rd t101 (wrap64 ((l0.length : Int) - 1)))) else (none)) else (none))
theorem zt5 : ∀ a0 a1 a2 k, LeO (zh0 k a0 a1 a2) (zh0 (k + 1) a0 a1 a2) := by
 intro a0 a1 a2 k
 unfold zh0
 exact zm1 zsq
theorem ztj (k : Nat) (A0 : Option Addr) (c0 : Nat) (l0 : List (S62)) (a1 : Int) (a2 : Int) (r : Int) (w : World) (hr0 : Kd.C k62 w A0 l0.length l0) (hc0 : l0.length ≤ c0) (h : zh0 k l0 a1 a2 = some r) :
   Calls Tryz.prog 93 #[.slice A0 l0.length c0, .int .i64 a1, .int .i64 a2] w fun e w' => e = .returned (.int .i64 r) ∧ Below w.heap.size w w' := by
 have HR0 := zA hr0
 have HC0 := zA hc0
 clear hr0 hc0
 have HB := zA (Below.refl w.heap.size w)
 have H := h
 unfold zh0 at H
 clear h
 replace H := zob H
 obtain ⟨t101, A40, H⟩ := H
 have A4 := zA A40
 clear A40
 obtain ⟨ji5, hji5⟩ : ∃ j_ : Int, (wrap64 ((l0.length : Int) - 1)) = j_ := ⟨_, rfl⟩
 replace H : (if 0 ≤ (ji5) then (if (ji5) < (t101.length : Int) then (some (rd t101 (ji5))) else (none)) else (none)) = some r := by first | (rw [hji5] at H; exact H) | (simp only [hji5] at H ⊢; exact H)
 (try rw [hji5] at A4)
 have hji5w : (IntKind.i64.wrap ((l0.length : Int) - 1)) = ji5 := (zic _).trans hji5
 revert H
 refine zin fun c6 H => ?_
 revert H
 refine zin fun c7 H => ?_
 obtain rfl := zsi H
 go_enter Tryz.func93, Tryz.ntmps93
 go_wp2_with (first | ((with_reducible refine zgc 130 ?_); refine zca 10 Tryz.func130 #[.slice A0 l0.length c0, .int .i64 a1, .int .i64 a2] (zrs k _ _ l0 a1 a2 t101 _ (zq37 HR0) HC0.out A4.out) ?_; rintro e w8 ⟨v102, rfl, ho0, hb⟩; refine ⟨_, rfl, ?_⟩; have HO103 := zA (Kd.R_lower ho0 (zaf zq2)); replace HB := zA (zaa zq2 hb); (try clear hb); (try clear ho0); obtain ⟨Ao9, co9, eo9⟩ := Kd.R_slice HO103.out; subst eo9; have p104 : 0 ≤ ((ji5) : Int) := zde zq14; have q104 : (ji5) < (t101.length : Int) := zde zq14; obtain ⟨ad104, e104, hx104_0⟩ := Kd.at_int (zRr HO103.out).2.2 (ji5) p104 q104; cases e104; replace p104 := eq_true p104; replace q104 := eq_true q104))
 go_ret
 exact ⟨zq57, zq2⟩
def zfa (k : Nat) (a0 : Int) (a1 : Int) (l2 : List (List (S62))) : Option (Int) := if 0 < (l2.length : Int) then ((zh0 k (zw1 l2 0) a0 a1).bind fun t102 => (some t102)) else (none)
theorem zjf : ∀ a0 a1 a2 k, LeO (zfa k a0 a1 a2) (zfa (k + 1) a0 a1 a2) := by
 intro a0 a1 a2 k
 unfold zfa
 exact zm1 zt5
theorem zpe (k : Nat) (a0 : Int) (a1 : Int) (A2 : Option Addr) (c2 : Nat) (l2 : List (List (S62))) (r : Int) (w : World) (hr2 : Kd.C (Kd.slice 62 k62) w A2 l2.length l2) (hc2 : l2.length ≤ c2) (h : zfa k a0 a1 l2 = some r) :
   Calls Tryz.prog 92 #[.int .i64 a0, .int .i64 a1, .pointer A2] w fun e w' => e = .returned (.int .i64 r) ∧ Below w.heap.size w w' := by
 have HR2 := zA hr2
 have HC2 := zA hc2
 clear hr2 hc2
 have HB := zA (Below.refl w.heap.size w)
 have H := h
 unfold zfa at H
 clear h
 by_cases c4 : 0 < (l2.length : Int)
 rotate_left
 · rw [if_neg c4] at H
   exact absurd H (by simp)
 rw [if_pos c4] at H
 have c4b0 := zdt c4
 have c4b1 : decide (0 < l2.length) = true := zdt (by omega)
 clear c4
 replace H := zob H
 obtain ⟨t102, A50, H⟩ := H
 have A5 := zA A50
 clear A50
 obtain rfl := zsi H
 have p101 : 0 ≤ (0 : Int) := (by omega)
 have q101 : 0 < (l2.length : Int) := zde zq14
 obtain ⟨ad101, A101_0, c101_0, e101, hx101_0, hl101_0, hi101_0⟩ := at_L9 HR2.out 0 p101 q101
 cases e101
 have qi101 : (0 < l2.length) = True := eq_true (by omega)
 (try rw [show ((0 : Int)).toNat = 0 from rfl] at hx101_0)
 (try rw [Addr.add_zero'] at hx101_0)
 have HR101_0 := zA hi101_0
 have HC101_0 := zA hl101_0
 clear hi101_0 hl101_0
 replace p101 := eq_true p101
 replace q101 := eq_true q101
 go_enter Tryz.func92, Tryz.ntmps92
 go_wp2_with (first | ((with_reducible refine zgc 93 ?_); refine zca 9 Tryz.func93 #[.slice A101_0 (zw1 l2 0).length c101_0, .int .i64 a0, .int .i64 a1] (ztj k _ _ (zw1 l2 0) a0 a1 t102 _ (zq37 HR101_0) HC101_0.out A5.out) ?_; rintro e w6 ⟨rfl, hb⟩; refine ⟨_, rfl, ?_⟩; replace HB := zA (zaa zq2 hb); (try clear hb)))
 exact zr_4
end Go.Proofs.YtnaafcleafbejaaGreat.Q
end
section
namespace Go.Proofs.YtnaafcleafbejaaGreat.Q
open Go.RowKit Go.Proofs.YtnaafcleafbejaaGreatW.PrintWords Go.Proofs.YtnaafcleafbejaaGreatW.PrintLast Go.Proofs.YtnaafcleafbejaaGreatW.PrintMore
set_option maxHeartbeats 8000000
set_option maxRecDepth 100000
attribute [local go_sem] zbc zbg zb8 zb9 za1 za2 zbi zbj
set_option linter.unusedVariables false
set_option linter.unusedSimpArgs false
mutual
def zar : Nat → List Int → Int → List (List (S62)) → Option (List Int)
 | 0, _, _, _ => none
 | k + 1, x3, x7, x800 => if x7 < 64 then (zas k x3 x7 x7 0 x800) else (some x3)
def zas : Nat → List Int → Int → Int → Int → List (List (S62)) → Option (List Int)
 | 0, _, _, _, _, _ => none
 | k + 1, x3, x4, x7, x10, x800 => if x10 < 64 then ((zfa k x4 x10 x800).bind fun t104 => (if x3.length < 17592186044416 then (zas k (x3 ++ [t104]) x4 x7 (wrap64 (x10 + 1)) x800) else (none))) else (zar k x3 (wrap64 (x7 + 1)) x800)
end
def zb7 (k : Nat) (l0_0 : List (List (S62))) : Option (List Int) := zar k (([] : List Int)) 0 l0_0
theorem zhm : ∀ k, (∀ y0 y1 y2, LeO (zar k y0 y1 y2) (zar (k + 1) y0 y1 y2)) ∧ (∀ y0 y1 y2 y3 y4, LeO (zas k y0 y1 y2 y3 y4) (zas (k + 1) y0 y1 y2 y3 y4))
 | 0 => ⟨fun _ _ _ r h => by simp [zar] at h, fun _ _ _ _ _ r h => by simp [zas] at h⟩
 | k + 1 => by
   obtain ⟨ih0, ih1⟩ := zhm k
   refine ⟨?_, ?_⟩
   · intro y0 y1 y2
     unfold zar
     exact zm3 ih0 ih1 zjf
   · intro y0 y1 y2 y3 y4
     unfold zas
     exact zm3 ih0 ih1 zjf
theorem zk0 : ∀ a0 k, LeO (zb7 k a0) (zb7 (k + 1) a0) := by
 intro a0 k
 obtain ⟨ih0, ih1⟩ := zhm k
 unfold zb7
 exact zm3 ih0 ih1 zjf
theorem zkq (k : Nat) (A0_0 : Option Addr) (c0_0 : Nat) (l0_0 : List (List (S62))) (r : List Int) (w : World) (hr0_0 : Kd.C (Kd.slice 62 k62) w A0_0 l0_0.length l0_0) (hc0_0 : l0_0.length ≤ c0_0) (h : zb7 k l0_0 = some r) :
   Calls Tryz.prog 91 #[.func (Fn.func 92) #[] #[.pointer A0_0]] w fun e w' => ∃ v0_ : Value, e = .returned (v0_) ∧ Kd.R (Kd.int .i64) 3 w' w.heap.size (fun _ => True) v0_ r ∧ Below w.heap.size w w' := by
 have HR0_0 := zA hr0_0
 have HC0_0 := zA hc0_0
 clear hr0_0 hc0_0
 have HB := zA (Below.refl w.heap.size w)
 have H := h
 unfold zb7 at H
 clear h
 obtain ⟨y101, hy101⟩ : ∃ y_ : List Int, y_ = (([] : List Int)) := ⟨_, rfl⟩
 rw [← hy101] at H; try with_reducible replace H := zbs H
 have Ny101 := zA hy101
 clear hy101
 have H' := zA H
 clear H
 go_enter Tryz.func91, Tryz.ntmps91
 go_wp2_with (first | ((with_reducible refine zgd 6 ?_); refine Kd.R_lit (Kd.int .i64) _ 3 ?hg (N := 6) ?hd (xs := ([] : List Int)) (inner := []) (ok := fun _ => True) (okp := fun _ => True) ?hr ?hp (fun _ hk => hk) trivial (Below.refl _ _) (zlr _) (by simp) ?_; (case hd => rfl); (case hg => rfl); (case hr => go_simp <;> rfl); (case hp => exact (Reps.none _ _)); intro v102 w2 ho3 hb hg_ hnew_; clear hg_ hnew_; (first | rw [← Ny101.out] at ho3 | (simp only [Int.reduceToNat] at ho3; rw [← Ny101.out] at ho3)); have HO103 := zA (Kd.R_lower ho3 (zaf zq2)); replace HB := zA (zaa zq2 hb); clear hb ho3))
 go_loopg [3, 7] k (fun kq v3 v7 w' => ∃ (x3_1 : List Int) (x7_1 : Int), v7 = .int .i64 x7_1 ∧ Aside0 (zar kq x3_1 x7_1 l0_0 = some r) ∧ Aside0 (kq ≤ k) ∧ Aside0 (Kd.R (Kd.int .i64) 3 w' w.heap.size (fun _ => True) v3 x3_1) ∧ Aside0 (Below w.heap.size w w'))
 case atStart => exact ⟨(y101), (0), zq5, H', ⟨zlr _⟩, ⟨zq3 HO103⟩, ⟨zq2⟩⟩
 clear H'
 obtain ⟨x3_1, x7_1, rfl, HA, HK1, HO_3, HB⟩ := hrel
 cases gk with
 | zero => exact absurd HA.out (by simp [zar])
 | succ k1 =>
 have H := HA.out
 clear HA
 simp only [zar] at H
 revert H
 refine zit (fun c4 H => ?_) fun c4 H => ?_
 rotate_left
 · obtain rfl := zsi H
   go_wp2
   go_ret
   exact ⟨_, zq4, zq3 HO_3, zq2⟩
 have H' := zA H
 clear H
 go_wp2
 go_loopg [3, 10] k1 (fun kq v3 v10 w' => ∃ (x3_2 : List Int) (x10_2 : Int), v10 = .int .i64 x10_2 ∧ Aside0 (zas kq x3_2 x7_1 x7_1 x10_2 l0_0 = some r) ∧ Aside0 (kq ≤ k1) ∧ Aside0 (Kd.R (Kd.int .i64) 3 w' w.heap.size (fun _ => True) v3 x3_2) ∧ Aside0 (Below w.heap.size w w'))
 case atStart => exact ⟨(x3_1), (0), zq5, H', ⟨zlr _⟩, ⟨zq3 HO_3⟩, ⟨zq2⟩⟩
 clear H'
 try clear c4
 obtain ⟨x3_2, x10_2, rfl, HA, HK2, HO_3, HB⟩ := hrel
 cases gk with
 | zero => exact absurd HA.out (by simp [zas])
 | succ k2 =>
 have H := HA.out
 clear HA
 simp only [zas] at H
 revert H
 refine zit (fun c5 H => ?_) fun c5 H => ?_
 rotate_left
 · have H' := zA H
   clear H
   go_wp2
   go_roundg k2
   case measure => have := HK1.out; have := HK2.out; omega
   case rel => exact ⟨(x3_2), (wrap64 (x7_1 + 1)), zq5, H', ⟨zq39 HK1 HK2⟩, ⟨zq3 HO_3⟩, ⟨zq2⟩⟩
 replace H := zob H
 obtain ⟨t104, A60, H⟩ := H
 have A6 := zA A60
 clear A60
 by_cases c7 : x3_2.length < 17592186044416
 rotate_left
 · rw [if_neg c7] at H
   exact absurd H (by simp)
 rw [if_pos c7] at H
 have LMc7 := zA c7
 clear c7
 obtain ⟨y105, hy105⟩ : ∃ y_ : List Int, y_ = (x3_2 ++ [t104]) := ⟨_, rfl⟩
 rw [← hy105] at H; try with_reducible replace H := zbs H
 have Ny105 := zA hy105
 clear hy105
 have H' := zA H
 clear H
 go_wp2_with (first | (go_at_call 92; (with_reducible refine (zpe k2 x7_1 x10_2 _ c0_0 l0_0 t104 _ ?side1 ?side2 A6.out).mono ?_); (case side1 => repeat (first | exact (zCb HR0_0.out HB.out) | (with_reducible first | refine zCa ?_ _ | refine zCn ?_ _ | refine zCd ?_))); (case side2 => exact HC0_0.out); rintro e w8 ⟨rfl, hb⟩; replace HO_3 := zA (zRb (zq3 HO_3) hb); replace HB := zA (zaa zq2 hb); (try clear hb)) | ((with_reducible refine zez (b := .append) (xs := #[.tmp 13, .tmp 18]) rfl ?_); at_builtin; refine Kd.R_append (Kd.int .i64) (w0 := w) w.heap.size rfl (.tmp 13) (.tmp 18) 24 3 (.int .i64 0) 8 rfl Tryz.underlying24 zl5 rfl (by decide) (by omega) u3 x3_2 t104 [.int .i64 t104] (fun _ => True) (fun _ => False) rfl rfl ?aP (fun _ hk => hk.elim) ?aF ?aO ?aB ?aS ?aL ?_; (case aP => exact rfl); (case aB => exact zq2); (case aF => exact (fun _ _ => trivial)); (case aO => exact (zq3 HO_3)); (case aS => exact (zaf zq2)); (case aL => have := LMc7.out; omega); intro v106 w9 ho hb hg hat; rw [← Ny105.out] at ho; replace HB := zA (hb); have HO107 := zA (ho); clear HO_3; clear ho hb hg hat))
 go_roundg k2
 case measure => have := HK1.out; have := HK2.out; omega
 case rel => exact ⟨(y105), (wrap64 (x10_2 + 1)), zq5, H', ⟨zq39 HK1 HK2⟩, ⟨zq3 HO107⟩, ⟨zq2⟩⟩
end Go.Proofs.YtnaafcleafbejaaGreat.Q
end
section
namespace Go.Proofs.YtnaafcleafbejaaGreat.Q
open Go.RowKit Go.Proofs.YtnaafcleafbejaaGreatW.PrintWords Go.Proofs.YtnaafcleafbejaaGreatW.PrintLast Go.Proofs.YtnaafcleafbejaaGreatW.PrintMore
set_option maxHeartbeats 8000000
set_option maxRecDepth 100000
attribute [local go_sem] zbc zbg zb8 zb9 za1 za2 zbi zbj
set_option linter.unusedVariables false
set_option linter.unusedSimpArgs false
def zfi (k : Nat) (l0 : List (S62)) : Option (List Int) := (zb7 k [l0]).bind fun t102 => (some t102)
theorem znr : ∀ a0 k, LeO (zfi k a0) (zfi (k + 1) a0) := by
 intro a0 k
 unfold zfi
 exact zm1 zk0
theorem zmr (k : Nat) (A0 : Option Addr) (c0 : Nat) (l0 : List (S62)) (r : List Int) (w : World) (hr0 : Kd.C k62 w A0 l0.length l0) (hc0 : l0.length ≤ c0) (h : zfi k l0 = some r) :
   Calls Tryz.prog 57 #[.slice A0 l0.length c0] w fun e w' => ∃ v0_ : Value, e = .returned (v0_) ∧ Kd.R (Kd.int .i64) 3 w' w.heap.size (fun _ => True) v0_ r ∧ Below w.heap.size w w' := by
 have HR0 := zA hr0
 have HC0 := zA hc0
 clear hr0 hc0
 have HB := zA (Below.refl w.heap.size w)
 have H := h
 unfold zfi at H
 clear h
 replace H := zob H
 obtain ⟨t102, A20, H⟩ := H
 have A2 := zA A20
 clear A20
 obtain rfl := zsi H
 go_enter Tryz.func57, Tryz.ntmps57
 go_wp2_with (first | ((with_reducible refine zgd 1 ?_); refine zbx #[.slice A0 l0.length c0] 32 ?_; intro gb101 hg w3 hbox hb; have zs := zpair zq2 hb; replace HB := zA (zs.1); have BK101 := zA (hbox); have GW101 := zA (zge hg zs.2); have GE101 := GW101; clear zs hb hbox hg) | ((with_reducible refine zgc 91 ?_); refine zca 4 Tryz.func91 #[.func (Fn.func 92) #[] #[.pointer (some ⟨gb101, 0, none⟩)]] (zkq k _ 1 [l0] t102 _ (by exact box_C (g := gb101) (o := .cells #[.slice A0 l0.length c0] 32 (0, 0)) (zq6 BK101) rfl ⟨_, _, rfl, (by exact HC0.out), (zq7 HR0)⟩) (by exact zlr _) A2.out) ?_; rintro e w4 ⟨v103, rfl, ho0, hb⟩; refine ⟨_, rfl, ?_⟩; have HO104 := zA (Kd.R_lower ho0 (zaf (zq1 GE101))); replace BK101 := zbb BK101 hb; replace HB := zA (zaa (zq1 GE101) hb); (try clear hb); (try clear ho0)))
 go_ret
 exact ⟨_, zq4, zq3 HO104, zq1 GE101⟩
end Go.Proofs.YtnaafcleafbejaaGreat.Q
end
section
namespace Go.Proofs.YtnaafcleafbejaaGreat.Q
open Go.RowKit Go.Proofs.YtnaafcleafbejaaGreatW.PrintWords Go.Proofs.YtnaafcleafbejaaGreatW.PrintLast Go.Proofs.YtnaafcleafbejaaGreatW.PrintMore
attribute [local go_sem] zbc zbg zb8 zb9 za1 za2 zbi zbj
set_option linter.unusedVariables false
set_option linter.unusedSimpArgs false
def shL (k : Nat) (os : List ByteArray) (ims : List Int) (goal : List Int) (ac : List S69 → List (List Int) → Option Bool) : Nat → Nat → Option (List S69 × Bool)
  | 0, _ => some ([], false)
  | m + 1, i => (pgP k os ims (i : Int) (rcSt k (i : Int) goal (shSt ac)) (([] : List S69), false)).bind fun r => if r.2.2 = true then some (r.2.1, true) else shL k os ims goal ac m (i + 1)
def shF (k : Nat) (l0 : List S62) (os : List ByteArray) (ims : List Int) (most : Int) (ac : List S69 → List (List Int) → Option Bool) : Option (List S69 × Bool) :=
  (zfq k l0 os ims most).bind fun ok => if ok = true then if 0 ≤ most ∧ most < 1048576 then (zfi k l0).bind fun tb => (zc9 k tb).bind fun goal => shL k os ims goal ac (most + 1).toNat 0 else none else some ([], false)
section
variable {fa : FuncId} {ea : Array Value} {ac : List S69 → List (List Int) → Option Bool}
set_option maxHeartbeats 8000000 in
set_option maxRecDepth 100000 in
theorem zy2 (k : Nat) (hA : AccC fa ea ac) (A0 : Option Addr) (c0 : Nat) (l0 : List S62) (Ao : Option Addr) (co : Nat) (os : List ByteArray) (Ai : Option Addr) (ci : Nat) (ims : List Int) (most : Int) (r1 : List S69) (r2 : Bool) (w : World) (hr0 : Kd.C k62 w A0 l0.length l0) (hc0 : l0.length ≤ c0)
    (hro : Kd.C Kd.string w Ao os.length os) (hco : os.length ≤ co) (hri : Kd.C (Kd.int .i64) w Ai ims.length ims) (hci : ims.length ≤ ci) (h : shF k l0 os ims most ac = some (r1, r2)) :
    Calls Tryz.prog 43 #[.slice A0 l0.length c0, .agg #[.slice Ao os.length co, .slice Ai ims.length ci], .int .i64 most, .func (.func fa) #[] ea] w fun e w' => ∃ v0_ : Value, e = .returned (.tuple #[v0_, .bool r2]) ∧ Kd.R k69 69 w' w.heap.size (fun _ => True) v0_ r1 ∧ Below w.heap.size w w' := by
  have HA := Aside0.mk hA
  have HE := Aside0.mk hr0
  have HCE := Aside0.mk hc0
  have HO := Aside0.mk hro
  have HM := Aside0.mk hri
  have HCO := Aside0.mk hco
  have HCI := Aside0.mk hci
  unfold shF at h
  obtain ⟨ok, hok, h⟩ := Option.bind_eq_some_iff.1 h
  have HOK := Aside0.mk hok
  have HH := Aside0.mk h
  clear hA hr0 hc0 hro hri hco hci hok h
  go_enter Tryz.func43, Tryz.ntmps43
  go_upto_region 1 with fail
  obtain ⟨W0, hW0⟩ : ∃ W0, (w.alloc (.cells #[.slice Ao os.length co, .slice Ai ims.length ci] 34)).alloc (.cells #[.func (.func fa) #[] ea] 66) = W0 := ⟨_, rfl⟩
  have HB := Aside0.mk (show Below w.heap.size w W0 from hW0 ▸ zba (zba (Below.refl _ _) _) _)
  have B1 := Aside0.mk (show W0.heap[w.heap.size]? = some (.cells #[.slice Ao os.length co, .slice Ai ims.length ci] 34 (0, 0)) from hW0 ▸ zka (zi4 w _) _)
  have B2 := Aside0.mk (show W0.heap[w.heap.size + 1]? = some (.cells #[.func (.func fa) #[] ea] 66 (0, 0)) by rw [← hW0]; simpa using zi4 (w.alloc (.cells #[.slice Ao os.length co, .slice Ai ims.length ci] 34)) (.cells #[.func (.func fa) #[] ea] 66))
  rw [hW0]
  clear hW0
  have q1 := zae B1.out 0
  have q2 := zae B1.out 1
  cases ok with
  | false =>
    obtain ⟨rfl, rfl⟩ := Prod.mk.inj (Option.some.inj ((if_neg (by decide)).symm.trans HH.out))
    clear HH
    go_wp2_with (go_at_call 55; go_must (refine (zl9 k A0 c0 l0 Ao co os Ai ci ims most false _ (Kd.C_below HE.out HB.out) HCE.out (Kd.C_below HO.out HB.out) HCO.out (Kd.C_below HM.out HB.out) HCI.out HOK.out).mono ?_; rintro e w1 ⟨rfl, hb⟩; have HB1 := Aside0.mk (zaa HB.out hb); clear hb))
    go_ret2
    exact ⟨_, rfl, Kd.R_nil _ _ _ _ _, (by repeat (first | exact HB1.out | apply zbn | apply zbd))⟩
  | true =>
    have h := HH.out
    rw [if_pos rfl] at h
    have hmo : 0 ≤ most ∧ most < 1048576 := by
      by_cases q : 0 ≤ most ∧ most < 1048576
      · exact q
      · rw [if_neg q] at h
        cases h
    rw [if_pos hmo] at h
    obtain ⟨tb, htb, h⟩ := Option.bind_eq_some_iff.1 h
    obtain ⟨goal, hgo, h⟩ := Option.bind_eq_some_iff.1 h
    have HMO := Aside0.mk hmo
    have HTB := Aside0.mk htb
    have HGO := Aside0.mk hgo
    have HL := Aside0.mk h
    have hwm : wrap64 (most + 1) = most + 1 := by unfold wrap64; omega
    have HWM := Aside0.mk hwm
    clear HH h hmo htb hgo hwm
    go_wp2_with (first
      | (go_at_call 55; go_must (refine (zl9 k A0 c0 l0 Ao co os Ai ci ims most true _ (Kd.C_below HE.out HB.out) HCE.out (Kd.C_below HO.out HB.out) HCO.out (Kd.C_below HM.out HB.out) HCI.out HOK.out).mono ?_; rintro e w1 ⟨rfl, hb⟩; have HB1 := Aside0.mk hb; clear hb))
      | (go_at_call 57; go_must (refine (zmr k A0 c0 l0 tb _ (Kd.C_below HE.out (zaa HB.out HB1.out)) HCE.out HTB.out).mono ?_; rintro e w2 ⟨vt, rfl, hR, hb⟩; have HB2 := Aside0.mk (zaa HB1.out hb); obtain ⟨At, ct, rfl⟩ := Kd.R_slice hR; have HR2 := Aside0.mk (Kd.R_reads' hR).2; clear hR hb))
      | (go_at_call 56; go_must (refine (zhy k At ct tb goal _ HR2.out.2 HR2.out.1 HGO.out).mono ?_; rintro e w3 ⟨vg, rfl, hR, hb⟩; have HB3 := Aside0.mk (zaa HB2.out hb); obtain ⟨Ag, cg, rfl⟩ := Kd.R_slice hR; have HR3 := Aside0.mk hR; have B13 := Aside0.mk (zai B1.out HB3.out); have B23 := Aside0.mk (zai B2.out HB3.out); have HBW := Aside0.mk (zaa HB.out HB3.out); clear hR hb HR2 HB2 HB1 HB B1 B2 HOK HTB HGO q1 q2)))
    rw [HWM.out]
    go_loopw [24] (fun v24 wr => ∃ (i m : Nat), v24 = .int .i64 (i : Int) ∧ i + m = (most + 1).toNat ∧ Aside0 (shL k os ims goal ac m i = some (r1, r2)) ∧ Aside0 (Below w3.heap.size w3 wr)) (fun v24 _ => (most + 1).toNat - (intOf v24).toNat)
    case atStart => exact ⟨0, _, rfl, by simp, HL, ⟨(by repeat (first | exact Below.refl _ _ | apply zbn | apply zbd))⟩⟩
    case round =>
      clear HL
      obtain ⟨i, m, rfl, him, HL, HBR⟩ := hrel
      have BC := Aside0.mk (zai B13.out HBR.out)
      have BA := Aside0.mk (zai B23.out HBR.out)
      have q1 := zae BC.out 0
      have q2 := zae BC.out 1
      cases m with
      | zero =>
        obtain ⟨rfl, rfl⟩ := Prod.mk.inj (Option.some.inj (show some (([] : List S69), false) = some (r1, r2) from HL.out))
        have hmo := HMO.out
        have d1 : decide ((i : Int) < most + 1) = false := decide_eq_false (by omega)
        clear hmo him HL
        go_wp2_with fail
        go_ret2
        exact ⟨_, rfl, Kd.R_nil _ _ _ _ _, (zaa HBW.out (by repeat (first | exact HBR.out | apply zbn | apply zbd)))⟩
      | succ m =>
        have hmo := HMO.out
        have d1 : decide ((i : Int) < most + 1) = true := decide_eq_true (by omega)
        have hw : wrap64 ((i : Int) + 1) = ((i + 1 : Nat) : Int) := by unfold wrap64; omega
        have HW := Aside0.mk hw
        have h := HL.out
        simp only [shL] at h
        obtain ⟨⟨b, out, found⟩, hp, h⟩ := Option.bind_eq_some_iff.1 h
        have HP := Aside0.mk hp
        have HN := Aside0.mk h
        have HIM := Aside0.mk him
        clear h hp HL hw hmo him
        go_upto_if 32 with (first
            | ((with_reducible refine zkx (N := 12) rfl ?_); go_must (refine zh9 ?hg (N := 12) ?hd (cs := #[.slice none 0 0]) (t := 29) ?hr ?_; (case hd => rfl); (case hg => rfl); (case hr => first | (go_simp; done) | (go_simp; rfl)); intro go hg w5 hbox hb; have GO := Aside0.mk hg; have BO := Aside0.mk hbox; have HB5 := Aside0.mk hb; clear hg hbox hb))
            | ((with_reducible refine zkx (N := 13) rfl ?_); go_must (refine zh9 ?hg (N := 13) ?hd (cs := #[.bool false]) (t := 4) ?hr ?_; (case hd => rfl); (case hg => rfl); (case hr => first | (go_simp; done) | (go_simp; rfl)); intro gf hg w6 hbox hb; have GF := Aside0.mk hg; have BF := Aside0.mk hbox; have HB6 := Aside0.mk hb; have BO6 := Aside0.mk (zai BO.out hb); clear hg hbox hb))
            | ((with_reducible refine zi1 (t := 29) (p := 12) rfl ?_); go_must (refine ziv rfl (t := 29) (p := 12) rfl rfl (g := go) (u := .slice none 0 0) (seg := [.slice none 0 0]) rfl rfl BO6.out rfl rfl rfl (by simp [Value.oneCell']) ?_; intro w7 hbb hbw hfar; have HZ := Aside0.mk (show wr.heap.size ≤ go ∧ go < gf by have h1 := GO.out; have h2 := GF.out; have h3 := HB5.out.size; have h4 := ze7 BO.out; first | omega | (simp at h1; omega)); have BO7 := Aside0.mk hbb; have BF7 := Aside0.mk ((hfar gf (by have := HZ.out; omega)).trans BF.out); have HB7 := Aside0.mk ((zaa HB5.out HB6.out).trans (hbw _ (by have := HZ.out; have h1 := GO.out; first | omega | (simp at h1; omega)))); clear hbb hbw hfar))
            | ((with_reducible refine zi1 (t := 4) (p := 13) rfl ?_); go_must (refine ziv rfl (t := 4) (p := 13) rfl rfl (g := gf) (u := .bool false) (seg := [.bool false]) rfl rfl BF7.out rfl rfl rfl (by simp [Value.oneCell']) ?_; intro w8 hbb hbw hfar; have HB8 := Aside0.mk (show Below wr.heap.size wr w8 from (show Below wr.heap.size wr w7 from HB7.out.mono (by simp)).trans (hbw _ (by have := HZ.out; omega))); have HI8 := Aside0.mk (show ShI w3 fa ea (w.heap.size + 1) go gf ([], false) w8 from ⟨zaa HBR.out HB8.out, ⟨by have := HZ.out; have := HBR.out.size; omega, by have := HZ.out; have := HBR.out.size; have := ze7 B23.out; omega, HZ.out.2⟩, zai BA.out HB8.out, ⟨_, (hfar go (by have := HZ.out; omega)).trans BO7.out, Kd.R_nil _ _ _ _ _⟩, hbb⟩); have q1 := zae (zai BC.out HB8.out) 0; have q2 := zae (zai BC.out HB8.out) 1; clear hbb hbw hfar))
            | (go_at_call 58; go_must (refine (zzu k (yfd HA.out) Ao co os Ai ci ims (i : Int) Ag cg goal ([], false) _ b w8 HI8.out (show ∀ k, (k = go ∨ k = gf) → k < w8.heap.size from by have h1 := ze7 HI8.out.bf; have h2 := HI8.out.hs; rintro k (rfl | rfl) <;> omega) (Kd.C_below HO.out (zaa HBW.out HI8.out.below)) HCO.out (Kd.C_below HM.out (zaa HBW.out HI8.out.below)) HCI.out (Kd.R_reads' HR3.out).2.1 (fun W' hk => (Kd.R_reads' (Kd.R_step (Kd.R_bound HR3.out) (fun k hk' hlt => (hk.2 k (Nat.lt_of_lt_of_le hlt HI8.out.below.size) (by have h2 := HI8.out.hs; rintro ⟨(rfl | rfl), _⟩ <;> omega)).trans (HI8.out.below.block k hlt)))).2.2) HP.out).mono ?_; rintro e w9 ⟨u, rfl, hI, hK⟩; obtain ⟨vo, ho, hro⟩ := hI.bo; have HI9 := Aside0.mk hI; have RO := Aside0.mk hro; have q3 := zae hI.bf 0; have q4 := zae ho 0; clear hI hK ho hro)))
        cases found with
        | true =>
          obtain ⟨rfl, rfl⟩ := Prod.mk.inj (Option.some.inj ((if_pos rfl).symm.trans HN.out))
          clear HN
          go_wp2_with fail
          go_ret2
          exact ⟨_, rfl, Kd.R_lower (Kd.R_mono RO.out (fun _ _ => trivial)) HBW.out.size, zaa HBW.out HI9.out.below⟩
        | false =>
          have HN := Aside0.mk (show shL k os ims goal ac m (i + 1) = some (r1, r2) from HN.out)
          go_wp2_with fail
          go_roundw
          case rel => exact ⟨i + 1, m, by rw [HW.out], by have := HIM.out; omega, HN, ⟨(HI9.out.step (by repeat (first | exact Below.refl _ _ | apply zbn | apply zbd))).below⟩⟩
          case measure => rw [HW.out]; have := HIM.out; simp [intOf]; omega
end
end Go.Proofs.YtnaafcleafbejaaGreat.Q
end
section
namespace Go.Proofs.YtnaafcleafbejaaGreat.Q
open Go.RowKit Go.Proofs.YtnaafcleafbejaaGreatW.PrintWords
set_option linter.unusedVariables false
theorem zu6 {σ : Type} (g g' : S69 → σ → Option (Bool × σ)) (h : ∀ x s, LeO (g x s) (g' x s)) : ∀ xs s, LeO (pgL g xs s) (pgL g' xs s)
  | [], _ => LeO.refl _
  | x :: xs, s => LeO.bind (h x s) (fun r => zea (zu6 g g' h xs r.2) (LeO.refl _))
theorem zw4 (k : Nat) (n : Int) (j : Nat) (cols : List (List Int)) (x : S69) : LeO (zqf k n j cols x) (zqf (k + 1) n j cols x) :=
  zea (LeO.bind (zsn _ _ _ _ _ _ _) (fun _ => LeO.refl _)) (LeO.refl _)
theorem zx3 {σ : Type} (k : Nat) (lists : List (List S69)) (n : Int) (st st' : List S69 → List (List Int) → σ → Option (Bool × σ)) (h : ∀ c cs s, LeO (st c cs s) (st' c cs s)) : ∀ d code cols s, LeO (pgM k lists n st d code cols s) (pgM (k + 1) lists n st' (d + 1) code cols s)
  | 0, _, _, _ => LeO.none _
  | d + 1, code, cols, s => zea (h _ _ _) (zea (zu6 _ _ (fun x s => LeO.bind (zw4 k n _ cols x) (fun nx => zx3 k lists n st st' h d _ nx s)) _ s) (LeO.refl _))
theorem zvy (k : Nat) (os : List ByteArray) (ims : List Int) : ∀ m ls, LeO (pgGo k os ims m ls) (pgGo (k + 1) os ims m ls)
  | 0, _ => LeO.refl _
  | m + 1, ls => zea (LeO.bind (ztf _ _ _ _) (fun xs => zvy k os ims m _)) (LeO.refl _)
theorem zx4 {σ : Type} (k : Nat) (os : List ByteArray) (ims : List Int) (n : Int) (st st' : List S69 → List (List Int) → σ → Option (Bool × σ)) (h : ∀ c cs s, LeO (st c cs s) (st' c cs s)) (s : σ) : LeO (pgP k os ims n st s) (pgP (k + 1) os ims n st' s) :=
  LeO.bind (zvy k os ims _ _) (fun ls => LeO.bind (ztg _) (fun cs => zea (zx3 k ls n st st' h k [] cs s) (LeO.refl _)))
theorem zzv (k : Nat) (n : Int) (goal : List Int) (code : List S69) (cols : List (List Int)) : LeO (rcIs k n goal code cols) (rcIs (k + 1) n goal code cols) :=
  zea (zea (zon _ _ _) (LeO.refl _)) (zea (zqg _ _ _ _ _ _ _ _) (LeO.refl _))
theorem zvz {σ : Type} (k : Nat) (n : Int) (goal : List Int) (st st' : List S69 → List (List Int) → σ → Option (Bool × σ)) (h : ∀ c cs s, LeO (st c cs s) (st' c cs s)) (c : List S69) (cs : List (List Int)) (s : σ) : LeO (rcSt k n goal st c cs s) (rcSt (k + 1) n goal st' c cs s) :=
  LeO.bind (zzv k n goal c cs) (fun b => zea (h c cs s) (LeO.refl _))
theorem zzw (ac ac' : List S69 → List (List Int) → Option Bool) (h : ∀ c cs, LeO (ac c cs) (ac' c cs)) (c : List S69) (cs : List (List Int)) (s : List S69 × Bool) : LeO (shSt ac c cs s) (shSt ac' c cs s) :=
  LeO.bind (h c cs) (fun a => LeO.refl _)
theorem zx5 (k : Nat) (os : List ByteArray) (ims : List Int) (goal : List Int) (ac ac' : List S69 → List (List Int) → Option Bool) (h : ∀ c cs, LeO (ac c cs) (ac' c cs)) : ∀ m i, LeO (shL k os ims goal ac m i) (shL (k + 1) os ims goal ac' m i)
  | 0, _ => LeO.refl _
  | m + 1, i => LeO.bind (zx4 k os ims _ _ _ (zvz k _ goal _ _ (zzw ac ac' h)) _) (fun r => zea (LeO.refl _) (zx5 k os ims goal ac ac' h m (i + 1)))
theorem yby (k : Nat) (l0 : List S62) (os : List ByteArray) (ims : List Int) (most : Int) (ac ac' : List S69 → List (List Int) → Option Bool) (h : ∀ c cs, LeO (ac c cs) (ac' c cs)) : LeO (shF k l0 os ims most ac) (shF (k + 1) l0 os ims most ac') :=
  LeO.bind (zqk _ _ _ _ _) (fun ok => zea (zea (LeO.bind (znr _ _) (fun tb => LeO.bind (zjq _ _) (fun goal => zx5 k os ims goal ac ac' h _ _))) (LeO.refl _)) (LeO.refl _))
end Go.Proofs.YtnaafcleafbejaaGreat.Q
end
section
namespace Go.Proofs.YtnaafcleafbejaaGreat.Q
open Go.RowKit Go.Proofs.YtnaafcleafbejaaGreatW.PrintWords Go.Proofs.YtnaafcleafbejaaGreatW.PrintLast Go.Proofs.YtnaafcleafbejaaGreatW.PrintMore
set_option maxHeartbeats 8000000
set_option maxRecDepth 100000
attribute [local go_sem] zbc zbg zb8 zb9 za1 za2 zbi zbj
set_option linter.unusedVariables false
set_option linter.unusedSimpArgs false
set_option linter.unusedVariables false
def zfx (k : Nat) (l0 : List S62) (l1_0 : List ByteArray) (l1_1 : List Int) (a2 : Int) : Option (List S69 × Bool) := shF k l0 l1_0 l1_1 a2 (fun _ _ => some true)
theorem zow : ∀ a0 a1 a2 a3 k, LeO (zfx k a0 a1 a2 a3) (zfx (k + 1) a0 a1 a2 a3) := fun a0 a1 a2 a3 k => yby k a0 a1 a2 a3 _ _ (fun _ _ => LeO.refl _)
theorem zoo (k : Nat) (A0 : Option Addr) (c0 : Nat) (l0 : List S62) (A1_0 : Option Addr) (c1_0 : Nat) (l1_0 : List ByteArray) (A1_1 : Option Addr) (c1_1 : Nat) (l1_1 : List Int) (a2 : Int) (r1 : List S69) (r2 : Bool) (w : World) (hr0 : Kd.C k62 w A0 l0.length l0) (hc0 : l0.length ≤ c0) (hr1_0 : Kd.C Kd.string w A1_0 l1_0.length l1_0) (hc1_0 : l1_0.length ≤ c1_0) (hr1_1 : Kd.C (Kd.int .i64) w A1_1 l1_1.length l1_1) (hc1_1 : l1_1.length ≤ c1_1) (h : zfx k l0 l1_0 l1_1 a2 = some (r1, r2)) :
   Calls Tryz.prog 13 #[.slice A0 l0.length c0, .agg #[.slice A1_0 l1_0.length c1_0, .slice A1_1 l1_1.length c1_1], .int .i64 a2] w fun e w' => ∃ v0_ : Value, e = .returned (.tuple #[v0_, .bool r2]) ∧ Kd.R k69 69 w' w.heap.size (fun _ => True) v0_ r1 ∧ Below w.heap.size w w' := by
 have HR0 := zA hr0
 have HC0 := zA hc0
 have HR1 := zA hr1_0
 have HC1 := zA hc1_0
 have HR2 := zA hr1_1
 have HC2 := zA hc1_1
 have H := zA h
 clear hr0 hc0 hr1_0 hc1_0 hr1_1 hc1_1 h
 go_enter Tryz.func13, Tryz.ntmps13
 go_wp2_with (go_at_call 43; go_must (
   obtain ⟨W0, hW0⟩ : ∃ W0, w.alloc (.cells #[.slice A1_0 l1_0.length c1_0, .slice A1_1 l1_1.length c1_1] 34) = W0 := ⟨_, rfl⟩
   have hb0 : Below w.heap.size w W0 := hW0 ▸ zba (Below.refl _ _) _
   rw [hW0]
   clear hW0
   refine (zy2 k yfe A0 c0 l0 A1_0 c1_0 l1_0 A1_1 c1_1 l1_1 a2 r1 r2 W0 (zCb HR0.out hb0) HC0.out (zCb HR1.out hb0) HC1.out (zCb HR2.out hb0) HC2.out H.out).mono ?_
   rintro e w1 ⟨v0, rfl, hR, hb⟩
   have HR := zA (Kd.R_lower hR hb0.size)
   have HB := zA (zaa hb0 hb)
   obtain ⟨Ax, cx, rfl⟩ := Kd.R_slice hR
   clear hR hb hb0))
 go_ret2
 exact ⟨_, rfl, HR.out, by repeat (first | exact HB.out | apply zbn | apply zbd)⟩
end Go.Proofs.YtnaafcleafbejaaGreat.Q
end
section
namespace Go.Proofs.YtnaafcleafbejaaGreat.Q
open Go.RowKit Go.Proofs.YtnaafcleafbejaaGreatW.PrintWords Go.Proofs.YtnaafcleafbejaaGreatW.PrintLast Go.Proofs.YtnaafcleafbejaaGreatW.PrintMore
set_option maxHeartbeats 8000000
set_option maxRecDepth 100000
attribute [local go_sem] zbc zbg zb8 zb9 za1 za2 zbi zbj
set_option linter.unusedVariables false
set_option linter.unusedSimpArgs false
def zec (k : Nat) (l0 : List (S62)) (l1_0 : List ByteArray) (l1_1 : List Int) (a2 : Int) : Option (Int × Bool) := (zfx k l0 l1_0 l1_1 a2).bind fun bt102 => (some ((bt102.1.length : Int), bt102.2))
theorem zox : ∀ a0 a1 a2 a3 k, LeO (zec k a0 a1 a2 a3) (zec (k + 1) a0 a1 a2 a3) := by
 intro a0 a1 a2 a3 k
 unfold zec
 exact zm1 zow
theorem zkb (k : Nat) (A0 : Option Addr) (c0 : Nat) (l0 : List (S62)) (A1_0 : Option Addr) (c1_0 : Nat) (l1_0 : List ByteArray) (A1_1 : Option Addr) (c1_1 : Nat) (l1_1 : List Int) (a2 : Int) (r1 : Int) (r2 : Bool) (w : World) (hr0 : Kd.C k62 w A0 l0.length l0) (hc0 : l0.length ≤ c0) (hr1_0 : Kd.C Kd.string w A1_0 l1_0.length l1_0) (hc1_0 : l1_0.length ≤ c1_0) (hr1_1 : Kd.C (Kd.int .i64) w A1_1 l1_1.length l1_1) (hc1_1 : l1_1.length ≤ c1_1) (h : zec k l0 l1_0 l1_1 a2 = some (r1, r2)) :
   Calls Tryz.prog 66 #[.slice A0 l0.length c0, .agg #[.slice A1_0 l1_0.length c1_0, .slice A1_1 l1_1.length c1_1], .int .i64 a2] w fun e w' => e = .returned (.tuple #[.int .i64 r1, .bool r2]) ∧ Below w.heap.size w w' := by
 have hu34 := Tryz.underlying34
 have HR0 := zA hr0
 have HC0 := zA hc0
 clear hr0 hc0
 have HR1_0 := zA hr1_0
 have HC1_0 := zA hc1_0
 clear hr1_0 hc1_0
 have HR1_1 := zA hr1_1
 have HC1_1 := zA hc1_1
 clear hr1_1 hc1_1
 have HB := zA (Below.refl w.heap.size w)
 have H := h
 unfold zec at H
 clear h
 replace H := zob H
 obtain ⟨⟨t102, t105⟩, A40, H⟩ := H
 have A4 := zA A40
 clear A40
 simp only [Option.some.injEq, Prod.mk.injEq] at H
 obtain ⟨rfl, rfl⟩ := H
 go_enter Tryz.func66, Tryz.ntmps66
 go_wp2_with (first | ((with_reducible refine zgd 4 ?_); refine zbh zq2 #[.slice A1_0 l1_0.length c1_0, .slice A1_1 l1_1.length c1_1] 34 ?_; clear HB; intro gb101 w5 HB BK101 GW101; have GE101 := GW101; obtain ⟨hcz6_0, hcz6_1, hfz6_0, hfz6_1⟩ := zd2 BK101) | ((with_reducible refine zgc 13 ?_); refine zca 14 Tryz.func13 #[.slice A0 l0.length c0, .agg #[.slice A1_0 l1_0.length c1_0, .slice A1_1 l1_1.length c1_1], .int .i64 a2] (zoo k _ _ l0 _ _ l1_0 _ _ l1_1 a2 t102 t105 _ (zq7 HR0) HC0.out (zq7 HR1_0) HC1_0.out (zq7 HR1_1) HC1_1.out A4.out) ?_; rintro e w7 ⟨v103, rfl, ho0, hb⟩; refine ⟨_, rfl, ?_⟩; have HO104 := zA (Kd.R_lower ho0 (zaf (zq1 GE101))); replace BK101 := zbb BK101 hb; replace HB := zA (zaa (zq1 GE101) hb); (try clear hb); (try clear ho0); obtain ⟨Ao8, co8, eo8⟩ := Kd.R_slice HO104.out; subst eo8))
 go_ret2
 exact ⟨zq4, zq1 GE101⟩
end Go.Proofs.YtnaafcleafbejaaGreat.Q
end
section
namespace Go.Proofs.YtnaafcleafbejaaGreat.Q
open Go.RowKit Go.Proofs.YtnaafcleafbejaaGreatW.PrintWords Go.Proofs.YtnaafcleafbejaaGreatW.PrintLast Go.Proofs.YtnaafcleafbejaaGreatW.PrintMore
attribute [local go_sem] zbc zbg zb8 zb9 za1 za2 zbi zbj
set_option linter.unusedVariables false
set_option linter.unusedSimpArgs false
theorem rm_S {P : Program} {ops : Array Oper} {o : Oper} {b : Act} {V0 : World} {R : Value → World → Prop} {Q : Exit → Act → World → Prop} {α : Type} (d : Kd α) (base : Nat) (hw : Region.wanted o (yielded ops b.tmps) = true) (s x : Operand) (t e : TypeId) (z : Value) (bytes : Nat)
    (ho : o.op = .call { callee := .builtin .append, args := #[s, x], argTypes := #[t, t] })
    (ht : P.underlying t = some (.slice e)) (hinfo : (P.info? e).map (fun i => (i.zero, i.size, i.bytes)) = some (some z, d.sz, bytes)) (hz : z.cells.size = d.sz) (hs0 : 0 < d.sz) (hb0 : 0 < bytes)
    (v : Value) (xs : List α) (p : α) (cs : List Value) (ok okp : Nat → Prop) (hs : b.eval s = v) (hx : b.eval x = .slice (some ⟨V0.heap.size, 0, none⟩) 1 1) (hp : d.M V0 base okp p cs) (hokp : ∀ k, okp k → ok k ∧ some k ≠ v.ownBlock) (hfresh : ∀ k, V0.heap.size ≤ k → ok k)
    (HO : Kd.S d e V0 base (fun k => ok k ∧ ¬ okp k) v xs) (hbase : base ≤ V0.heap.size) (hl : (xs.length + 1) * bytes ≤ 140737488355328)
    (h : ∀ v1 w1, Kd.S d e w1 base ok v1 (xs ++ [p]) → Below base V0 w1 → V0.grownBy w1 v.ownBlock → (v1.ownBlock = v.ownBlock ∨ ∃ b, v1.ownBlock = some b ∧ V0.heap.size ≤ b) → R v1 w1) :
    zli P Q ops o b R (V0.alloc (.cells cs.toArray e)) := fun K hK =>
  Kd.S_append_step (w0 := V0) (Kc := K) d base hw s x t e z bytes ho ht hinfo hz hs0 hb0 v xs p cs ok okp hs hx hp hokp hfresh HO (Below.refl _ _) hbase hl (fun v1 w1 h1 h2 h3 h4 => hK v1 w1 (h v1 w1 h1 h2 h3 h4))
def alB (g0 go : Nat) : Bs where
  B := fun W k => k < W.heap.size ∧ (k = go ∨ k = g0 ∨ (go < k ∧ ∃ v, W.heap[go]? = some (.cells #[v] 43 (0, 0)) ∧ v.ownBlock = some k))
  ok := fun W => g0 < go ∧ go < W.heap.size ∧ ∀ v k, W.heap[go]? = some (.cells #[v] 43 (0, 0)) → v.ownBlock = some k → k < W.heap.size
  lt := fun h => h.1
  st := by
    intro W W1 k hb h
    by_cases q : k < W.heap.size
    · refine .inl ⟨q, ?_⟩
      rcases h.2 with h | h | ⟨h1, v, h2, h3⟩
      · exact .inl h
      · exact .inr (.inl h)
      · exact .inr (.inr ⟨h1, v, (hb.block go (by omega)).symm.trans h2, h3⟩)
    · exact .inr (by omega)
  okb := by
    intro W W1 hb ⟨h0, h1, h2⟩
    exact ⟨h0, Nat.lt_of_lt_of_le h1 hb.size, fun v k hv hk => Nat.lt_of_lt_of_le (h2 v k ((hb.block go h1).symm.trans hv) hk) hb.size⟩
  old := by
    intro W W1 k ⟨h0, h1, h2⟩ hb h
    rcases h.2 with h | h | ⟨h3, v, h4, h5⟩
    · omega
    · omega
    · exact h2 v k ((hb.block go h1).symm.trans h4) h5
def alSt (code : List S69) (_cols : List (List Int)) (s : List (List S69)) : Option (Bool × List (List S69)) :=
  if code.length < 1048576 ∧ s.length < 1048576 then some (decide (((s ++ [code]).length : Int) ≤ 50), s ++ [code]) else none
structure AlI (w0 : World) (g0 go : Nat) (s : List (List S69)) (W : World) : Prop where
  below : Below w0.heap.size w0 W
  hs : w0.heap.size ≤ g0 ∧ g0 < go
  bo : ∃ vo, W.heap[go]? = some (.cells #[vo] 43 (0, 0)) ∧ Kd.S (Kd.slice 69 k69) 29 W g0 (fun k => k = g0 ∨ go < k) vo s
structure AlG (w0 : World) (g0 go : Nat) (vo v1 : Value) (s1 : List (List S69)) (W V : World) : Prop where
  below : Below w0.heap.size w0 V
  size : W.heap.size ≤ V.heap.size
  old : ∀ k, k < W.heap.size → some k ≠ vo.ownBlock → V.heap[k]? = W.heap[k]?
  row : Kd.S (Kd.slice 69 k69) 29 V g0 (fun k => k = g0 ∨ go < k) v1 s1
  own : v1.ownBlock = vo.ownBlock ∨ ∃ b, v1.ownBlock = some b ∧ W.heap.size ≤ b
section
variable {w0 : World} {g0 go : Nat}
theorem AlI.step {s : List (List S69)} {W W1 : World} (h : AlI w0 g0 go s W) (hb : Below W.heap.size W W1) : AlI w0 g0 go s W1 :=
  ⟨zaa h.below hb, h.hs, let ⟨vo, h1, h2⟩ := h.bo; ⟨vo, zai h1 hb, Kd.S_below h2 hb⟩⟩
theorem AlI.okk {s : List (List S69)} {W : World} (h : AlI w0 g0 go s W) : (alB g0 go).ok W := by
  obtain ⟨vo, h1, h2⟩ := h.bo
  exact ⟨h.hs.2, ze7 h1, fun v k hv hk => by rw [h1] at hv; injection hv with hv; injection hv with hv; rw [show v = vo by simpa using hv.symm] at hk; exact Kd.S_lt h2 k hk⟩
theorem AlG.fill {s s1 : List (List S69)} {vo v1 : Value} {W V V1 : World} (h : AlI w0 g0 go s W) (ho : W.heap[go]? = some (.cells #[vo] 43 (0, 0))) (hr : Kd.S (Kd.slice 69 k69) 29 W g0 (fun k => k = g0 ∨ go < k) vo s) (g : AlG w0 g0 go vo v1 s1 W V) (h7 : V1.heap[go]? = some (.cells #[v1] 43 (0, 0))) (hb : ∀ base, base ≤ go → Below base V V1) (hfar : ∀ k, k ≠ go → V1.heap[k]? = V.heap[k]?) : AlI w0 g0 go s1 V1 ∧ KeptB W V1 (alB g0 go) := by
  obtain ⟨i1, i2⟩ := h.hs
  have l1 := ze7 ho
  have hz : V.heap.size ≤ V1.heap.size := (hb 0 (Nat.zero_le _)).size
  have hI : AlI w0 g0 go s1 V1 := ⟨g.below.trans (hb _ (by omega)), h.hs, v1, h7, Kd.S_step g.row (fun k hk hlt => hfar k (by omega))⟩
  refine ⟨hI, ⟨Nat.le_trans g.size hz, fun i hi hn => ?_⟩, fun k hk => ?_, fun _ => hI.okk⟩
  · have n1 : i ≠ go := fun e => hn ⟨hi, .inl e⟩
    refine (hfar i n1).trans (g.old i hi (fun e => hn ⟨hi, ?_⟩))
    rcases (Kd.S_R hr).1 i e.symm with q | q
    · exact .inr (.inl q)
    · exact .inr (.inr ⟨q, vo, ho, e.symm⟩)
  · rcases hk.2 with q | q | ⟨q, v, hv, hw⟩
    · exact .inl ⟨by omega, .inl q⟩
    · exact .inl ⟨by omega, .inr (.inl q)⟩
    · rw [h7] at hv
      injection hv with hv
      injection hv with hv
      rw [show v = v1 by simpa using hv.symm] at hw
      rcases g.own with e | ⟨b, e, hb2⟩
      · rw [e] at hw
        exact .inl ⟨Kd.S_lt hr k hw, .inr (.inr ⟨q, vo, ho, hw⟩)⟩
      · rw [e] at hw
        injection hw with hw
        exact .inr (by omega)
set_option maxHeartbeats 8000000 in
set_option maxRecDepth 100000 in
theorem yff (s0 s' : List (List S69)) (b : Bool) (W : World) (Ac : Option Addr) (cc : Nat) (code : List S69) (g cg : Nat) (cols : List (List Int)) (hI : AlI w0 g0 go s0 W) (hc : ∀ W', Kept W W' ((alB g0 go).B W) → Kd.C k69 W' Ac code.length code) (hcc : code.length ≤ cc) (h : alSt code cols s0 = some (b, s')) :
    Calls Tryz.prog 67 (#[.slice Ac code.length cc, .slice (some ⟨g, 0, none⟩) cols.length cg] ++ #[.pointer (some ⟨go, 0, none⟩)]) W fun e W' => e = .returned (.bool b) ∧ AlI w0 g0 go s' W' ∧ KeptB W W' (alB g0 go) := by
  have HI := Aside0.mk hI
  have HC := Aside0.mk hc
  have HCC := Aside0.mk hcc
  unfold alSt at h
  have hl : code.length < 1048576 ∧ s0.length < 1048576 := by
    by_cases q : code.length < 1048576 ∧ s0.length < 1048576
    · exact q
    · rw [if_neg q] at h
      cases h
  rw [if_pos hl] at h
  obtain ⟨hbq, rfl⟩ : decide (((s0 ++ [code]).length : Int) ≤ 50) = b ∧ s0 ++ [code] = s' := Prod.mk.inj (Option.some.inj h)
  have HL2 := Aside0.mk hl.2
  have HBL := Aside0.mk (show decide ((s0.length : Int) + 1 ≤ 50) = b by rw [← hbq]; simp)
  have HL := Aside0.mk (show zhu code = some code by unfold zhu; simp only [Option.bind_some]; rw [if_pos (by simp; omega)]; rfl)
  obtain ⟨vo, ho, hr⟩ := hI.bo
  obtain ⟨Al, cl, rfl⟩ := Kd.S_slice hr
  have HO := Aside0.mk ho
  have HR := Aside0.mk hr
  clear h hl hI hc hcc ho hr hbq
  go_enter Tryz.func67, Tryz.ntmps67
  go_wp2_with fail
  refine zot [[], [], [1], [1, 2], [0, 1, 2, 3], [0, 1, 2, 3, 4]] [[4, 5], [2, 3, 4, 5], [3, 4, 5], [4, 5], [5], []] (zgr [2, 3, 4])
    (zjd [.slice Al s0.length cl, .slice Ac code.length cc, undef, undef, undef, undef])
    (fun L s V => (L 4 = false → Below W.heap.size W V) ∧ (L 2 = true → L 3 = false → ∃ A' c', s 2 = .slice A' code.length c' ∧ Kd.R k69 69 V W.heap.size (fun _ => True) (.slice A' code.length c') code) ∧ (L 3 = true → L 4 = false → ∃ V0 A' c', V = World.alloc V0 (.cells #[.slice A' code.length c'] 29) ∧ s 3 = .slice (some ⟨V0.heap.size, 0, none⟩) 1 1 ∧ Below W.heap.size W V0 ∧ Kd.R k69 69 V0 W.heap.size (fun _ => True) (.slice A' code.length c') code) ∧ (L 4 = true → L 5 = false → AlG w0 g0 go (.slice Al s0.length cl) (s 4) (s0 ++ [code]) W V) ∧ (L 5 = true → AlI w0 g0 go (s0 ++ [code]) V ∧ KeptB W V (alB g0 go)))
    rfl (fun _ _ _ _ _ h => h) (by kernel_rfl) ⟨fun _ => ze8 (Below.refl _ _), fun h => Bool.noConfusion h, fun h => Bool.noConfusion h, fun h => Bool.noConfusion h, fun h => Bool.noConfusion h⟩ ⟨?_, ?_, ?_, ?_, ?_, ?_, trivial⟩ ?_
  · intro L s V hu hd hn hJ
    have z0 := zae (zai HO.out (hJ.1 (zaj _ hn 4 (by decide)))) 0
    exact rm_v ⟨fun _ => rfl, hJ⟩
  · exact fun L s V hu hd hn hJ => rm_v ⟨fun _ => rfl, hJ⟩
  · rintro L s V hu hd hn ⟨hB, g2, g3, g4, g5⟩
    have hb0 := hB (zaj _ hn 4 (by decide))
    refine zil Tryz.func61 (by kernel_rfl) rfl #[.slice Ac code.length cc] (by rfl) rfl (by simp only [List.map_toArray, List.map_cons, List.map_nil]; rfl) ((zoi Ac cc code code V (HC.out V (zf8 hb0 _)) HCC.out HL.out).mono ?_)
    rintro e U ⟨v0, rfl, hR, hb⟩
    obtain ⟨A', c', rfl⟩ := Kd.R_slice hR
    exact ⟨_, rfl, fun h => absurd h (by decide), fun _ => zaa hb0 hb, fun _ _ => ⟨A', c', rfl, Kd.R_lower hR hb0.size⟩, fun h => absurd (h.symm.trans (zaj _ hn 3 (by decide))) (by simp), fun h => absurd (h.symm.trans (zaj _ hn 4 (by decide))) (by simp), fun h => absurd (h.symm.trans (zaj _ hn 5 (by decide))) (by simp)⟩
  · rintro L s V hu hd hn ⟨hB, g2, g3, g4, g5⟩
    have hb0 := hB (zaj _ hn 4 (by decide))
    obtain ⟨A', c', e2, hR⟩ := g2 (zaj _ hd 2 (by decide)) hu
    refine zj7 (v := .slice (some ⟨V.heap.size, 0, none⟩) 1 1) (w1 := V.alloc (.cells #[.slice A' code.length c'] 29)) (by rfl) ⟨fun h => absurd h (by decide), fun _ => zba hb0 _, fun _ h => Bool.noConfusion h, fun _ _ => ⟨V, A', c', rfl, rfl, hb0, hR⟩, fun h => absurd (h.symm.trans (zaj _ hn 4 (by decide))) (by simp), fun h => absurd (h.symm.trans (zaj _ hn 5 (by decide))) (by simp)⟩ ?_
    simp only [zdp, riGo, zgt, zf9, zgr, zjd, mixV, Nat.reduceBEq, Nat.reduceAdd, List.headD, List.tail, List.getD, List.getElem?_cons_zero, List.getElem?_cons_succ, Option.getD_some, cond_true, cond_false]
    rw [e2]
    first | (go_simp; done) | (go_simp; rfl)
  · rintro L s V hu hd hn ⟨hB, g2, g3, g4, g5⟩
    obtain ⟨V0, A', c', rfl, e3, hb0, hR⟩ := g3 (zaj _ hd 3 (by decide)) hu
    have hl := HL2.out
    have hz := hb0.size
    have l1 := ze7 HO.out
    have hs := HI.out.hs
    have hown := Kd.R_base hR
    have hlt := Kd.S_lt HR.out
    refine rm_S (Kd.slice 69 k69) g0 (by rfl) (.tmp 6) (.tmp 9) 43 29 (.slice none 0 0) 24 rfl Tryz.underlying43 (by kernel_rfl) rfl (by decide) (by decide) (.slice Al s0.length cl) s0 code [.slice A' code.length c'] (fun k => k = g0 ∨ go < k) (fun k => some k = (Value.slice A' code.length c').ownBlock) (by rfl) e3 (Kd.M_row (Kd.R_lower (Kd.R_tight rfl hR) (by omega))) (fun k hk => ?_) (fun k hk => ?_) (Kd.S_mono (Kd.S_below (Kd.S_bound HR.out) hb0) (fun k hk => ⟨hk.1, fun e => ?_⟩)) (by omega) (by omega) (fun v1 w1 h1 h2 h3 h4 => ?_)
    · have := hown k hk.symm
      exact ⟨.inr (by omega), fun e => by have := hlt k e.symm; omega⟩
    · exact .inr (by omega)
    · have := hown k e.symm
      have := hk.2.2.1
      omega
    · exact ⟨fun h => absurd h (by decide), fun h => Bool.noConfusion h, fun _ h => absurd (h.symm.trans (zaj _ hd 3 (by decide))) (by simp), fun _ h => Bool.noConfusion h, fun _ _ => ⟨(zaa HI.out.below hb0).trans (h2.mono (by omega)), Nat.le_trans hz h2.size, fun k hk hn => (h3.block k (by omega) hn).trans (hb0.block k hk), h1, h4.imp id (fun ⟨b, e, hb⟩ => ⟨b, e, by omega⟩)⟩, fun h => absurd (h.symm.trans (zaj _ hn 5 (by decide))) (by simp)⟩
  · rintro L s V hu hd hn ⟨hB, g2, g3, g4, g5⟩
    have hG := g4 (zaj _ hd 4 (by decide)) hu
    have hv := Kd.R_val (Kd.S_R hG.row)
    have hgo : V.heap[go]? = some (.cells #[.slice Al s0.length cl] 43 (0, 0)) := (hG.old go (ze7 HO.out) (fun e => by rcases (Kd.S_R HR.out).1 go e.symm with q | q <;> have := HI.out.hs <;> omega)).trans HO.out
    refine zzr (by rfl) (t := 43) (p := .tmp 2) (v := .tmp 10) rfl rfl (g := go) (u := s 4) (seg := [s 4]) (by rfl) (by rfl) hgo hv.1 (by kernel_rfl) rfl (fun q hq => by rw [List.mem_singleton.1 hq]; exact hv.2) (fun W1 h1 h2 h3 => ?_)
    exact ⟨fun _ => rfl, fun h => absurd (h.symm.trans (zaj _ hd 4 (by decide))) (by simp), fun _ h => absurd (h.symm.trans (zaj _ hd 3 (by decide))) (by simp), fun _ h => absurd (h.symm.trans (zaj _ hd 4 (by decide))) (by simp), fun _ h => Bool.noConfusion h, fun _ => AlG.fill HI.out HO.out HR.out hG h1 h2 h3⟩
  · rintro L s V hL ⟨hB, g2, g3, g4, g5⟩
    obtain ⟨hI, hK⟩ := g5 (hL 5 (by rfl))
    obtain ⟨v1, ho, hr⟩ := hI.bo
    obtain ⟨A1, c1, rfl⟩ := Kd.S_slice hr
    have HI1 := Aside0.mk hI
    have HK1 := Aside0.mk hK
    have q1 := zae ho 0
    clear hB g2 g3 g4 g5 hI hK hL ho hr
    simp only [zdp, riGo, zgt, zf9, zgr, zjd, mixV, Nat.reduceBEq, Nat.reduceAdd, List.headD, List.tail, List.getD, List.getElem?_cons_zero, List.getElem?_cons_succ, Option.getD_some, cond_true, cond_false]
    go_wp2_with fail
    go_ret
    exact ⟨by rw [← HBL.out]; rfl, HI1.out.step (by repeat (first | exact Below.refl _ _ | apply zbn | apply zbd)), zd1 HK1.out (zcb (by repeat (first | exact Below.refl _ _ | apply zbn | apply zbd)))⟩
theorem yfg : EachC (alB g0 go) 67 #[.pointer (some ⟨go, 0, none⟩)] (AlI w0 g0 go) alSt where
  fn := ⟨_, Tryz.func67, by kernel_rfl, rfl⟩
  call := fun s s' b W Ac cc code g cg cols hI hc hcc hsl hg hcg h => yff s s' b W Ac cc code g cg cols hI hc hcc h
  stab := fun s W W' hI hb => hI.step hb
end
theorem zzx (c : List S69) (cs : List (List Int)) (s : List (List S69)) : LeO (alSt c cs s) (alSt c cs s) := LeO.refl _
def alF (k : Nat) (l0 : List S62) (os : List ByteArray) (ims : List Int) (most : Int) : Option (List (List S69) × Bool) :=
  (zec k l0 os ims most).bind fun q => if q.2 = true then (zfi k l0).bind fun tb => (zc9 k tb).bind fun goal => (pgP k os ims q.1 (rcSt k q.1 goal alSt) ([] : List (List S69))).bind fun r => if (r.2.length : Int) > 50 then some ([], false) else some (r.2, true) else some ([], false)
theorem ybz (k : Nat) (l0 : List S62) (os : List ByteArray) (ims : List Int) (most : Int) : LeO (alF k l0 os ims most) (alF (k + 1) l0 os ims most) :=
  LeO.bind (zox _ _ _ _ _) (fun q => zea (LeO.bind (znr _ _) (fun tb => LeO.bind (zjq _ _) (fun goal => LeO.bind (zx4 k os ims _ _ _ (zvz k _ goal _ _ zzx) _) (fun r => LeO.refl _)))) (LeO.refl _))
set_option maxHeartbeats 8000000 in
set_option maxRecDepth 100000 in
theorem yb0 (k : Nat) (A0 : Option Addr) (c0 : Nat) (l0 : List S62) (Ao : Option Addr) (co : Nat) (os : List ByteArray) (Ai : Option Addr) (ci : Nat) (ims : List Int) (most : Int) (r1 : List (List S69)) (r2 : Bool) (w : World) (hr0 : Kd.C k62 w A0 l0.length l0) (hc0 : l0.length ≤ c0)
    (hro : Kd.C Kd.string w Ao os.length os) (hco : os.length ≤ co) (hri : Kd.C (Kd.int .i64) w Ai ims.length ims) (hci : ims.length ≤ ci) (h : alF k l0 os ims most = some (r1, r2)) :
    Calls Tryz.prog 26 #[.slice A0 l0.length c0, .agg #[.slice Ao os.length co, .slice Ai ims.length ci], .int .i64 most] w fun e w' => ∃ v0_ : Value, e = .returned (.tuple #[v0_, .bool r2]) ∧ Kd.S (Kd.slice 69 k69) 29 w' w.heap.size (fun _ => True) v0_ r1 ∧ Below w.heap.size w w' := by
  have HE := Aside0.mk hr0
  have HCE := Aside0.mk hc0
  have HO := Aside0.mk hro
  have HM := Aside0.mk hri
  have HCO := Aside0.mk hco
  have HCI := Aside0.mk hci
  unfold alF at h
  obtain ⟨⟨n, ok⟩, hok, h⟩ := Option.bind_eq_some_iff.1 h
  have HOK := Aside0.mk hok
  have HH := Aside0.mk h
  clear hr0 hc0 hro hri hco hci hok h
  go_enter Tryz.func26, Tryz.ntmps26
  go_upto_region 1 with fail
  obtain ⟨W0, hW0⟩ : ∃ W0, w.alloc (.cells #[.slice Ao os.length co, .slice Ai ims.length ci] 34) = W0 := ⟨_, rfl⟩
  have HB := Aside0.mk (show Below w.heap.size w W0 from hW0 ▸ zba (Below.refl _ _) _)
  have B1 := Aside0.mk (show W0.heap[w.heap.size]? = some (.cells #[.slice Ao os.length co, .slice Ai ims.length ci] 34 (0, 0)) from hW0 ▸ zi4 w _)
  rw [hW0]
  clear hW0
  have q1 := zae B1.out 0
  have q2 := zae B1.out 1
  cases ok with
  | false =>
    obtain ⟨rfl, rfl⟩ := Prod.mk.inj (Option.some.inj ((if_neg (by simp)).symm.trans HH.out))
    clear HH
    go_wp2_with (go_at_call 66; go_must (refine (zkb k A0 c0 l0 Ao co os Ai ci ims most n false _ (Kd.C_below HE.out HB.out) HCE.out (Kd.C_below HO.out HB.out) HCO.out (Kd.C_below HM.out HB.out) HCI.out HOK.out).mono ?_; rintro e w1 ⟨rfl, hb⟩; have HB1 := Aside0.mk (zaa HB.out hb); clear hb))
    go_ret2
    exact ⟨_, rfl, Kd.S_nil _ _ _ _ _, (by repeat (first | exact HB1.out | apply zbn | apply zbd))⟩
  | true =>
    have h := HH.out
    rw [if_pos rfl] at h
    obtain ⟨tb, htb, h⟩ := Option.bind_eq_some_iff.1 h
    obtain ⟨goal, hgo, h⟩ := Option.bind_eq_some_iff.1 h
    obtain ⟨⟨b, res⟩, hp, h⟩ := Option.bind_eq_some_iff.1 h
    have HTB := Aside0.mk htb
    have HGO := Aside0.mk hgo
    have HP := Aside0.mk hp
    have HF := Aside0.mk h
    clear HH h htb hgo hp
    go_wp2_with (first
      | (go_at_call 66; go_must (refine (zkb k A0 c0 l0 Ao co os Ai ci ims most n true _ (Kd.C_below HE.out HB.out) HCE.out (Kd.C_below HO.out HB.out) HCO.out (Kd.C_below HM.out HB.out) HCI.out HOK.out).mono ?_; rintro e w1 ⟨rfl, hb⟩; have HB1 := Aside0.mk (zaa HB.out hb); have B11 := Aside0.mk (zai B1.out hb); clear hb q1 q2))
      | ((with_reducible refine zkx (N := 10) rfl ?_); go_must (have h4 := zi4 w1 (.cells #[] 29); refine zh9 ?hg (N := 10) ?hd (cs := #[.slice none 0 0]) (t := 43) ?hr ?_; (case hd => rfl); (case hg => rfl); (case hr => first | (go_simp; done) | (go_simp; rfl)); intro go hg w5 hbox hb; have hbE := zaa (zba (Below.refl w1.heap.size w1) (.cells #[] 29)) hb; have GO := Aside0.mk (show go = w1.heap.size + 1 by simpa using hg); have BO := Aside0.mk hbox; have BE := Aside0.mk (zai h4 hb); have HB5 := Aside0.mk hbE; clear hg hbox hb h4 hbE))
      | ((with_reducible refine zi1 (t := 43) (p := 10) rfl ?_); go_must (refine ziv rfl (t := 43) (p := 10) rfl rfl (g := go) (u := .slice (some ⟨w1.heap.size, 0, none⟩) 0 0) (seg := [.slice (some ⟨w1.heap.size, 0, none⟩) 0 0]) rfl rfl BO.out rfl rfl rfl (by simp [Value.oneCell']) ?_; intro w6 hbb hbw hfar; have HI6 := Aside0.mk (show AlI w1 w1.heap.size go [] w6 from ⟨HB5.out.trans (hbw _ (by have := GO.out; omega)), ⟨Nat.le_refl _, by have := GO.out; omega⟩, _, hbb, fun _ => 0, fun k hk => by simp only [Value.ownBlock, Option.some.injEq] at hk; exact .inl hk.symm, [], ⟨by simp, .inr ⟨w1.heap.size, 0, #[], rfl, Nat.le_refl _, (hfar _ (by have := GO.out; omega)).trans BE.out, Nat.le_refl _, Nat.zero_le _, by simp, by simp⟩⟩, Reps.none _ _⟩); have HBW := Aside0.mk (zaa HB1.out HI6.out.below); have q1 := zae (zai B11.out HI6.out.below) 0; have q2 := zae (zai B11.out HI6.out.below) 1; clear hbb hbw hfar BO BE HB5)))
    simp only [Act.put, List.setIfInBounds_toArray, List.set_cons_zero, List.set_cons_succ]
    refine zot [[], [], [], [2], [2, 3], [], [0, 1, 2, 3, 4, 5]] [[6], [6], [3, 4, 6], [4, 6], [6], [6], []] (zgr [3, 4, 6])
      (zjd [.agg #[.slice Ao os.length co, .slice Ai ims.length ci], .int .i64 n, .slice A0 l0.length c0, undef, undef, .func (.func 67) #[] #[.pointer (some ⟨go, 0, none⟩)], undef])
      (fun L s V => (L 6 = false → Below w6.heap.size w6 V) ∧ (L 3 = true → L 4 = false → ∃ At ct, s 3 = .slice At tb.length ct ∧ tb.length ≤ ct ∧ Kd.C (Kd.int .i64) V At tb.length tb) ∧ (L 4 = true → L 6 = false → ∃ Ag cg, s 4 = .slice Ag goal.length cg ∧ Kd.R (Kd.int .u8) 5 V w6.heap.size (fun _ => True) (.slice Ag goal.length cg) goal) ∧ (L 6 = true → AlI w1 w1.heap.size go res V ∧ Below w.heap.size w V))
      rfl (fun _ _ _ _ _ h => h) (by kernel_rfl) ⟨fun _ => ze8 (Below.refl _ _), fun h => Bool.noConfusion h, fun h => Bool.noConfusion h, fun h => Bool.noConfusion h⟩ ⟨?_, ?_, ?_, ?_, ?_, ?_, ?_, trivial⟩ ?_
    · intro L s V hu hd hn hJ
      have hb0 := hJ.1 (zaj _ hn 6 (by decide))
      have z0 := zae (zai B11.out (zaa HI6.out.below hb0)) 0
      have z1 := zae (zai B11.out (zaa HI6.out.below hb0)) 1
      exact rm_v ⟨fun _ => rfl, hJ⟩
    · exact fun L s V hu hd hn hJ => rm_v ⟨fun _ => rfl, hJ⟩
    · exact fun L s V hu hd hn hJ => rm_v ⟨fun _ => rfl, hJ⟩
    · rintro L s V hu hd hn ⟨hB, g3, g4, g6⟩
      have hb0 := hB (zaj _ hn 6 (by decide))
      refine zil Tryz.func57 (by kernel_rfl) rfl #[.slice A0 l0.length c0] (by rfl) rfl (by simp only [List.map_toArray, List.map_cons, List.map_nil]; rfl) ((zmr k A0 c0 l0 tb V (Kd.C_below HE.out (zaa HBW.out hb0)) HCE.out HTB.out).mono ?_)
      rintro e U ⟨v0, rfl, hR, hb⟩
      obtain ⟨At, ct, rfl⟩ := Kd.R_slice hR
      exact ⟨_, rfl, fun h => absurd h (by decide), fun _ => zaa hb0 hb, fun _ _ => ⟨At, ct, rfl, (Kd.R_reads' hR).2⟩, fun h => absurd (h.symm.trans (zaj _ hn 4 (by decide))) (by simp), fun h => absurd (h.symm.trans (zaj _ hn 6 (by decide))) (by simp)⟩
    · rintro L s V hu hd hn ⟨hB, g3, g4, g6⟩
      have hb0 := hB (zaj _ hn 6 (by decide))
      obtain ⟨At, ct, e3, hle, hC⟩ := g3 (zaj _ hd 3 (by decide)) hu
      refine zil Tryz.func56 (by kernel_rfl) rfl #[.slice At tb.length ct] (by rfl) rfl (by simp only [List.map_toArray, List.map_cons, List.map_nil]; rw [show Act.eval _ (.tmp 24) = s 3 from rfl, e3]) ((zhy k At ct tb goal V hC hle HGO.out).mono ?_)
      rintro e U ⟨v0, rfl, hR, hb⟩
      obtain ⟨Ag, cg, rfl⟩ := Kd.R_slice hR
      exact ⟨_, rfl, fun h => absurd h (by decide), fun _ => zaa hb0 hb, fun _ h => Bool.noConfusion h, fun _ _ => ⟨Ag, cg, rfl, Kd.R_lower hR hb0.size⟩, fun h => absurd (h.symm.trans (zaj _ hn 6 (by decide))) (by simp)⟩
    · exact fun L s V hu hd hn hJ => rm_v ⟨fun _ => rfl, hJ⟩
    · rintro L s V hu hd hn ⟨hB, g3, g4, g6⟩
      have hb0 := hB hu
      obtain ⟨Ag, cg, e4, hR⟩ := g4 (zaj _ hd 4 (by decide)) hu
      have hbw := zaa HBW.out hb0
      have hI := HI6.out.step hb0
      refine zil Tryz.func58 (by kernel_rfl) rfl #[.agg #[.slice Ao os.length co, .slice Ai ims.length ci], .int .i64 n, .slice Ag goal.length cg, .func (.func 67) #[] #[.pointer (some ⟨go, 0, none⟩)]] (by rfl) rfl (by simp only [List.map_toArray, List.map_cons, List.map_nil]; rw [show Act.eval _ (.tmp 25) = s 4 from rfl, e4]; rfl) ((zzu k (yfg (w0 := w1) (g0 := w1.heap.size) (go := go)) Ao co os Ai ci ims n Ag cg goal [] res b V hI hI.okk (Kd.C_below HO.out hbw) HCO.out (Kd.C_below HM.out hbw) HCI.out (Kd.R_reads' hR).2.1 (fun W' hk => (Kd.R_reads' (R_kept hR hk (fun k hk => Bs.old _ HI6.out.okk hb0 hk))).2.2) HP.out).mono ?_)
      rintro e U ⟨u, rfl, hI, hK⟩
      exact ⟨_, rfl, fun h => absurd h (by decide), fun h => Bool.noConfusion h, fun _ h => absurd (h.symm.trans (zaj _ hd 4 (by decide))) (by simp), fun _ h => Bool.noConfusion h, fun _ => ⟨hI, zaa HB1.out hI.below⟩⟩
    · rintro L s V hL ⟨hB, g3, g4, g6⟩
      obtain ⟨hI, hb⟩ := g6 (hL 6 (by rfl))
      obtain ⟨v1, ho, hr⟩ := hI.bo
      obtain ⟨A1, c1, rfl⟩ := Kd.S_slice hr
      have HR9 := Aside0.mk hr
      have HB9 := Aside0.mk hb
      have HZ := Aside0.mk HB1.out.size
      have q3 := zae ho 0
      clear hB g3 g4 g6 hI hb hL ho hr
      simp only [zdp, riGo, zgt, zf9, zgr, zjd, mixV, Nat.reduceBEq, Nat.reduceAdd, List.headD, List.tail, List.getD, List.getElem?_cons_zero, List.getElem?_cons_succ, Option.getD_some, cond_true, cond_false]
      by_cases hq : (res.length : Int) > 50
      · obtain ⟨rfl, rfl⟩ := Prod.mk.inj (Option.some.inj ((if_pos hq).symm.trans HF.out))
        have d1 : decide ((res.length : Int) > 50) = true := decide_eq_true hq
        clear HF
        go_wp2_with fail
        go_ret2
        exact ⟨_, rfl, Kd.S_nil _ _ _ _ _, (by repeat (first | exact HB9.out | apply zbn | apply zbd))⟩
      · obtain ⟨rfl, rfl⟩ := Prod.mk.inj (Option.some.inj ((if_neg hq).symm.trans HF.out))
        have d1 : decide ((res.length : Int) > 50) = false := decide_eq_false hq
        clear HF
        go_wp2_with fail
        go_ret2
        exact ⟨_, rfl, Kd.S_lower (Kd.S_mono (Kd.S_below HR9.out (by repeat (first | exact Below.refl _ _ | apply zbn | apply zbd))) (fun _ _ => trivial)) HZ.out, (by repeat (first | exact HB9.out | apply zbn | apply zbd))⟩
end Go.Proofs.YtnaafcleafbejaaGreat.Q
end
section
namespace Go.Proofs.YtnaafcleafbejaaGreat.Q
open Go.RowKit Go.Proofs.YtnaafcleafbejaaGreatW.PrintWords Go.Proofs.YtnaafcleafbejaaGreatW.PrintLast Go.Proofs.YtnaafcleafbejaaGreatW.PrintMore
attribute [local go_sem] zbc zbg zb8 zb9 za1 za2 zbi zbj
set_option linter.unusedVariables false
set_option linter.unusedSimpArgs false
set_option linter.unusedVariables false
def zfy (k : Nat) (l0 : List S62) (l1_0 : List ByteArray) (l1_1 : List Int) (a2 : Int) : Option (List (List S69) × Bool) := alF k l0 l1_0 l1_1 a2
theorem zv0 : ∀ a0 a1 a2 a3 k, LeO (zfy k a0 a1 a2 a3) (zfy (k + 1) a0 a1 a2 a3) := fun a0 a1 a2 a3 k => ybz k a0 a1 a2 a3
theorem zkc (k : Nat) (A0 : Option Addr) (c0 : Nat) (l0 : List S62) (A1_0 : Option Addr) (c1_0 : Nat) (l1_0 : List ByteArray) (A1_1 : Option Addr) (c1_1 : Nat) (l1_1 : List Int) (a2 : Int) (r1 : List (List S69)) (r2 : Bool) (w : World) (hr0 : Kd.C k62 w A0 l0.length l0) (hc0 : l0.length ≤ c0) (hr1_0 : Kd.C Kd.string w A1_0 l1_0.length l1_0) (hc1_0 : l1_0.length ≤ c1_0) (hr1_1 : Kd.C (Kd.int .i64) w A1_1 l1_1.length l1_1) (hc1_1 : l1_1.length ≤ c1_1) (h : zfy k l0 l1_0 l1_1 a2 = some (r1, r2)) :
   Calls Tryz.prog 26 #[.slice A0 l0.length c0, .agg #[.slice A1_0 l1_0.length c1_0, .slice A1_1 l1_1.length c1_1], .int .i64 a2] w fun e w' => ∃ v0_ : Value, e = .returned (.tuple #[v0_, .bool r2]) ∧ Kd.S (Kd.slice 69 k69) 29 w' w.heap.size (fun _ => True) v0_ r1 ∧ Below w.heap.size w w' :=
 yb0 k A0 c0 l0 A1_0 c1_0 l1_0 A1_1 c1_1 l1_1 a2 r1 r2 w hr0 hc0 hr1_0 hc1_0 hr1_1 hc1_1 h
end Go.Proofs.YtnaafcleafbejaaGreat.Q
end
