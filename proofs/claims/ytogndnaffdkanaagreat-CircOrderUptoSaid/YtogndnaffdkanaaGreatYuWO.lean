/- The statement CircOrderUptoSaid. It has no conditions of its own: what is proved is the given statement. -/
import Derived.Test.YtogndnaffdkanaaGreatBc
import Derived.Test.YtogndnaffdkanaaGreatBf
import Derived.Test.YtogndnaffdkanaaGreatBg
set_option linter.all false
namespace Go.Proofs.YtogndnaffdkanaaGreat.circOrder
open Go.ChangeShapes Go.WideShapes Go.ChangeAt Go.RowKit Go.Vc Yt
theorem law (avs:List AV) (h:ShArgs Tryz.prog 1048576 Tryz.f17.params.toList avs):Spec0 Tryz.prog 17 avs (·=.pr (.bool true)):=by rw[Tryz.params17] at h;obtain ⟨a0,r0,rfl,h0,h⟩:=h.cons;obtain ⟨a1,r1,rfl,h1,h⟩:=h.cons;obtain ⟨a2,r2,rfl,h2,h⟩:=h.cons;obtain ⟨a3,r3,rfl,h3,h⟩:=h.cons;have h:=h.nil;subst h;obtain ⟨l,e0,l0,t0⟩:=shNodes (h0.one (by kernel_rfl));obtain ⟨F,e1,l1,t1⟩:=shForms (h1.one (by kernel_rfl));obtain ⟨tabs,e2,l2,t2⟩:=shSets (h2.one (by kernel_rfl));obtain ⟨ord,e3,l3,t3⟩:=shInts (h3.one (by kernel_rfl));cases e0;cases e1;cases e2;cases e3;exact l17 l F tabs ord (lawP l0 t0 l1 t1) (lawT l2 t2) l3
set_option maxRecDepth 100000 in
theorem lifted (os:Os) (started:os.Started) (H:Type) (enc:TypeId×Value->H) (F:Stop.Interp) :
 ReturnsInHanded {} Tryz.checked os 17 .any ((Rows.OpenSpec.upto Rows.circOrderSpec).pre6 enc Tryz.prog Tryz.f17 Rows.circOrderUptoRow.domain false) (((Rows.OpenSpec.upto Rows.circOrderSpec).at F).post enc Tryz.prog Tryz.f17 false true false false):=by
 refine returnsInHanded_of_cond (C:=Tryz.checked) (s:=Rows.OpenSpec.upto Rows.circOrderSpec) (k:=Rows.uptoSmall) rfl own started (by kernel_rfl) Tryz.func17
  (OpenSpec.witness (enc:=enc) (C:=Tryz.checked) (s:=Rows.OpenSpec.upto Rows.circOrderSpec) (k:=Rows.uptoSmall) rfl false ⟨#[],#[.slice none 0 0,.slice none 0 0,.slice none 0 0,.slice none 0 0],[]⟩ 8 (by kernel_rfl) (by kernel_rfl) (by kernel_rfl)
   (x:=([.nil,.nil,.nil,.nil],[],[])) (by kernel_rfl) rfl (by kernel_rfl)) ?_
 intro W base args ds gs before hval hW _ hk _;have hV:=hW;obtain ⟨_,_,_,hV,_,_,_⟩:=hV;obtain ⟨rfl,rfl⟩:=trodVars_none hV;rw[List.append_nil] at hk;refine law_callsA (B:=1048576) kids sizes (by kernel_rfl) rfl (by kernel_rfl) Tryz.underlying4 hval hW (bound hk) (λhl=>?_) law;rw[Tryz.params17] at hl
 match ds,hl with
 | [_,_,_,_],_=>rfl
theorem facts:joinedFacts Tryz.prog 17 Tryz.f17 (Rows.OpenSpec.upto Rows.circOrderSpec).bare Rows.circOrderUptoRow=true:=
 facts_of laid rowed heard cutEnter cutLifts plain cutMade (by kernel_rfl) (by kernel_rfl) (by kernel_rfl) (by kernel_rfl) (by kernel_rfl) (by kernel_rfl) (by kernel_rfl) (by kernel_rfl) (by kernel_rfl) rfl rfl rfl rfl (by kernel_rfl)
theorem proved:Rows.CircOrderUptoSaid:=
 OpenClaim.holds_of_cond 17 Tryz.f17 rfl rfl rfl rfl rfl rfl rfl ⟨rfl,rfl,rfl,rfl,rfl⟩ rfl rfl rfl rfl rfl (by kernel_rfl) Tryz.func17 facts
  (of_decide_eq_true (by kernel_rfl)) (by unfold Func.isWrapper;first|(rw[if_pos (by decide +kernel)];kernel_rfl)|(rw[if_neg (by decide +kernel)];exact ⟨rfl,rfl⟩))
  (λos started H enc _ F=>lifted os started H enc F)
end Go.Proofs.YtogndnaffdkanaaGreat.circOrder
