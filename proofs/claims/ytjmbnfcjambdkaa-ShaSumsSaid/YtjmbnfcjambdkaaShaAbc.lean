/- The digest of abc begins as the chapter says. -/
import Derived.Test.YtjmbnfcjambdkaaShaSum
namespace Go.Proofs.Ytjmbnfcjambdkaa
theorem sha_abc : (shaOf [97, 98, 99]).bytes.take 4 = [186, 120, 22, 191] := by decide +kernel
end Go.Proofs.Ytjmbnfcjambdkaa
