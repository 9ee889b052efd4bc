/- (a name: the coder's texts as chapter 19 has them) -/
import Derived.Test.YtbeejmedekgjjaaCoH
